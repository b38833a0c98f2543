/- MbtyFlaws returns true, whatever the number: the card's statement. Each of the fourteen texts is run by an evaluator that is proved right against the model (the texts whose names go on with Av); the kernel does the runs. Conditions: those of the row and its card, none beside. -/
import Derived.Test.YtbfmjoheolgjeaaGreatDoorFlawRow
import Derived.Test.YtbfmjoheolgjeaaGreatDoorAvFl
namespace Go.Proofs.YtbfmjoheolgjeaaGreatDoor
theorem mbtyFlaws_card_holds : Rows.MbtyFlawsCardSaid := flaws_card fun a0 w _ => Go.Av.fl_calls a0 w
#print axioms mbtyFlaws_card_holds
end Go.Proofs.YtbfmjoheolgjeaaGreatDoor
