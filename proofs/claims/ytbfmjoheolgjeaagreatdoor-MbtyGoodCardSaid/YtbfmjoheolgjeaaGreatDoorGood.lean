/- MbtyGood returns true, whatever the numbers: the card's statement. Each of the thirty pairs of texts is run by an evaluator that is proved right against the model (the texts whose names go on with Av); the kernel does the runs. Conditions: those of the row and its card, none beside. -/
import Derived.Test.YtbfmjoheolgjeaaGreatDoorGoodRow
import Derived.Test.YtbfmjoheolgjeaaGreatDoorAvGd
namespace Go.Proofs.YtbfmjoheolgjeaaGreatDoor
theorem mbtyGood_card_holds : Rows.MbtyGoodCardSaid := good_card fun a0 a1 w => Go.Av.gd_calls a0 a1 w
#print axioms mbtyGood_card_holds
end Go.Proofs.YtbfmjoheolgjeaaGreatDoor
