/- MbtyFlaws: the runs. -/
import Derived.Test.YtbfmjoheolgjeaaGreatDoorAvFlK
namespace Go.Av
theorem fl_run3 : ∀ (orc : Orc) (n : Int), flK orc n 3 = true := fun orc n => by kernel_rfl
theorem fl_run7 : ∀ (orc : Orc) (n : Int), flK orc n 7 = true := fun orc n => by kernel_rfl
theorem fl_run11 : ∀ (orc : Orc) (n : Int), flK orc n 11 = true := fun orc n => by kernel_rfl
end Go.Av
