/- MbtyFlaws: the runs. -/
import Derived.Test.YtbfmjoheolgjeaaGreatDoorAvFlK
namespace Go.Av
theorem fl_run1 : ∀ (orc : Orc) (n : Int), flK orc n 1 = true := fun orc n => by kernel_rfl
theorem fl_run5 : ∀ (orc : Orc) (n : Int), flK orc n 5 = true := fun orc n => by kernel_rfl
theorem fl_run9 : ∀ (orc : Orc) (n : Int), flK orc n 9 = true := fun orc n => by kernel_rfl
theorem fl_run13 : ∀ (orc : Orc) (n : Int), flK orc n 13 = true := fun orc n => by kernel_rfl
end Go.Av
