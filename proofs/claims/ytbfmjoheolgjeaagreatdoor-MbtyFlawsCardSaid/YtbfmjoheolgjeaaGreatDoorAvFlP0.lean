/- MbtyFlaws: the runs. -/
import Derived.Test.YtbfmjoheolgjeaaGreatDoorAvFlK
namespace Go.Av
theorem fl_run0 : ∀ (orc : Orc) (n : Int), flK orc n 0 = true := fun orc n => by kernel_rfl
theorem fl_run4 : ∀ (orc : Orc) (n : Int), flK orc n 4 = true := fun orc n => by kernel_rfl
theorem fl_run8 : ∀ (orc : Orc) (n : Int), flK orc n 8 = true := fun orc n => by kernel_rfl
theorem fl_run12 : ∀ (orc : Orc) (n : Int), flK orc n 12 = true := fun orc n => by kernel_rfl
end Go.Av
