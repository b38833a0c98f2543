/- MbtyFlaws: the runs. -/
import Derived.Test.YtbfmjoheolgjeaaGreatDoorAvFlK
namespace Go.Av
theorem fl_run2 : ∀ (orc : Orc) (n : Int), flK orc n 2 = true := fun orc n => by kernel_rfl
theorem fl_run6 : ∀ (orc : Orc) (n : Int), flK orc n 6 = true := fun orc n => by kernel_rfl
theorem fl_run10 : ∀ (orc : Orc) (n : Int), flK orc n 10 = true := fun orc n => by kernel_rfl
end Go.Av
