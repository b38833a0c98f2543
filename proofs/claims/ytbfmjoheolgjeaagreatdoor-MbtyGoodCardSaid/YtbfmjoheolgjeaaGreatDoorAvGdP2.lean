/- MbtyGood: the runs. -/
import Derived.Test.YtbfmjoheolgjeaaGreatDoorAvGdK
namespace Go.Av
theorem gd_run4_4 : ∀ (orc : Orc) (n more : Int), gdK orc n more 4 4 = true := fun orc n more => by kernel_rfl
theorem gd_run5_1 : ∀ (orc : Orc) (n more : Int), gdK orc n more 5 1 = true := fun orc n more => by kernel_rfl
theorem gd_run4_1 : ∀ (orc : Orc) (n more : Int), gdK orc n more 4 1 = true := fun orc n more => by kernel_rfl
theorem gd_run4_0 : ∀ (orc : Orc) (n more : Int), gdK orc n more 4 0 = true := fun orc n more => by kernel_rfl
theorem gd_run3_0 : ∀ (orc : Orc) (n more : Int), gdK orc n more 3 0 = true := fun orc n more => by kernel_rfl
theorem gd_run0_4 : ∀ (orc : Orc) (n more : Int), gdK orc n more 0 4 = true := fun orc n more => by kernel_rfl
theorem gd_run1_1 : ∀ (orc : Orc) (n more : Int), gdK orc n more 1 1 = true := fun orc n more => by kernel_rfl
theorem gd_run0_2 : ∀ (orc : Orc) (n more : Int), gdK orc n more 0 2 = true := fun orc n more => by kernel_rfl
end Go.Av
