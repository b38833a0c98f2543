/- MbtyGood: the runs. -/
import Derived.Test.YtbfmjoheolgjeaaGreatDoorAvGdK
namespace Go.Av
theorem gd_run5_2 : ∀ (orc : Orc) (n more : Int), gdK orc n more 5 2 = true := fun orc n more => by kernel_rfl
theorem gd_run4_3 : ∀ (orc : Orc) (n more : Int), gdK orc n more 4 3 = true := fun orc n more => by kernel_rfl
theorem gd_run2_4 : ∀ (orc : Orc) (n more : Int), gdK orc n more 2 4 = true := fun orc n more => by kernel_rfl
theorem gd_run3_2 : ∀ (orc : Orc) (n more : Int), gdK orc n more 3 2 = true := fun orc n more => by kernel_rfl
theorem gd_run1_3 : ∀ (orc : Orc) (n more : Int), gdK orc n more 1 3 = true := fun orc n more => by kernel_rfl
theorem gd_run2_1 : ∀ (orc : Orc) (n more : Int), gdK orc n more 2 1 = true := fun orc n more => by kernel_rfl
theorem gd_run0_0 : ∀ (orc : Orc) (n more : Int), gdK orc n more 0 0 = true := fun orc n more => by kernel_rfl
theorem gd_run0_1 : ∀ (orc : Orc) (n more : Int), gdK orc n more 0 1 = true := fun orc n more => by kernel_rfl
end Go.Av
