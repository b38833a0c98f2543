/- MbtyGood: the runs. -/
import Derived.Test.YtbfmjoheolgjeaaGreatDoorAvGdK
namespace Go.Av
theorem gd_run5_4 : ∀ (orc : Orc) (n more : Int), gdK orc n more 5 4 = true := fun orc n more => by kernel_rfl
theorem gd_run4_2 : ∀ (orc : Orc) (n more : Int), gdK orc n more 4 2 = true := fun orc n more => by kernel_rfl
theorem gd_run5_0 : ∀ (orc : Orc) (n more : Int), gdK orc n more 5 0 = true := fun orc n more => by kernel_rfl
theorem gd_run3_1 : ∀ (orc : Orc) (n more : Int), gdK orc n more 3 1 = true := fun orc n more => by kernel_rfl
theorem gd_run1_4 : ∀ (orc : Orc) (n more : Int), gdK orc n more 1 4 = true := fun orc n more => by kernel_rfl
theorem gd_run2_0 : ∀ (orc : Orc) (n more : Int), gdK orc n more 2 0 = true := fun orc n more => by kernel_rfl
theorem gd_run0_3 : ∀ (orc : Orc) (n more : Int), gdK orc n more 0 3 = true := fun orc n more => by kernel_rfl
end Go.Av
