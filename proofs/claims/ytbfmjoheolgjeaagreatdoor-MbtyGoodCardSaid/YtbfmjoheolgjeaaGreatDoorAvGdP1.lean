/- MbtyGood: the runs. -/
import Derived.Test.YtbfmjoheolgjeaaGreatDoorAvGdK
namespace Go.Av
theorem gd_run5_3 : ∀ (orc : Orc) (n more : Int), gdK orc n more 5 3 = true := fun orc n more => by kernel_rfl
theorem gd_run3_4 : ∀ (orc : Orc) (n more : Int), gdK orc n more 3 4 = true := fun orc n more => by kernel_rfl
theorem gd_run3_3 : ∀ (orc : Orc) (n more : Int), gdK orc n more 3 3 = true := fun orc n more => by kernel_rfl
theorem gd_run2_3 : ∀ (orc : Orc) (n more : Int), gdK orc n more 2 3 = true := fun orc n more => by kernel_rfl
theorem gd_run2_2 : ∀ (orc : Orc) (n more : Int), gdK orc n more 2 2 = true := fun orc n more => by kernel_rfl
theorem gd_run1_2 : ∀ (orc : Orc) (n more : Int), gdK orc n more 1 2 = true := fun orc n more => by kernel_rfl
theorem gd_run1_0 : ∀ (orc : Orc) (n more : Int), gdK orc n more 1 0 = true := fun orc n more => by kernel_rfl
end Go.Av
