/- What 'Within' gives. -/
import Derived.Test.YtbfmjoheolgjeaaGreatDoorProg
import Derived.WalkKit
import Derived.IntWalk
namespace Go.Av
open Go.Proofs
theorem within_pos (y m : Int) (w : World) (h1 : ¬ m < 1) (hk : ¬ y.tmod m < 0) : Calls Tryz.prog 5 #[.int .i64 y, .int .i64 m] w fun e w' => e = .returned (.int .i64 (y.tmod m)) ∧ w' = w := by
  go_enter Tryz.func5, Tryz.ntmps5
  go_wp2
  go_ret
  exact ⟨rfl, rfl⟩
theorem within_neg (y m : Int) (w : World) (h1 : ¬ m < 1) (hk : y.tmod m < 0) : Calls Tryz.prog 5 #[.int .i64 y, .int .i64 m] w fun e w' => e = .returned (.int .i64 (RowKit.wrap64 (y.tmod m + m))) ∧ w' = w := by
  go_enter Tryz.func5, Tryz.ntmps5
  go_wp2
  go_ret
  exact ⟨rfl, rfl⟩
theorem within_small (y : Int) (m : Nat) (h1 : 1 ≤ m) (h2 : m ≤ 1000) (w : World) : Calls Tryz.prog 5 #[.int .i64 y, .int .i64 m] w fun e w' => e = .returned (.int .i64 (y % (m : Int))) ∧ w' = w := by
  have hm1 : (m : Int) ≠ 0 := by omega
  have hm0 : ¬ ((m : Int) < 1) := by omega
  have ht1 := Int.emod_nonneg y hm1
  have ht2 := Int.emod_lt_of_pos y (show (0 : Int) < m by omega)
  have ht3 := Int.emod_add_mul_ediv y m
  have ht4 := Int.tmod_add_mul_tdiv y m
  have ht5 : y.tmod m = y % m ∨ (y.tmod m = y % m - m ∧ y % m ≠ 0) := by
    rw [Int.tmod_eq_emod]
    split
    · exact .inl (by omega)
    · rename_i h
      refine .inr ⟨by rw [Int.natAbs_natCast], fun h0 => h (.inr (Int.dvd_of_emod_eq_zero h0))⟩
  by_cases hk : y.tmod m < 0
  · refine (within_neg y m w hm0 hk).mono ?_
    rintro e w' ⟨rfl, rfl⟩
    have : RowKit.wrap64 (y.tmod m + m) = y % m := by
      have e1 : y.tmod m + m = y % m := by omega
      rw [e1]
      unfold RowKit.wrap64
      omega
    rw [this]
    exact ⟨rfl, rfl⟩
  · refine (within_pos y m w hm0 hk).mono ?_
    rintro e w' ⟨rfl, rfl⟩
    have : y.tmod m = y % m := by omega
    rw [this]
    exact ⟨rfl, rfl⟩
end Go.Av
