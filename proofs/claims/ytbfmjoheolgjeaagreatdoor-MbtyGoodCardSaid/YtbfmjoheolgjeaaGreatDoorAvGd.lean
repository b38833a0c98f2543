/- MbtyGood returns true: its contract. -/
import Derived.Test.YtbfmjoheolgjeaaGreatDoorAvY
import Derived.Test.YtbfmjoheolgjeaaGreatDoorAvGdP0
import Derived.Test.YtbfmjoheolgjeaaGreatDoorAvGdP1
import Derived.Test.YtbfmjoheolgjeaaGreatDoorAvGdP2
import Derived.Test.YtbfmjoheolgjeaaGreatDoorAvGdP3
import Derived.ProofKit
namespace Go.Av
open Go.Proofs

noncomputable def modG : Orc := fun y m => some (y % (m : Int))

theorem below_nat (n : Int) (m : Nat) (hm : 0 < m) : ∃ k : Nat, k < m ∧ n % (m : Int) = k := by
  have h1 := Int.emod_nonneg n (show (m : Int) ≠ 0 by omega)
  have h2 := Int.emod_lt_of_pos n (show (0 : Int) < (m : Int) by omega)
  obtain ⟨k, hk⟩ := Int.eq_ofNat_of_zero_le h1
  exact ⟨k, by omega, hk⟩

theorem gd_true (n more : Int) : runW tab 24 171 5 ms56 modG 100000 3 [.int .i64 n, .int .i64 more] = true := by
  rw [gd_split]
  obtain ⟨a, ha, ea⟩ := below_nat n 6 (by decide)
  obtain ⟨b, hb, eb⟩ := below_nat more 5 (by decide)
  show gdK modG n more (n % ((6 : Nat) : Int)) (more % ((5 : Nat) : Int)) = true
  rw [ea, eb]
  match a, ha, b, hb with
  | 0, _, 0, _ => exact gd_run0_0 _ _ _
  | 0, _, 1, _ => exact gd_run0_1 _ _ _
  | 0, _, 2, _ => exact gd_run0_2 _ _ _
  | 0, _, 3, _ => exact gd_run0_3 _ _ _
  | 0, _, 4, _ => exact gd_run0_4 _ _ _
  | 1, _, 0, _ => exact gd_run1_0 _ _ _
  | 1, _, 1, _ => exact gd_run1_1 _ _ _
  | 1, _, 2, _ => exact gd_run1_2 _ _ _
  | 1, _, 3, _ => exact gd_run1_3 _ _ _
  | 1, _, 4, _ => exact gd_run1_4 _ _ _
  | 2, _, 0, _ => exact gd_run2_0 _ _ _
  | 2, _, 1, _ => exact gd_run2_1 _ _ _
  | 2, _, 2, _ => exact gd_run2_2 _ _ _
  | 2, _, 3, _ => exact gd_run2_3 _ _ _
  | 2, _, 4, _ => exact gd_run2_4 _ _ _
  | 3, _, 0, _ => exact gd_run3_0 _ _ _
  | 3, _, 1, _ => exact gd_run3_1 _ _ _
  | 3, _, 2, _ => exact gd_run3_2 _ _ _
  | 3, _, 3, _ => exact gd_run3_3 _ _ _
  | 3, _, 4, _ => exact gd_run3_4 _ _ _
  | 4, _, 0, _ => exact gd_run4_0 _ _ _
  | 4, _, 1, _ => exact gd_run4_1 _ _ _
  | 4, _, 2, _ => exact gd_run4_2 _ _ _
  | 4, _, 3, _ => exact gd_run4_3 _ _ _
  | 4, _, 4, _ => exact gd_run4_4 _ _ _
  | 5, _, 0, _ => exact gd_run5_0 _ _ _
  | 5, _, 1, _ => exact gd_run5_1 _ _ _
  | 5, _, 2, _ => exact gd_run5_2 _ _ _
  | 5, _, 3, _ => exact gd_run5_3 _ _ _
  | 5, _, 4, _ => exact gd_run5_4 _ _ _

theorem hookG_ok : ∀ B, HookOK Tryz.prog B (hkW 24 171 5 ms56 modG) := fun B =>
  ⟨fun f args v h => (by cases h), xcW_ok (fun m h => (by
    have h' : bB (Nat.beq m 6) true (Nat.beq m 5) = true := h
    cases h6 : Nat.beq m 6 with
    | true => have := Nat.eq_of_beq_eq_true h6; omega
    | false => rw [h6] at h'; have := Nat.eq_of_beq_eq_true (show Nat.beq m 5 = true from h'); omega)) (fun y m v h => (by
    have h' : some (y % (m : Int)) = some v := h
    cases h'
    rfl))⟩

theorem gd_calls (n more : Int) (w : World) : Calls Tryz.prog 3 #[.int .i64 n, .int .i64 more] w fun e w' => e = .returned (.bool true) ∧ RowKit.Below w.heap.size w w' := by
  obtain ⟨S, h⟩ := runW_ok (gd_true n more)
  refine (calls_of_run tabGood hookG_ok h w #[.int .i64 n, .int .i64 more] ⟨rfl, fun i h1 h2 => ?_⟩).mono ?_
  · match i, h1 with
    | 0, _ => exact .int _ _
    | 1, _ => exact .int _ _
  · rintro e w' ⟨β', u, rfl, hu, hb⟩
    cases hu
    exact ⟨rfl, hb⟩
end Go.Av
