/- MbtyFlaws returns true: its contract. -/
import Derived.Test.YtbfmjoheolgjeaaGreatDoorAvY
import Derived.Test.YtbfmjoheolgjeaaGreatDoorAvFlP0
import Derived.Test.YtbfmjoheolgjeaaGreatDoorAvFlP1
import Derived.Test.YtbfmjoheolgjeaaGreatDoorAvFlP2
import Derived.Test.YtbfmjoheolgjeaaGreatDoorAvFlP3
import Derived.ProofKit
namespace Go.Av
open Go.Proofs

noncomputable def modO : Orc := fun y m => some (y % (m : Int))

theorem fl_true (n : Int) : runW tab 24 171 5 ms14 modO 100000 4 [.int .i64 n] = true := by
  rw [fl_split]
  show flK modO n (n % ((14 : Nat) : Int)) = true
  have h1 := Int.emod_nonneg n (show ((14 : Nat) : Int) ≠ 0 by decide)
  have h2 := Int.emod_lt_of_pos n (show (0 : Int) < ((14 : Nat) : Int) by decide)
  generalize n % ((14 : Nat) : Int) = j at h1 h2
  obtain ⟨k, rfl⟩ := Int.eq_ofNat_of_zero_le h1
  have hk : k < 14 := by omega
  match k, hk with
  | 0, _ => exact fl_run0 _ _
  | 1, _ => exact fl_run1 _ _
  | 2, _ => exact fl_run2 _ _
  | 3, _ => exact fl_run3 _ _
  | 4, _ => exact fl_run4 _ _
  | 5, _ => exact fl_run5 _ _
  | 6, _ => exact fl_run6 _ _
  | 7, _ => exact fl_run7 _ _
  | 8, _ => exact fl_run8 _ _
  | 9, _ => exact fl_run9 _ _
  | 10, _ => exact fl_run10 _ _
  | 11, _ => exact fl_run11 _ _
  | 12, _ => exact fl_run12 _ _
  | 13, _ => exact fl_run13 _ _

theorem hook_ok : ∀ B, HookOK Tryz.prog B (hkW 24 171 5 ms14 modO) := fun B =>
  ⟨fun f args v h => (by cases h), xcW_ok (fun m h => (by have : m = 14 := Nat.eq_of_beq_eq_true h; omega)) (fun y m v h => (by
    have h' : some (y % (m : Int)) = some v := h
    cases h'
    rfl))⟩

theorem fl_calls (n : Int) (w : World) : Calls Tryz.prog 4 #[.int .i64 n] w fun e w' => e = .returned (.bool true) ∧ RowKit.Below w.heap.size w w' := by
  obtain ⟨S, h⟩ := runW_ok (fl_true n)
  refine (calls_of_run tabGood hook_ok h w #[.int .i64 n] ⟨rfl, fun i h1 h2 => ?_⟩).mono ?_
  · match i, h1 with
    | 0, _ => exact .int _ _
  · rintro e w' ⟨β', u, rfl, hu, hb⟩
    cases hu
    exact ⟨rfl, hb⟩
end Go.Av
