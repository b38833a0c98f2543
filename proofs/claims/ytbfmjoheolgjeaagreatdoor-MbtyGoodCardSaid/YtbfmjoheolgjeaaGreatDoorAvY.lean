/- The hook of these functions is right; from a run to a contract. -/
import Derived.Test.YtbfmjoheolgjeaaGreatDoorAvU
import Derived.Test.YtbfmjoheolgjeaaGreatDoorAvW
import Derived.Test.YtbfmjoheolgjeaaGreatDoorAvT3
import Derived.Test.YtbfmjoheolgjeaaGreatDoorAvX6
import Derived.Test.YtbfmjoheolgjeaaGreatDoorAvWi
namespace Go.Av
open Go.Proofs
section
variable {B : Nat}

theorem xc_ok : XcOK Tryz.prog B (xcOf 24 171) := by
  intro cl hcl f args S v S' h
  unfold xcOf at h
  split at h
  · rename_i hf
    have := Nat.eq_of_beq_eq_true hf
    subst this
    simp only [Option.some.injEq] at h
    exact ask_ok hcl h
  · split at h
    · rename_i hf
      have := Nat.eq_of_beq_eq_true hf
      subst this
      exact insX_ok h
    · cases h

/-- No address is known: the beginning. -/
def b0 : Beta := fun _ => none

theorem rel0 (w : World) : Rel w.heap.size ⟨0, .lf⟩ b0 w := by
  refine ⟨fun b hb => absurd rfl hb, fun b m h => (by cases h), fun b blk m h _ => ?_, fun b b' m m' _ h => absurd rfl h, Nat.le_refl _⟩
  exact absurd h (by show ¬ (PT.lf : PT ABlk).get b = some blk; simp)

theorem step0 {w w' : World} {S' : St} {β' : Beta} (h : Step ⟨0, .lf⟩ b0 w S' β' w') : RowKit.Below w.heap.size w w' :=
  ⟨h.os, h.tape, h.output, h.size, fun c hc => h.kept c hc fun ⟨_, _, hb, _, _⟩ => hb rfl⟩

theorem xcW_ok {ms : Nat → Bool} {orc : Orc} (hms : ∀ m, ms m = true → 1 ≤ m ∧ m ≤ 1000) (horc : ∀ y m v, orc y m = some v → v = y % (m : Int)) : XcOK Tryz.prog B (xcW 24 171 5 ms orc) := by
  intro cl hcl f args S v S' h
  unfold xcW at h
  split at h
  · rename_i hf
    have := Nat.eq_of_beq_eq_true hf
    subst this
    refine ⟨by kernel_rfl, ?_⟩
    intro β w x hR hF hl
    unfold orcX at h
    split at h
    · rename_i y m
      split at h
      · rename_i hm
        split at h
        · rename_i vv hv
          simp only [Option.some.injEq, OR.ok.injEq] at h
          obtain ⟨rfl, rfl⟩ := h
          have hvv := horc _ _ _ hv
          subst hvv
          obtain ⟨h1, h2⟩ := hms m hm
          have hs := hl.size
          have hs2 : x.size = 2 := hs
          have a0 : VR β (.int .i64 y) (x[0]'(by omega)) := hl.at_ 0 (by simp) (by omega)
          have a1 : VR β (.int .i64 m) (x[1]'(by omega)) := hl.at_ 1 (by simp) (by omega)
          have e0 : x[0]'(by omega) = .int .i64 y := by
            generalize x[0]'(by omega) = u at a0
            cases a0
            rfl
          have e1 : x[1]'(by omega) = .int .i64 m := by
            generalize x[1]'(by omega) = u at a1
            cases a1
            rfl
          have hx : x = #[.int .i64 y, .int .i64 m] := by
            apply Array.ext
            · rw [hs]; rfl
            · intro i h1 h2
              rw [hs2] at h1
              match i, h1 with
              | 0, _ => exact e0
              | 1, _ => exact e1
          subst hx
          refine (within_small y m h1 h2 w).mono ?_
          rintro e w' ⟨rfl, rfl⟩
          exact ⟨β, _, rfl, .int _ _, hR, Step.refl S β _⟩
        · simp at h
      · cases h
    · cases h
  · exact xc_ok cl hcl f args S v S' h

/-- From a run of the evaluator on nothing to a contract. -/
theorem calls_of_run {A : PT AFn} {hk : Hook} (hA : Good Tryz.prog (dmK Tryz.prog) A) (hhk : ∀ B, HookOK Tryz.prog B hk) {fuel f : Nat} {args : List AV} {v : AV} {S' : St}
    (h : callA A hk (execG A hk drwY fuel) f args ⟨0, .lf⟩ = .ok v S') : ∀ w (x : Array Value), LR b0 args x →
    Calls Tryz.prog f x w fun e w' => ∃ β' u, e = .returned u ∧ VR β' v u ∧ RowKit.Below w.heap.size w w' := by
  have hmix : Tryz.prog.follows .mixedOrders = true := by kernel_rfl
  have hs := fun B => call_sound (B := B) hA (hhk B) (exec_sound (draw_okY hmix) hA (hhk B) fuel)
  refine fun w x hx => ((hs w.heap.size f args _ v S' h).2 b0 w x (rel0 w) (fun _ _ => rfl) hx).mono ?_
  rintro e w' ⟨β', u, rfl, q1, q2, q3⟩
  exact ⟨β', u, rfl, q1, step0 q3⟩
end
end Go.Av
