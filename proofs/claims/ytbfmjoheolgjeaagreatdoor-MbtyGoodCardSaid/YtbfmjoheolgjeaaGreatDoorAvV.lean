/- slices.Insert of one element of two cells: its two ways. -/
import Derived.Test.YtbfmjoheolgjeaaGreatDoorAvS
import Derived.Test.YtbfmjoheolgjeaaGreatDoorProg
import Derived.Shelf.Spec.SlicesInsert
import Derived.Shelf.Spec.SlicesInsertGrow
set_option linter.unusedVariables false
set_option linter.unusedSimpArgs false
namespace Go.Av
open Go.Proofs Go.Shelf Go.RowKit Go.Lib
section
variable {P : Program} {B : Nat}

def om2 : Opd → Operand → Bool
  | .loc 0, .tmp 0 => true
  | .loc 1, .tmp 1 => true
  | _, _ => false

def rho2 (u1 u2 : Value) : Operand → Value
  | .tmp 0 => u1
  | _ => u2

theorem om2_ok {β : Beta} {d s : AV} {u1 u2 : Value} (h1 : VR β d u1) (h2 : VR β s u2) : OM β [d, s] .lf (rho2 u1 u2) om2 := by
  intro x y v hm hv
  unfold om2 at hm
  split at hm
  · simp [ov, nthO_eq] at hv; subst hv; exact h1
  · simp [ov, nthO_eq] at hv; subst hv; exact h2
  · cases hm

/-- One operation's own run. -/
theorem cpy_run {S S' : St} {β : Beta} {w : World} (hR : Rel B S β w) {esz : Nat} {d s v : AV} {u1 u2 : Value} (h1 : VR β d u1) (h2 : VR β s u2) {cl : Cl}
    (h : aop cl [d, s] .lf S (.cpy esz (.loc 0) (.loc 1)) = .ok v S') (t ty : TypeId)
    (hx : xmatch P om2 (.call { callee := .builtin .copy, args := #[.tmp 0, .tmp 1], argTypes := #[t, t] }) (.cpy esz (.loc 0) (.loc 1)) = true) :
    ∃ β' u w', (Builtin.copy_ #[t, t] ty #[u1, u2]).run P w = .ok u w' ∧ VR β' v u ∧ Rel B S' β' w' ∧ Step S β w S' β' w' := by
  obtain ⟨β', u, w', q1, q2, q3, q4⟩ := ok_cpy (o := { dst := none, op := .call { callee := .builtin .copy, args := #[.tmp 0, .tmp 1], argTypes := #[t, t] }, type := ty, pos := "", after := #[], guard := none }) (P := P) hR (om2_ok h1 h2) h hx
  refine ⟨β', u, w', ?_, q2, q3, q4⟩
  have e : (execOp (rho2 u1 u2) { dst := none, op := .call { callee := .builtin .copy, args := #[.tmp 0, .tmp 1], argTypes := #[t, t] }, type := ty, pos := "", after := #[], guard := none }).run P w = ((Builtin.copy_ #[t, t] ty #[u1, u2]).run P w).andThen fun v w => .ok (.value v) w := by
    simp only [execOp, resolve, invoke, builtin, rho2, Sem.run_bind, Sem.run_pure, Result.andThen_ok, List.map_toArray, List.map_cons, List.map_nil]
  unfold ResN at q1
  rw [e] at q1
  cases hc : (Builtin.copy_ #[t, t] ty #[u1, u2]).run P w with
  | ok u' w'' =>
    rw [hc] at q1
    simp only [Result.andThen_ok] at q1
    rcases q1 with q1 | ⟨q1, _⟩
    · cases q1; rfl
    · cases q1
  | halt x w'' =>
    rw [hc] at q1
    rcases q1 with q1 | ⟨q1, _⟩ <;> cases q1

theorem appZ_run {S S' : St} {β : Beta} {w : World} (hR : Rel B S β w) {esz : Nat} {z : List AV} {d s v : AV} {u1 u2 : Value} (h1 : VR β d u1) (h2 : VR β s u2) {cl : Cl}
    (h : aop cl [d, s] .lf S (.appZ esz z (.loc 0) (.loc 1)) = .ok v S') (hf : Free β S.next S'.next) (t tn ty : TypeId)
    (hx : xmatch P om2 (.call { callee := .builtin .append, args := #[.tmp 0, .tmp 1], argTypes := #[t, tn] }) (.appZ esz z (.loc 0) (.loc 1)) = true) :
    ∃ β' u w', (Builtin.append_ #[t, tn] ty #[u1, u2]).run P w = .ok u w' ∧ VR β' v u ∧ Rel B S' β' w' ∧ Step S β w S' β' w' := by
  obtain ⟨β', u, w', q1, q2, q3, q4⟩ := ok_appZ (o := { dst := none, op := .call { callee := .builtin .append, args := #[.tmp 0, .tmp 1], argTypes := #[t, tn] }, type := ty, pos := "", after := #[], guard := none }) (P := P) hR (om2_ok h1 h2) h hf hx
  refine ⟨β', u, w', ?_, q2, q3, q4⟩
  have e : (execOp (rho2 u1 u2) { dst := none, op := .call { callee := .builtin .append, args := #[.tmp 0, .tmp 1], argTypes := #[t, tn] }, type := ty, pos := "", after := #[], guard := none }).run P w = ((Builtin.append_ #[t, tn] ty #[u1, u2]).run P w).andThen fun v w => .ok (.value v) w := by
    simp only [execOp, resolve, invoke, builtin, rho2, Sem.run_bind, Sem.run_pure, Result.andThen_ok, List.map_toArray, List.map_cons, List.map_nil]
  unfold ResN at q1
  rw [e] at q1
  cases hc : (Builtin.append_ #[t, tn] ty #[u1, u2]).run P w with
  | ok u' w'' =>
    rw [hc] at q1
    simp only [Result.andThen_ok] at q1
    rcases q1 with q1 | ⟨q1, _⟩
    · cases q1; rfl
    · cases q1
  | halt x w'' =>
    rw [hc] at q1
    rcases q1 with q1 | ⟨q1, _⟩ <;> cases q1

set_option maxHeartbeats 4000000 in
set_option maxRecDepth 100000 in
/-- There is room. -/
theorem ins_room (blk o n c i vb vo vc : Nat) (w : World) (hi : i < n) (hn : n ≤ 1000000) (hroom : n + 1 ≤ c) (hvb : vb ≠ blk)
    (tA tB : TypeId) (kA kB : Nat) (hsa : w.shape? vb = some (tA, kA)) (hsb : w.shape? blk = some (tB, kB)) (hkB : kB ≠ 0) (hfa : w.frozen? ⟨vb, vo, none⟩ = false) (hfe : w.frozen? ⟨vb, kA, none⟩ = false)
    (k1 k2 : Value) (w1 w2 : World)
    (hcp1 : ∀ ty, (Builtin.copy_ #[48, 48] ty #[.slice (some ⟨blk, o + (i + 1) * 2, none⟩) (n + 1 - (i + 1)) (c - (i + 1)), .slice (some ⟨blk, o + i * 2, none⟩) (n + 1 - i) (c - i)]).run Tryz.prog w.drew = .ok k1 w1)
    (hcp2 : ∀ ty, (Builtin.copy_ #[48, 48] ty #[.slice (some ⟨blk, o + i * 2, none⟩) (n + 1 - i) (c - i), .slice (some ⟨vb, vo, none⟩) 1 vc]).run Tryz.prog w1 = .ok k2 w2) :
    Calls Tryz.prog 171 #[.slice (some ⟨blk, o, none⟩) n c, .int .i64 i, .slice (some ⟨vb, vo, none⟩) 1 vc] w fun e w' =>
      e = .returned (.slice (some ⟨blk, o, none⟩) (n + 1) c) ∧ w' = w2 := by
  have hz2 : ¬ ((i : Int) = (n : Int)) := by omega
  have hov : ∀ lb cb, (callFunc 218 #[.slice (some ⟨vb, vo, none⟩) 1 vc, .slice (some ⟨blk, o + (i + 1) * 2, none⟩) lb cb]).run Tryz.prog w = .ok (.value (.bool false)) w := fun lb cb => by
    rw [run_callFunc_extern Tryz.func218 (by kernel_rfl) (by kernel_rfl) (by kernel_rfl) (e := Extern.SlicesOverlaps.overlaps #[48, 48] #[4]) (by kernel_rfl)]
    rw [Lib.run_overlaps_apart w 48 4 165 (by kernel_rfl) 2 (fun _ => by kernel_rfl) ⟨vb, vo, none⟩ ⟨blk, o + (i + 1) * 2, none⟩ 1 vc lb cb hvb tA tB kA kB hsa hsb hkB hfa hfe]
    rfl
  have hw1 : IntKind.i64.wrap ((i : Int) + (1 : Int)) = (i : Int) + (1 : Int) := by rw [IntKind.wrap_i64]; omega
  have hw2 : IntKind.i64.wrap ((n : Int) + (1 : Int)) = (n : Int) + (1 : Int) := by rw [IntKind.wrap_i64]; omega
  have hb1 : (0 : Int) ≤ (i : Int) + (1 : Int) := by omega
  have hin : i ≤ n := by omega
  have htn : ((i : Int) + (1 : Int)).toNat = i + 1 := by omega
  have hb2 : ¬ (c = i + 1) := by omega
  have hb3 : (i : Int) ≤ (n : Int) + (1 : Int) := by omega
  have hb4 : ¬ (c = i) := by omega
  have mixed : Tryz.prog.follows .mixedOrders = true := by kernel_rfl
  go_enter Tryz.func171, Tryz.ntmps171
  go_wp2_with (simp only [hov])
  go_region_law_o (refine step_copy_runI rfl _ _ 48 48 rfl _ _ (by simp [Act.eval, Act.put]) (by simp [Act.eval, Act.put]) (hcp1 _) ?_)
  go_wp2_with (at_builtin; refine wpList_copy_runI _ rfl _ _ 48 48 rfl _ _ rfl rfl (hcp2 _) ?_)
  go_ret
  exact ⟨rfl, rfl⟩

set_option maxHeartbeats 4000000 in
set_option maxRecDepth 100000 in
/-- There is none. -/
theorem ins_grow (blk o n i vb vo vc nb no g : Nat) (w : World) (hi : i < n) (hn : n ≤ 1000000) (hg : n + 1 ≤ g)
    (k2 k3 : Value) (w1 w2 w3 : World)
    (hrz : ∀ ty, (Builtin.append_ #[48, 3] ty #[.slice (some ⟨blk, o, none⟩) i n, .int .i64 ((n : Int) + 1 - (i : Int))]).run Tryz.prog w = .ok (.slice (some ⟨nb, no, none⟩) (n + 1) g) w1)
    (hcp2 : ∀ ty, (Builtin.copy_ #[48, 48] ty #[.slice (some ⟨nb, no + i * 2, none⟩) (n + 1 - i) (g - i), .slice (some ⟨vb, vo, none⟩) 1 vc]).run Tryz.prog w1 = .ok k2 w2)
    (hcp3 : ∀ ty, (Builtin.copy_ #[48, 48] ty #[.slice (some ⟨nb, no + (i + 1) * 2, none⟩) (n + 1 - (i + 1)) (g - (i + 1)), .slice (some ⟨blk, o + i * 2, none⟩) (n - i) (n - i)]).run Tryz.prog w2.drew = .ok k3 w3) :
    Calls Tryz.prog 171 #[.slice (some ⟨blk, o, none⟩) n n, .int .i64 i, .slice (some ⟨vb, vo, none⟩) 1 vc] w fun e w' =>
      e = .returned (.slice (some ⟨nb, no, none⟩) (n + 1) g) ∧ w' = w3 := by
  have hz2 : ¬ ((i : Int) = (n : Int)) := by omega
  have hz3 : (n : Int) < (n : Int) + (1 : Int) := by omega
  have hw1 : IntKind.i64.wrap ((i : Int) + (1 : Int)) = (i : Int) + (1 : Int) := by rw [IntKind.wrap_i64]; omega
  have hw2 : IntKind.i64.wrap ((n : Int) + (1 : Int)) = (n : Int) + (1 : Int) := by rw [IntKind.wrap_i64]; omega
  have hw3 : IntKind.i64.wrap ((n : Int) + (1 : Int) - (i : Int)) = (n : Int) + (1 : Int) - (i : Int) := by rw [IntKind.wrap_i64]; omega
  have hb1 : (0 : Int) ≤ (i : Int) + (1 : Int) := by omega
  have hin : i ≤ n := by omega
  have htn : ((i : Int) + (1 : Int)).toNat = i + 1 := by omega
  have hGi : ¬ (g = i) := by omega
  have hGim : ¬ (g = i + 1) := by omega
  have hci : ¬ (n = i) := by omega
  have hb3 : (i : Int) ≤ (n : Int) := by omega
  have mixed : Tryz.prog.follows .mixedOrders = true := by kernel_rfl
  go_enter Tryz.func171, Tryz.ntmps171
  go_wp2_with (first
    | (at_builtin; refine Lib.wpList_append_run _ rfl _ _ _ _ rfl _ _ rfl rfl _ _ (hrz _) ?_)
    | (at_builtin; refine wpList_copy_runI _ rfl _ _ 48 48 rfl _ _ rfl rfl (hcp2 _) ?_))
  go_region_law_o (refine step_copy_runI rfl _ _ 48 48 rfl (.slice (some ⟨nb, no + (i + 1) * 2, none⟩) (n + 1 - (i + 1)) (g - (i + 1))) (.slice (some ⟨blk, o + i * 2, none⟩) (n - i) (n - i)) (by simp [Act.eval, Act.put]) (by simp [Act.eval, Act.put]) (hcp3 3) ?_)
  go_wp2
  go_ret
  exact ⟨rfl, rfl⟩
end
end Go.Av
