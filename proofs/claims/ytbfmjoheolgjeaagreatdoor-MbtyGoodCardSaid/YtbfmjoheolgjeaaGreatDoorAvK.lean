/- One operation, and a region's operations in the text's order. -/
import Derived.Test.YtbfmjoheolgjeaaGreatDoorAvJ
namespace Go.Av
section
variable {P : Program} {B : Nat}

theorem aop_sound {S : St} {β : Beta} {w : World} {env : List AV} {F : Fr} {ρ : Operand → Value} {om : Opd → Operand → Bool} {cl : Nat → List AV → St → OR} {v : AV} {S' : St} {o : Oper}
    (hR : Rel B S β w) (hE : OM β env F ρ om) {x : AX} (h : aop cl env F S x = .ok v S') (hf : Free β S.next S'.next) (hx : xmatch P om o.op x = true)
    (h1 : ∀ f l, x ≠ .call f l) (h2 : ∀ y l, x ≠ .callv y l) : OpOK P B S β w o ρ v S' := by
  cases x with
  | mov x => exact ok_mov hR hE h hx
  | pick c a b => exact ok_pick hR hE h hx
  | bin op x y => exact ok_bin hR hE h hx
  | sbin op x y => exact ok_sbin hR hE h hx
  | eqv tag neg x y => exact ok_eqv hR hE h hx
  | not x => exact ok_not hR hE h hx
  | neg x => exact ok_neg hR hE h hx
  | conv k x => exact ok_conv hR hE h hx
  | s2s x => exact ok_s2s hR hE h hx
  | b2s x => exact ok_b2s hR hE h hx
  | alloc z => exact ok_alloc hR h hf hx
  | box n x => exact ok_box hR hE h hf hx
  | build z ps => exact ok_build hR hE h hx
  | bslice esz len z ps => exact ok_bslice hR hE h hf hx
  | load n x => exact ok_load hR hE h hx
  | store n a x => exact ok_store hR hE h hx
  | nilc x => exact ok_nilc hR hE h hx
  | faddr off x => exact ok_faddr hR hE h hx
  | fld off n x => exact ok_fld hR hE h hx
  | iaddr esz x i => exact ok_iaddr hR hE h hx
  | idxS x i => exact ok_idxS hR hE h hx
  | slcS x lo hi => exact ok_slcS hR hE h hx
  | slcL esz x lo hi mx => exact ok_slcL hR hE h hx
  | mkS esz z len cap => exact ok_mkS hR hE h hf hx
  | mkI t x => exact ok_mkI hR hE h hx
  | mkF f a b => exact ok_mkF hR hE h hx
  | mkM => exact ok_mkM hR h hf hx
  | look k z m x => exact ok_look hR hE h hx
  | upd m k v => exact ok_upd hR hE h hx
  | ext i x => exact ok_ext hR hE h hx
  | lenS x => exact ok_lenS hR hE h hx
  | lenL x => exact ok_lenL hR hE h hx
  | app esz s x => exact ok_app hR hE h hf hx
  | appS s x => exact ok_appS hR hE h hf hx
  | appZ esz z s n => exact ok_appZ hR hE h hf hx
  | cpy esz d s => exact ok_cpy hR hE h hx
  | max x y => exact ok_max hR hE h hx
  | min x y => exact ok_min hR hE h hx
  | call f l => exact absurd rfl (h1 f l)
  | callv y l => exact absurd rfl (h2 y l)
  | bad => simp [aop] at h
  | eqs neg fs x y => exact ok_eqs hR hE h hx
  | clr esz z x => exact ok_clr hR hE h hx
  | capL x => exact ok_capL hR hE h hx
  | iaddrA len esz x i => exact ok_iaddrA hR hE h hx
  | slcA n esz x lo hi mx => exact ok_slcA hR hE h hx
  | bnil esz => exact ok_bnil hR h hf hx

/-- No number from there on is used. -/
def FreeU (β : Beta) (n : Nat) : Prop := ∀ b, n ≤ b → β b = none

theorem FreeU.free {β : Beta} {n n' : Nat} (h : FreeU β n) : Free β n n' := fun b a _ => h b a

theorem FreeU.step {S S' : St} {β β' : Beta} {w w' : World} (h : FreeU β S.next) (hs : Step S β w S' β' w') : FreeU β' S'.next := by
  intro b hb
  have hn := hs.nx
  cases hm : β' b with
  | none => rfl
  | some m =>
    rcases hs.nw b m hm with h1 | ⟨_, h1, _⟩
    · rw [h b (by omega)] at h1; cases h1
    · omega

theorem Step.then {S S1 S2 : St} {β β1 β2 : Beta} {w w1 w2 : World} (hf : FreeU β S.next) (hl1 : ∀ b, S1.heap.get b ≠ none → b < S1.next)
    (h : Step S β w S1 β1 w1) (h' : Step S1 β1 w1 S2 β2 w2) : Step S β w S2 β2 w2 := Step.trans hf.free hl1 h h'

/-- What a call's run gives does what the evaluator's does. -/
def ClOK (P : Program) (B : Nat) (cl : Nat → List AV → St → OR) : Prop :=
  ∀ f args S v S', cl f args S = .ok v S' → bodyOK P f = true ∧ ∀ β w (x : Array Value), Rel B S β w → FreeU β S.next → LR β args x →
    Calls P f x w fun e w' => ∃ β' u, e = .returned u ∧ VR β' v u ∧ Rel B S' β' w' ∧ Step S β w S' β' w'

theorem run_callFunc {f : FuncId} (h : bodyOK P f = true) (x : Array Value) (w : World) : (callFunc f x).run P w = .ok (.enter f x) w := by
  unfold bodyOK at h
  split at h
  · rename_i fn hfn
    simp only [Bool.and_eq_true, bne_iff_ne, ne_eq] at h
    have hb : ¬ fn.body = none := by
      intro hfb
      rw [hfb] at h
      simp at h
    simp [callFunc, hfn, h.2, hb]
  · cases h

/-- ONE OPERATION. -/
theorem op_sound {S : St} {β : Beta} {w : World} {env : List AV} {F : Fr} {a : Act} {om : Opd → Operand → Bool} {cl : Nat → List AV → St → OR} {v : AV} {S' : St} {o : Oper} {K : Act → World → Prop} {Q : Exit → Act → World → Prop}
    (hcl : ClOK P B cl) (hR : Rel B S β w) (hE : OM β env F a.eval om) {x : AX} (h : aop cl env F S x = .ok v S') (hf : FreeU β S.next) (hx : xmatch P om o.op x = true)
    (hK : ∀ β' u w', VR β' v u → Rel B S' β' w' → Step S β w S' β' w' → K (a.put o.dst u) w') : o.wp P a w K Q := by
  by_cases h1 : ∃ f l, x = .call f l
  · obtain ⟨f, l, rfl⟩ := h1
    simp only [aop] at h
    simp only [xmatch] at hx
    split at hx
    · rename_i c e
      split at hx
      · rename_i f' hc
        simp only [Bool.and_eq_true, beq_iff_eq] at hx
        obtain ⟨⟨rfl, h2⟩, h3⟩ := hx
        split at h
        · rename_i vs hvs
          have hl := ovs_sound' hE h2 hvs
          obtain ⟨_, hc2⟩ := hcl f vs S v S' h
          have hrun : (execOp a.eval o).run P w = .ok (.enter f (c.args.map a.eval)) w := by
            simp [execOp, e, resolve, hc, Act.eval, Deferred.ofValue, invoke]
            exact run_callFunc h3 _ w
          unfold Oper.wp
          rw [hrun]
          refine (hc2 β w _ hR hf hl).mono ?_
          rintro e w' ⟨β', u, rfl, q1, q2, q3⟩
          exact hK β' u w' q1 q2 q3
        · cases h
      · cases hx
    · cases hx
  · by_cases h2 : ∃ y l, x = .callv y l
    · obtain ⟨y, l, rfl⟩ := h2
      simp only [aop] at h
      simp only [xmatch] at hx
      split at hx
      · rename_i c e
        split at hx
        · rename_i t hc
          simp only [Bool.and_eq_true] at hx
          obtain ⟨h3, h4⟩ := hx
          split at h
          · rename_i fv vs hfv hvs
            split at h
            · rename_i f first captured hcal
              have hl := ovs_sound' hE h4 hvs
              obtain ⟨hb, hc2⟩ := hcl f _ S v S' h
              have hfv' := hE _ _ _ h3 hfv
              have hfe : fv = .fn f first captured := by
                cases fv <;> simp only [callee] at hcal <;> first | (cases hcal; done) | (cases hcal; rfl)
              subst hfe
              generalize hu : a.eval (.tmp t) = u at hfv'
              cases hfv'
              rename_i x y hxs hx1 hys hx2
              have hargs := ((LR.mk hxs hx1).append hl).append (LR.mk hys hx2)
              have hrun : (execOp a.eval o).run P w = .ok (.enter f (x ++ c.args.map a.eval ++ y)) w := by
                simp only [execOp, e, resolve, hc, hu, Deferred.ofValue, Sem.run_bind, Sem.run_pure, Result.andThen_ok, invoke]
                exact run_callFunc hb _ w
              unfold Oper.wp
              rw [hrun]
              refine (hc2 β w _ hR hf hargs).mono ?_
              rintro e w' ⟨β', u, rfl, q1, q2, q3⟩
              exact hK β' u w' q1 q2 q3
            · cases h
          · cases h
        · cases hx
      · cases hx
    · obtain ⟨β', u, w', q1, q2, q3, q4⟩ := aop_sound (P := P) hR hE h hf.free hx (fun f l e => h1 ⟨f, l, e⟩) (fun y l e => h2 ⟨y, l, e⟩)
      unfold Oper.wp
      rcases q1 with q1 | ⟨q1, rfl⟩
      · rw [q1]; exact hK β' u w' q2 q3 q4
      · rw [q1]; exact hK β' undef w' q2 q3 q4

/-- The variables that are kept. -/
def FR (β : Beta) (vars : List Nat) (F : Fr) (tmps : Array Value) : Prop := ∀ t, t ∈ vars → ∀ v, F.get t = some v → ∃ u, tmps[t]? = some u ∧ VR β v u

/-- A region's own values. -/
def ER (β : Beta) (ids : List Nat) (env : List AV) (tmps : Array Value) : Prop := ∀ (i t : Nat) (v : AV), ids[i]? = some t → env[i]? = some v → ∃ u, tmps[t]? = some u ∧ VR β v u

theorem FR.mono {β β' : Beta} (hb : β.le β') {vars : List Nat} {F : Fr} {tmps : Array Value} (h : FR β vars F tmps) : FR β' vars F tmps :=
  fun t ht v hv => let ⟨u, a, b⟩ := h t ht v hv; ⟨u, a, b.mono hb⟩

theorem ER.mono {β β' : Beta} (hb : β.le β') {ids : List Nat} {env : List AV} {tmps : Array Value} (h : ER β ids env tmps) : ER β' ids env tmps :=
  fun i t v h1 h2 => let ⟨u, a, b⟩ := h i t v h1 h2; ⟨u, a, b.mono hb⟩

theorem om_of {β : Beta} {ids vars : List Nat} {env : List AV} {F : Fr} {a : Act} (h1 : FR β vars F a.tmps) (h2 : ER β ids env a.tmps) : OM β env F a.eval (omatch ids vars) := by
  intro x y v hm hv
  cases x with
  | loc i =>
    cases y <;> try (simp [omatch] at hm; done)
    rename_i t
    simp only [omatch] at hm
    simp only [ov, nthO_eq] at hv
    split at hm
    · rename_i t' ht
      simp only [beq_iff_eq] at hm
      subst hm
      obtain ⟨u, a1, a2⟩ := h2 i _ v ht hv
      simp only [Act.eval]
      rw [Array.getD_eq_getD_getElem?, a1]
      exact a2
    · cases hm
  | var t =>
    cases y <;> try (simp [omatch] at hm; done)
    rename_i t'
    simp only [omatch, Bool.and_eq_true, beq_iff_eq, List.contains_iff_mem] at hm
    obtain ⟨rfl, hmem⟩ := hm
    obtain ⟨u, a1, a2⟩ := h1 t hmem v hv
    simp only [Act.eval]
    rw [Array.getD_eq_getD_getElem?, a1]
    exact a2
  | cst c =>
    simp only [ov, Option.some.injEq] at hv
    subst hv
    cases y <;> try (simp [omatch] at hm; done)
    · exact vmatch_sound β _ _ hm
    · exact vmatch_sound β _ _ hm

def dmatch (n : Nat) (ids vars : List Nat) : Dst → Option Nat → Bool
  | .push, some t => !vars.contains t && !ids.contains t && decide (t < n)
  | .var t, some t' => t == t' && vars.contains t && decide (t < n) && !ids.contains t
  | .drop, none => true
  | .drop, some t => !vars.contains t && !ids.contains t
  | _, _ => false

def ids' (ids : List Nat) : Dst → Option Nat → List Nat
  | .push, some t => t :: ids
  | _, _ => ids

def gmatch (ops : Array Oper) (om : Opd → Operand → Bool) : Option (Opd × Bool) → Option (Nat × Bool) → Bool
  | none, none => true
  | some (x, b), some (j, b') => b == b' && (match (ops[j]?).bind (·.dst) with | some t => om x (.tmp t) && (match x with | .cst _ => false | _ => true) | none => false)
  | _, _ => false

def rmatch (P : Program) (n : Nat) (ops : Array Oper) (vars : List Nat) : List Nat → List AOp → List Oper → Bool
  | _, [], [] => true
  | ids, a :: as, o :: os => dmatch n ids vars a.dst o.dst && gmatch ops (omatch ids vars) a.guard o.guard && xmatch P (omatch ids vars) o.op a.x && rmatch P n ops vars (ids' ids a.dst o.dst) as os
  | _, _, _ => false

theorem tmp_known {β : Beta} {ids vars : List Nat} {env : List AV} {F : Fr} {a : Act} (h1 : FR β vars F a.tmps) (h2 : ER β ids env a.tmps) {x : Opd} {t : Nat} {v : AV} (hm : omatch ids vars x (.tmp t) = true) (hv : ov env F x = some v) (hx : ∀ c, x ≠ .cst c) :
    ∃ u, a.tmps[t]? = some u ∧ VR β v u := by
  cases x with
  | loc i =>
    simp only [omatch] at hm
    simp only [ov, nthO_eq] at hv
    split at hm
    · rename_i t' ht
      simp only [beq_iff_eq] at hm
      subst hm
      exact h2 i _ v ht hv
    · cases hm
  | var t' =>
    simp only [omatch, Bool.and_eq_true, beq_iff_eq, List.contains_iff_mem] at hm
    obtain ⟨rfl, hmem⟩ := hm
    exact h1 _ hmem v hv
  | cst c => exact absurd rfl (hx c)

theorem want_sound {β : Beta} {ids vars : List Nat} {env : List AV} {F : Fr} {a : Act} (h1 : FR β vars F a.tmps) (h2 : ER β ids env a.tmps) {ops : Array Oper} {g : Option (Opd × Bool)} {o : Oper} {b : Bool}
    (hg : gmatch ops (omatch ids vars) g o.guard = true) (h : wantA env F g = some b) : Region.wanted o (yielded ops a.tmps) = b := by
  unfold Region.wanted
  cases g with
  | none =>
    cases hog : o.guard with
    | some q => rw [hog] at hg; simp [gmatch] at hg
    | none => cases h; rfl
  | some q =>
    obtain ⟨x, t⟩ := q
    cases hog : o.guard with
    | none => rw [hog] at hg; simp [gmatch] at hg
    | some q' =>
      obtain ⟨j, t'⟩ := q'
      rw [hog] at hg
      simp only [gmatch, Bool.and_eq_true, beq_iff_eq] at hg
      obtain ⟨rfl, hg⟩ := hg
      split at hg
      · rename_i td htd
        simp only [Bool.and_eq_true] at hg
        have hx : ∀ c, x ≠ .cst c := fun c e => by subst e; simp at hg
        simp only [wantA] at h
        split at h
        · rename_i bb hv
          obtain ⟨u, u1, u2⟩ := tmp_known h1 h2 hg.1 hv hx
          cases u2
          simp only [yielded, htd, Option.bind_some, u1]
          cases h
          cases bb <;> cases t <;> rfl
        · rename_i vv hnb hv
          obtain ⟨u, u1, u2⟩ := tmp_known h1 h2 hg.1 hv hx
          cases h
          have hy : yielded ops a.tmps j = none := by
            simp only [yielded, htd, Option.bind_some, u1]
            cases u2 <;> first | rfl | exact absurd rfl (hnb _)
          simp [hy]
        · cases h
      · cases hg

end
end Go.Av
