/- The two functions that are done in another way: they are done right. -/
import Derived.Test.YtbfmjoheolgjeaaGreatDoorAvS
import Derived.Test.YtbfmjoheolgjeaaGreatDoorProg
import Derived.WalkKit
import Derived.Defers
import Derived.Recover
namespace Go.Av
open Go.Proofs
section
variable {P : Program} {B : Nat}

theorem reg_wp {cl : Cl} (hcl : ClOK P B cl) {n : Nat} {vars : List Nat} {ops : Array Oper} {id : Nat} {asx : List AOp} {F : Fr} {S : St} {β : Beta} {a : Act} {w : World} {e : AE} {F' : Fr} {S' : St} {Q : Exit → Act → World → Prop}
    (h : ropsX cl asx [] F S = .ok e F' S') (hm : rmatch P n ops vars [] asx ops.toList = true) (hR : Rel B S β w) (hf : FreeU β S.next) (hF : FR β vars F a.tmps) (hn : n ≤ a.tmps.size)
    (hQ : ∀ β' a' w', Rel B S' β' w' → Step S β w S' β' w' → FR β' vars F' a'.tmps → a'.tmps.size = a.tmps.size → a'.defers = a.defers → e = .norm → Q .normal a' w') :
    (Code.region id ops false).wp P Q a w := by
  refine wp_region ?_
  have := rops_sound (Q := Q) hcl n ops vars asx ops.toList 0 [] [] F S β a w e F' S' (fun j => by simp) h hm hR hf hF (fun i t v h => by simp at h) hn hQ
  rw [List.range_eq_range']
  simpa using this

theorem thenX_inv {k : Fr → St → XR} {r : XR} {e : AE} {F : Fr} {S : St} (h : thenX k r = .ok e F S) : (∃ F1 S1, r = .ok .norm F1 S1 ∧ k F1 S1 = .ok e F S) ∨ (r = .ok e F S ∧ e ≠ .norm) := by
  cases r with
  | no => cases h
  | ok e1 F1 S1 =>
    cases e1 with
    | norm => exact .inl ⟨F1, S1, rfl, h⟩
    | exit i => cases h; exact .inr ⟨rfl, by simp⟩
    | ret => cases h; exact .inr ⟨rfl, by simp⟩

theorem ask_idle (p : Value) (w : World) : CallsD Tryz.prog 44 #[p] .returning w fun e u' w' => e = .returned (.tuple #[]) ∧ u' = .returning ∧ w' = w := by
  have heq : ∀ w : World, (binOp BinOp.eql 20 .nilIface .nilIface).run Tryz.prog w = .ok (.bool true) w := fun _ => by kernel_rfl
  refine callsD_of_wpS Tryz.func44 rfl fun c₀ cs hu => ?_
  apply wpS_seq
  apply wpS_region
  simp [wpOpsS, go_sem, recoverD, hu, Tryz.ntmps44, Exit.thenS]
  refine wpS_of_wp ?_
  go_wp2
  cases c₀
  simp_all [bodyPostS, results, Tryz.results44]


theorem ropsX_norm {cl : Cl} : ∀ (l : List AOp) (env : List AV) (F : Fr) (S : St) (e : AE) (F' : Fr) (S' : St), ropsX cl l env F S = .ok e F' S' → e = .norm := by
  intro l
  induction l with
  | nil => intro env F S e F' S' h; cases h; rfl
  | cons x l ih2 =>
    intro env F S e F' S' h
    rw [ropsX_cons] at h
    unfold opS at h
    have hput : ∀ (d : Dst) (v : AV) (env : List AV) (F : Fr) (S : St), putD d v env F (fun env F => ropsX cl l env F S) = .ok e F' S' → e = .norm := by
      intro d v env F S h
      cases d with
      | push => exact ih2 _ _ _ _ _ _ h
      | var t =>
        have h' : PT.force (fun F' => ropsX cl l env F' S) (PT.set (some v) F t) = .ok e F' S' := h
        rw [PT.force_eq] at h'
        exact ih2 _ _ _ _ _ _ h'
      | drop => exact ih2 _ _ _ _ _ _ h
    split at h
    · split at h
      · exact hput _ _ _ _ _ h
      · cases h
    · exact hput _ _ _ _ _ h
    · cases h

theorem ask_ok {cl : Cl} (hcl : ClOK Tryz.prog B cl) {l : List AV} {S : St} {v : AV} {S' : St} (h : askX cl l S = .ok v S') : bodyOK Tryz.prog 24 = true ∧ ∀ β w (x : Array Value), Rel B S β w → FreeU β S.next → LR β l x →
    Calls Tryz.prog 24 x w fun e w' => ∃ β' u, e = .returned u ∧ VR β' v u ∧ Rel B S' β' w' ∧ Step S β w S' β' w' := by
  refine ⟨by kernel_rfl, fun β w x hR hf hl => ?_⟩
  have hmf : ∀ (fn : Fn) (first cap : Array Value) (w : World), (Instr.makeFunc fn first cap).run Tryz.prog w = .ok (.func fn first cap) w := fun _ _ _ _ => rfl
  unfold askX at h
  split at h
  · rename_i hlen
    have hlen' := Nat.eq_of_beq_eq_true hlen
    have hsz : x.size = 1 := by have := hl.size; omega
    cases hx : thenX (fun F S => thenX (fun F S => ropsX cl ask3 [] F S) (ropsX cl ask2 [] F S)) (ropsX cl ask0 [] (ofList l) S) with
    | no => rw [hx] at h; cases h
    | ok e F4 S4 =>
      rw [hx] at h
      obtain ⟨F1, S1, h1, h23⟩ := (thenX_inv hx).resolve_right fun h => h.2 (ropsX_norm _ _ _ _ _ _ _ h.1)
      obtain ⟨F2, S2, h2, h3⟩ := (thenX_inv h23).resolve_right fun h => h.2 (ropsX_norm _ _ _ _ _ _ _ h.1)
      have he := ropsX_norm _ _ _ _ _ _ _ h3
      subst he
      obtain ⟨vs, hvs, hv, hS⟩ : ∃ vs, resAll F4 S4 [.cell 2 none] = some vs ∧ v = resV vs ∧ S4 = S' := by
        have h' : (match resAll F4 S4 [.cell 2 none] with | some l => OR.ok (resV l) S4 | none => .no) = .ok v S' := h
        split at h'
        · rename_i vs hvs
          cases h'
          exact ⟨vs, hvs, rfl, rfl⟩
        · cases h'
      subst hS
      have hF : FR β [0, 2] (ofList l) (x ++ Array.replicate (6 - x.size) undef) := by
        intro t _ v hv
        rw [get_ofList] at hv
        obtain ⟨u, u1, u2⟩ := hl.get hv
        refine ⟨u, ?_, u2⟩
        have : t < x.size := (Array.getElem?_eq_some_iff.1 u1).1
        rw [Array.getElem?_append_left this, u1]
      refine calls_of_wp_defers Tryz.func24 rfl ?_
      refine wp_seq ?_
      refine reg_wp hcl (n := 6) (vars := [0, 2]) h1 (by kernel_rfl) hR hf hF (by simp [hsz]) fun β1 a1 w1 r1 r2 r3 r4 r5 _ => ?_
      -- the pointer of the named result
      have hF1 : ∃ p, a1.tmps[2]? = some p := by
        have hn2 : 2 < a1.tmps.size := by rw [r4]; simp [hsz]
        exact ⟨_, Array.getElem?_eq_getElem hn2⟩
      obtain ⟨p, hp⟩ := hF1
      show Code.wp Tryz.prog _ _ a1 w1
      refine wp_seq ?_
      refine wp_region ?_
      have hsz1 : a1.tmps.size = 6 := by rw [r4]; simp [hsz]
      simp [wpOps, go_sem, Region.wanted, Oper.wp, Act.eval, Act.put, hsz1]
      refine .inl (.inl ?_)
      have hd1 : a1.defers = [] := r5
      rw [hd1]
      have hF2 : FR β1 [0, 2] F1 (a1.tmps.setIfInBounds 3 (Value.func (Fn.func 44) #[] #[a1.tmps[2]])) := by
        intro t ht v hv
        obtain ⟨u, u1, u2⟩ := r3 t ht v hv
        refine ⟨u, ?_, u2⟩
        have : 3 ≠ t := by
          simp at ht
          omega
        rw [Array.getElem?_setIfInBounds_ne this]
        exact u1
      refine wp_seq ?_
      refine reg_wp hcl (n := 6) (vars := [0, 2]) h2 (by kernel_rfl) r1 (hf.step r2) hF2 (by simp [hsz1]) fun β2 a2 w2 s1 s2 s3 s4 s5 _ => ?_
      show Code.wp Tryz.prog _ _ a2 w2
      refine wp_seq ?_
      refine reg_wp hcl (n := 6) (vars := [0, 2]) h3 (by kernel_rfl) s1 ((hf.step r2).step s2) s3 (by simp [s4, hsz1]) fun β3 a3 w3 t1 t2 t3 t4 t5 _ => ?_
      show Code.wp Tryz.prog _ _ a3 w3
      refine wp_ret ?_
      show Leaves _ _ _ _ a3.defers .returning w3
      rw [t5, s5]
      obtain ⟨u, r6, r7⟩ := run_results (P := Tryz.prog) (fn := Tryz.f24) t1 t3 (by kernel_rfl) hvs
      refine leaves_cons (f := 44) (args := #[a1.tmps[2]]) (by simp) (by simp [go_sem]) ?_
      refine (ask_idle _ w3).mono ?_
      rintro e u' w4 ⟨rfl, rfl, rfl⟩
      refine ⟨u, r6, β3, u, rfl, by rw [hv]; exact r7, t1, ?_⟩
      exact (r2.then hf r1.hlt s2).then hf s1.hlt t2
  · cases h

end
end Go.Av
