/- A region in the text's order; code. -/
import Derived.Test.YtbfmjoheolgjeaaGreatDoorAvK
namespace Go.Av
section
variable {P : Program} {B : Nat}

theorem ropsX_nil (cl : Nat → List AV → St → OR) (env : List AV) (F : Fr) (S : St) : ropsX cl [] env F S = .ok .norm F S := rfl
theorem ropsX_cons (cl : Nat → List AV → St → OR) (o : AOp) (l : List AOp) (env : List AV) (F : Fr) (S : St) : ropsX cl (o :: l) env F S = opS cl o (ropsX cl l) env F S := rfl

theorem put_size (a : Act) (d : Option Nat) (u : Value) : (a.put d u).tmps.size = a.tmps.size := by cases d <;> simp [Act.put]
theorem put_defers (a : Act) (d : Option Nat) (u : Value) : (a.put d u).defers = a.defers := by cases d <;> rfl
theorem put_get (a : Act) (d : Option Nat) (u : Value) (t : Nat) (h : d ≠ some t) : (a.put d u).tmps[t]? = a.tmps[t]? := by
  cases d with
  | none => rfl
  | some d =>
    have : d ≠ t := fun e => h (by rw [e])
    simp [Act.put, Array.getElem?_setIfInBounds_ne this]
theorem put_self (a : Act) (t : Nat) (u : Value) (h : t < a.tmps.size) : (a.put (some t) u).tmps[t]? = some u := by
  simp [Act.put, h]

/-- Behind an operation: the frame. -/
theorem put_rel {β : Beta} {n : Nat} {ids vars : List Nat} {env : List AV} {F : Fr} {a : Act} {d : Dst} {dst : Option Nat} {v : AV} {u : Value} (hd : dmatch n ids vars d dst = true) (hn : n ≤ a.tmps.size)
    (h1 : FR β vars F a.tmps) (h2 : ER β ids env a.tmps) (hv : VR β v u) {k : List AV → Fr → XR} {r : XR} (h : putD d v env F k = r) :
    ∃ env' F', k env' F' = r ∧ FR β vars F' (a.put dst u).tmps ∧ ER β (ids' ids d dst) env' (a.put dst u).tmps := by
  cases d with
  | push =>
    cases dst with
    | none => simp [dmatch] at hd
    | some t =>
      simp only [dmatch, Bool.and_eq_true, Bool.not_eq_true', decide_eq_true_eq, List.contains_eq_mem, decide_eq_false_iff_not] at hd
      obtain ⟨⟨q1, q2⟩, q3⟩ := hd
      refine ⟨v :: env, F, h, fun t' ht' v' hv' => ?_, fun i t' v' hi hv' => ?_⟩
      · rw [put_get a _ u t' (fun e => by cases e; exact q1 ht')]
        exact h1 t' ht' v' hv'
      · cases i with
        | zero =>
          simp only [ids', List.getElem?_cons_zero, Option.some.injEq] at hi hv'
          subst hi
          subst hv'
          exact ⟨u, put_self a _ u (by omega), hv⟩
        | succ i =>
          simp only [ids', List.getElem?_cons_succ] at hi hv'
          rw [put_get a _ u t' (fun e => by cases e; exact q2 (List.mem_of_getElem? hi))]
          exact h2 i t' v' hi hv'
  | var x =>
    cases dst with
    | none => simp [dmatch] at hd
    | some t =>
      simp only [dmatch, Bool.and_eq_true, Bool.not_eq_true', decide_eq_true_eq, List.contains_eq_mem, decide_eq_false_iff_not, beq_iff_eq] at hd
      obtain ⟨⟨⟨rfl, q1⟩, q2⟩, q3⟩ := hd
      refine ⟨env, PT.set (some v) F x, by rw [← h]; exact (PT.force_eq _ _).symm, fun t' ht' v' hv' => ?_, fun i t' v' hi hv' => ?_⟩
      · rw [PT.get_set] at hv'
        by_cases e : t' = x
        · subst e
          rw [if_pos rfl] at hv'
          cases hv'
          exact ⟨u, put_self a _ u (by omega), hv⟩
        · rw [if_neg e] at hv'
          rw [put_get a _ u t' (fun e' => by cases e'; exact e rfl)]
          exact h1 t' ht' v' hv'
      · simp only [ids'] at hi
        rw [put_get a _ u t' (fun e => by cases e; exact q3 (List.mem_of_getElem? hi))]
        exact h2 i t' v' hi hv'
  | drop =>
    refine ⟨env, F, h, ?_, ?_⟩
    · intro t' ht' v' hv'
      cases dst with
      | none => exact h1 t' ht' v' hv'
      | some t =>
        simp only [dmatch, Bool.and_eq_true, Bool.not_eq_true', List.contains_eq_mem, decide_eq_false_iff_not] at hd
        rw [put_get a _ u t' (fun e => by cases e; exact hd.1 ht')]
        exact h1 t' ht' v' hv'
    · intro i t' v' hi hv'
      cases dst with
      | none => exact h2 i t' v' hi hv'
      | some t =>
        simp only [dmatch, Bool.and_eq_true, Bool.not_eq_true', List.contains_eq_mem, decide_eq_false_iff_not] at hd
        simp only [ids'] at hi
        rw [put_get a _ u t' (fun e => by cases e; exact hd.2 (List.mem_of_getElem? hi))]
        exact h2 i t' v' hi hv'

theorem undef_rel (β : Beta) : VR β (.tup []) undef := .tup [] #[] rfl (fun i a => by simp at a)

theorem rops_sound {cl : Nat → List AV → St → OR} (hcl : ClOK P B cl) (n : Nat) (ops : Array Oper) (vars : List Nat) {Q : Exit → Act → World → Prop} :
    ∀ (as : List AOp) (os : List Oper) (k : Nat) (ids : List Nat) (env : List AV) (F : Fr) (S : St) (β : Beta) (a : Act) (w : World) (e : AE) (F' : Fr) (S' : St),
    (∀ j, os[j]? = ops[k + j]?) → ropsX cl as env F S = .ok e F' S' → rmatch P n ops vars ids as os = true → Rel B S β w → FreeU β S.next → FR β vars F a.tmps → ER β ids env a.tmps → n ≤ a.tmps.size →
    (∀ β' a' w', Rel B S' β' w' → Step S β w S' β' w' → FR β' vars F' a'.tmps → a'.tmps.size = a.tmps.size → a'.defers = a.defers → e = .norm → Q .normal a' w') →
    wpOps P ops Q (List.range' k os.length) a w := by
  intro as
  induction as with
  | nil =>
    intro os k ids env F S β a w e F' S' hos h hm hR hf hF hE hn hQ
    cases os with
    | cons o os => simp [rmatch] at hm
    | nil =>
      rw [ropsX_nil] at h
      cases h
      exact hQ β a w hR (Step.refl _ _ _) hF rfl rfl rfl
  | cons x as ih =>
    intro os k ids env F S β a w e F' S' hos h hm hR hf hF hE hn hQ
    cases os with
    | nil => simp [rmatch] at hm
    | cons o os =>
      simp only [rmatch, Bool.and_eq_true] at hm
      obtain ⟨⟨⟨hd, hg⟩, hx⟩, hrest⟩ := hm
      have hk : ops[k]? = some o := by have := hos 0; simpa using this.symm
      rw [ropsX_cons] at h
      unfold opS at h
      simp only [List.length_cons, List.range'_succ, wpOps, hk]
      split at h
      · rename_i hwant
        rw [want_sound hF hE hg hwant]
        simp only [if_true]
        split at h
        · rename_i v S1 hop
          refine .inl (op_sound hcl hR (om_of hF hE) hop hf hx fun β1 u w1 hv hR1 hS1 => ?_)
          obtain ⟨env', F1, hk', hF1, hE1⟩ := put_rel hd hn (hF.mono hS1.le) (hE.mono hS1.le) hv h
          exact ih os (k + 1) _ env' F1 S1 β1 (a.put o.dst u) w1 e F' S' (fun j => by have := hos (j + 1); rw [show k + 1 + j = k + (j + 1) by omega]; simpa using this) hk' hrest hR1 (hf.step hS1) hF1 hE1 (by rw [put_size]; exact hn)
            (fun β' a' w' r1 r2 r3 r4 r5 r6 => hQ β' a' w' r1 (hS1.then hf hR1.hlt r2) r3 (by rw [r4, put_size]) (by rw [r5, put_defers]) r6)
        · cases h
      · rename_i hwant
        rw [want_sound hF hE hg hwant]
        simp only [Bool.false_eq_true, if_false]
        obtain ⟨env', F1, hk', hF1, hE1⟩ := put_rel hd hn hF hE (undef_rel β) h
        exact ih os (k + 1) _ env' F1 S β (a.put o.dst undef) w e F' S' (fun j => by have := hos (j + 1); rw [show k + 1 + j = k + (j + 1) by omega]; simpa using this) hk' hrest hR hf hF1 hE1 (by rw [put_size]; exact hn)
          (fun β' a' w' r1 r2 r3 r4 r5 r6 => hQ β' a' w' r1 r2 r3 (by rw [r4, put_size]) (by rw [r5, put_defers]) r6)
      · cases h

end
end Go.Av
