/- Drawn regions: what the evaluator's run says of every place. -/
import Derived.Test.YtbfmjoheolgjeaaGreatDoorAvM
namespace Go.Av
section
variable {P : Program} {B : Nat}

noncomputable def envFrom (vals : Nat → AV) (env : List AV) : Nat → List AV
  | 0 => env
  | j + 1 => vals j :: envFrom vals env j

def stsFrom (st : Nat → St) (sts : List St) : Nat → List St
  | 0 => st 0 :: sts
  | j + 1 => st (j + 1) :: stsFrom st sts j

theorem envFrom_shift (v : AV) (vals : Nat → AV) (env : List AV) : ∀ n, envFrom (fun j => match j with | 0 => v | j + 1 => vals j) env (n + 1) = envFrom vals (v :: env) n := by
  intro n
  induction n with
  | zero => rfl
  | succ n ih => simp only [envFrom] at ih ⊢; rw [ih]

theorem stsFrom_shift (S : St) (st : Nat → St) (sts : List St) : ∀ n, stsFrom (fun j => match j with | 0 => S | j + 1 => st j) sts (n + 1) = stsFrom st (S :: sts) n := by
  intro n
  induction n with
  | zero => rfl
  | succ n ih => simp only [stsFrom] at ih ⊢; rw [ih]

theorem drun_inv (cl : Nat → List AV → St → OR) (F : Fr) : ∀ (ops : List AOp) (env : List AV) (S : St) (sts : List St) (env' : List AV) (sts' : List St), drun cl F ops env S sts = .ok env' sts' →
    ∃ (vals : Nat → AV) (st : Nat → St), st 0 = S ∧ (∀ j o, ops[j]? = some o → dopA cl F o (envFrom vals env j) (st j) = .ok (vals j) (st (j + 1))) ∧ env' = envFrom vals env ops.length ∧ sts' = stsFrom st sts ops.length := by
  intro ops
  induction ops with
  | nil =>
    intro env S sts env' sts' h
    cases h
    exact ⟨fun _ => .nilp, fun _ => S, rfl, fun j o h => by simp at h, rfl, rfl⟩
  | cons o ops ih =>
    intro env S sts env' sts' h
    replace h : dopS (drun cl F ops) env S sts (dopA cl F o env S) = .ok env' sts' := h
    cases hd : dopA cl F o env S with
    | no => rw [hd] at h; cases h
    | ok v S1 =>
      rw [hd] at h
      obtain ⟨vals, st, h1, h2, h3, h4⟩ := ih (v :: env) S1 (S :: sts) env' sts' h
      refine ⟨fun j => match j with | 0 => v | j + 1 => vals j, fun j => match j with | 0 => S | j + 1 => st j, rfl, ?_, ?_, ?_⟩
      · intro j o' ho
        cases j with
        | zero =>
          simp only [List.getElem?_cons_zero, Option.some.injEq] at ho
          subst ho
          simp only [envFrom, h1]
          exact hd
        | succ j =>
          simp only [List.getElem?_cons_succ] at ho
          rw [envFrom_shift]
          exact h2 j o' ho
      · rw [h3, List.length_cons, envFrom_shift]
      · rw [h4, List.length_cons, stsFrom_shift]

theorem envFrom_get (vals : Nat → AV) : ∀ n i, (envFrom vals [] n)[i]? = if i < n then some (vals (n - 1 - i)) else none := by
  intro n
  induction n with
  | zero => intro i; simp [envFrom]
  | succ n ih =>
    intro i
    cases i with
    | zero => simp [envFrom]
    | succ i =>
      simp only [envFrom, List.getElem?_cons_succ, ih]
      by_cases h : i < n
      · rw [if_pos h, if_pos (by omega), show n + 1 - 1 - (i + 1) = n - 1 - i by omega]
      · rw [if_neg h, if_neg (by omega)]

theorem stsFrom_get (st : Nat → St) : ∀ n i, i ≤ n → (stsFrom st [] n)[i]? = some (st (n - i)) := by
  intro n
  induction n with
  | zero => intro i h; have : i = 0 := by omega
            subst this; rfl
  | succ n ih =>
    intro i h
    cases i with
    | zero => rfl
    | succ i =>
      simp only [stsFrom, List.getElem?_cons_succ]
      rw [ih i (by omega), show n + 1 - (i + 1) = n - i by omega]

theorem nthS_eq (l : List St) (i : Nat) : nthS l i = l[i]? := by
  induction l generalizing i with
  | nil => rfl
  | cons v l ih => cases i with
    | zero => rfl
    | succ i => exact ih i

theorem chkAll_inv (cl : Nat → List AV → St → OR) (sts : List St) (F : Fr) (vals : Nat → AV) : ∀ (l : List AOp), chkAll cl sts F l (envFrom vals [] l.length) = true →
    ∀ j o, l.reverse[j]? = some o → chkOp cl sts F o (vals j :: envFrom vals [] j) = true := by
  intro l
  induction l with
  | nil => intro _ j o h; simp at h
  | cons x l ih =>
    intro h j o ho
    replace h : (match chkOp cl sts F x (vals l.length :: envFrom vals [] l.length) with | true => chkAll cl sts F l (envFrom vals [] l.length) | false => false) = true := h
    split at h
    · rename_i hx
      rw [List.reverse_cons] at ho
      by_cases hj : j < l.length
      · rw [List.getElem?_append_left (by simpa using hj)] at ho
        exact ih h j o ho
      · rw [List.getElem?_append_right (by simpa using Nat.le_of_not_lt hj)] at ho
        simp only [List.length_reverse] at ho
        by_cases e : j = l.length
        · subst e
          simp only [Nat.sub_self, List.getElem?_cons_zero, Option.some.injEq] at ho
          subst ho
          exact hx
        · rw [List.getElem?_eq_none (by simp; omega)] at ho
          cases ho
    · cases h

theorem asgAll_inv (vals : Nat → AV) : ∀ (l : List AOp) (F : Fr) (t : Nat),
    (∃ (j : Nat) (o : AOp), l.reverse[j]? = some o ∧ o.dst = .var t ∧ (asgAll l (envFrom vals [] l.length) F).get t = some (vals j)) ∨
    ((∀ (j : Nat) (o : AOp), l.reverse[j]? = some o → o.dst ≠ .var t) ∧ (asgAll l (envFrom vals [] l.length) F).get t = F.get t) := by
  intro l
  induction l with
  | nil => intro F t; exact .inr ⟨fun j o h => by simp at h, rfl⟩
  | cons x l ih =>
    intro F t
    have hget : ∀ (j : Nat) (o : AOp), l.reverse[j]? = some o → (x :: l).reverse[j]? = some o := by
      intro j o h
      rw [List.reverse_cons, List.getElem?_append_left (by have := (List.getElem?_eq_some_iff.1 h).1; simpa using this)]
      exact h
    have hlast : (x :: l).reverse[l.length]? = some x := by
      rw [List.reverse_cons, List.getElem?_append_right (by simp)]
      simp
    have hcase : ∀ (j : Nat) (o : AOp), (x :: l).reverse[j]? = some o → l.reverse[j]? = some o ∨ o = x := by
      intro j o h
      rw [List.reverse_cons] at h
      by_cases hj : j < l.length
      · rw [List.getElem?_append_left (by simpa using hj)] at h
        exact .inl h
      · rw [List.getElem?_append_right (by simpa using Nat.le_of_not_lt hj)] at h
        simp only [List.length_reverse] at h
        by_cases e : j - l.length = 0
        · rw [e] at h
          simp only [List.getElem?_cons_zero, Option.some.injEq] at h
          exact .inr h.symm
        · rw [List.getElem?_eq_none (by simp; omega)] at h
          cases h
    by_cases hd : ∃ t0, x.dst = .var t0
    · obtain ⟨t0, hd⟩ := hd
      have he : asgAll (x :: l) (envFrom vals [] (x :: l).length) F = asgAll l (envFrom vals [] l.length) (PT.set (some (vals l.length)) F t0) := by
        show (match x.dst, (vals l.length :: envFrom vals [] l.length) with | .var t, v :: env => asgAll l env (PT.set (some v) F t) | _, _ => _) = _
        rw [hd]
      rw [he]
      rcases ih (PT.set (some (vals l.length)) F t0) t with ⟨j, o, h1, h2, h3⟩ | ⟨h1, h2⟩
      · exact .inl ⟨j, o, hget j o h1, h2, h3⟩
      · rw [h2, PT.get_set]
        by_cases e : t = t0
        · subst e
          rw [if_pos rfl]
          exact .inl ⟨l.length, x, hlast, hd, rfl⟩
        · rw [if_neg e]
          refine .inr ⟨fun j o h => ?_, rfl⟩
          rcases hcase j o h with h' | rfl
          · exact h1 j o h'
          · rw [hd]; exact fun h => e (by cases h; rfl)
    · have he : asgAll (x :: l) (envFrom vals [] (x :: l).length) F = asgAll l (envFrom vals [] l.length) F := by
        show (match x.dst, (vals l.length :: envFrom vals [] l.length) with | .var t, v :: env => asgAll l env (PT.set (some v) F t) | _, _ => asgAll l (envFrom vals [] l.length) F) = _
        split
        · rename_i h _; exact absurd ⟨_, h⟩ hd
        · rfl
      rw [he]
      rcases ih F t with ⟨j, o, h1, h2, h3⟩ | ⟨h1, h2⟩
      · exact .inl ⟨j, o, hget j o h1, h2, h3⟩
      · refine .inr ⟨fun j o h => ?_, h2⟩
        rcases hcase j o h with h' | rfl
        · exact h1 j o h'
        · exact fun h => hd ⟨_, h⟩

/-! What kind of operation leaves what as it is. -/

theorem kind_keep {cl : Nat → List AV → St → OR} {env : List AV} {F : Fr} {S S1 : St} {x : AX} {v : AV} (hk : kindX x ≤ 1) (h : aop cl env F S x = .ok v S1) : S1 = S := by
  cases x <;> first
    | (simp [kindX] at hk; done)
    | (simp only [aop, okS] at h
       repeat' (split at h)
       all_goals first | (cases h; done) | (cases h; rfl))

theorem kind_pure {cl : Nat → List AV → St → OR} {env : List AV} {F : Fr} {S S1 : St} (S' : St) {x : AX} {v : AV} (hk : kindX x = 0) (h : aop cl env F S x = .ok v S1) : aop cl env F S' x = .ok v S' := by
  cases x <;> first
    | (simp [kindX] at hk; done)
    | (simp only [aop, okS] at h ⊢
       repeat' (split at h)
       all_goals first | (cases h; done) | (cases h; simp only [*]; done) | (cases h; simp [*]))

theorem maker_free {cl : Nat → List AV → St → OR} {env : List AV} {F : Fr} {S S1 : St} {x : AX} {v : AV} (hk : makerX x = true) (h : aop cl env F S x = .ok v S1) :
    S1.next = S.next + 1 ∧ ∃ blk, (∀ k, S1.heap.get k = if k = S.next then some blk else S.heap.get k) ∧
      ∃ h', aop cl env F ⟨S.next, .lf⟩ x = .ok v ⟨S.next + 1, h'⟩ ∧ h'.get S.next = some blk ∧ ∀ k, h'.get k ≠ none → k = S.next := by
  have key : ∀ (b : ABlk) (k : Nat → AV), newB S b k = .ok v S1 → S1.next = S.next + 1 ∧ (∀ k, S1.heap.get k = if k = S.next then some b else S.heap.get k) ∧
      ∃ h', newB ⟨S.next, .lf⟩ b k = .ok v ⟨S.next + 1, h'⟩ ∧ h'.get S.next = some b ∧ ∀ k, h'.get k ≠ none → k = S.next := by
    intro b k h
    unfold newB at h ⊢
    rw [PT.force_eq] at h
    rw [PT.force_eq]
    cases h
    refine ⟨rfl, fun k => by rw [PT.get_set], _, rfl, by rw [PT.get_set, if_pos rfl], fun k hk => ?_⟩
    rw [PT.get_set] at hk
    by_cases e : k = S.next
    · exact e
    · rw [if_neg e] at hk; exact absurd rfl hk
  cases x <;> try (simp [makerX] at hk; done)
  · simp only [aop, doAlloc] at h ⊢
    obtain ⟨h1, h2, h3⟩ := key _ _ h
    exact ⟨h1, _, h2, h3⟩
  · simp only [aop, doAlloc] at h ⊢
    split at h
    · obtain ⟨h1, h2, h3⟩ := key _ _ h
      exact ⟨h1, _, h2, h3⟩
    · cases h
  · simp only [aop] at h ⊢
    repeat' (split at h)
    all_goals first
      | (cases h; done)
      | (obtain ⟨h1, h2, h3⟩ := key _ _ h
         exact ⟨h1, _, h2, h3⟩)

end
end Go.Av
