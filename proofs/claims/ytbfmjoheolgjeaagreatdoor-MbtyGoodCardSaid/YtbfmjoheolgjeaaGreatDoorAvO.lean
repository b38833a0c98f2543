/- Drawn regions: whatever order is drawn, they do what the evaluator says. -/
import Derived.Test.YtbfmjoheolgjeaaGreatDoorAvN
namespace Go.Av
section

mutual
theorem avEq_eq : ∀ (a b : AV), avEq a b = true → a = b
  | .int k n, b, h => by
    cases b <;> simp only [avEq] at h <;> try (cases h; done)
    simp only [Bool.and_eq_true] at h
    have h2 := h.2
    rw [eqI_eq, decide_eq_true_eq] at h2
    rw [kEq_eq h.1, h2]
  | .bool a, b, h => by
    cases b <;> simp only [avEq] at h <;> try (cases h; done)
    rename_i b
    cases a <;> cases b <;> first | rfl | cases h
  | .str l n, b, h => by
    cases b <;> simp only [avEq] at h <;> try (cases h; done)
    simp only [Bool.and_eq_true] at h
    rw [Nat.eq_of_beq_eq_true h.1, Nat.eq_of_beq_eq_true h.2]
  | .nilp, b, h => by cases b <;> simp only [avEq] at h <;> first | rfl | cases h
  | .ptr c o, b, h => by
    cases b <;> simp only [avEq] at h <;> try (cases h; done)
    simp only [Bool.and_eq_true] at h
    rw [Nat.eq_of_beq_eq_true h.1, Nat.eq_of_beq_eq_true h.2]
  | .nils, b, h => by cases b <;> simp only [avEq] at h <;> first | rfl | cases h
  | .slc b o l c, b', h => by
    cases b' <;> simp only [avEq] at h <;> try (cases h; done)
    rename_i b' o' l' c'
    simp only [Bool.and_eq_true] at h
    obtain ⟨⟨⟨h1, h2⟩, h3⟩, h4⟩ := h
    have h5 : c = c' := by
      cases c <;> cases c' <;> first | rfl | (cases h4; done) | rw [Nat.eq_of_beq_eq_true h4]
    rw [Nat.eq_of_beq_eq_true h1, Nat.eq_of_beq_eq_true h2, Nat.eq_of_beq_eq_true h3, h5]
  | .nilf, b, h => by cases b <;> simp only [avEq] at h <;> first | rfl | cases h
  | .fn f x y, b, h => by cases b <;> simp only [avEq] at h <;> cases h
  | .nili, b, h => by cases b <;> simp only [avEq] at h <;> first | rfl | cases h
  | .ifc t v, b, h => by cases b <;> simp only [avEq] at h <;> cases h
  | .nilm, b, h => by cases b <;> simp only [avEq] at h <;> first | rfl | cases h
  | .map b, b', h => by
    cases b' <;> simp only [avEq] at h <;> try (cases h; done)
    rw [Nat.eq_of_beq_eq_true h]
  | .agg l, b, h => by
    cases b <;> simp only [avEq] at h <;> try (cases h; done)
    rw [avsEq_eq _ _ h]
  | .tup l, b, h => by
    cases b <;> simp only [avEq] at h <;> try (cases h; done)
    rw [avsEq_eq _ _ h]
theorem avsEq_eq : ∀ (l r : List AV), avsEq l r = true → l = r
  | [], r, h => by cases r <;> simp only [avsEq] at h <;> first | rfl | cases h
  | a :: l, r, h => by
    cases r <;> simp only [avsEq] at h <;> try (cases h; done)
    simp only [Bool.and_eq_true] at h
    rw [avEq_eq _ _ h.1, avsEq_eq _ _ h.2]
end

/-- What stands at a place: 0 pure, 1 looks, 2 of the chain, 3 a maker that floats. -/
def kindO (o : AOp) : Nat := match o.flt && makerX o.x with | true => 3 | false => kindX o.x

def kindAt (as : List AOp) (i : Nat) : Nat := match as[i]? with | some o => kindO o | none => 0
def befAt (as : List AOp) (i : Nat) : List Nat := match as[i]? with | some o => o.bef | none => []
def asgAt (as : List AOp) (i t : Nat) : Bool := match as[i]? with | some o => (match o.dst with | .var t' => t == t' | _ => false) | none => false
def dstAt (ops : Array Oper) (perm : List Nat) (i : Nat) : Option Nat := match perm[i]? with | some k => (match ops[k]? with | some o => o.dst | none => none) | none => none

def asgOK (as : List AOp) (j t : Nat) : Bool := (List.range as.length).all fun i => !asgAt as i t || i == j || (befAt as i).contains j

def omd (ops : Array Oper) (vars perm : List Nat) (as : List AOp) (j : Nat) (bef : List Nat) : Opd → Operand → Bool
  | .loc i, .tmp t => decide (i < j) && bef.contains (j - 1 - i) && dstAt ops perm (j - 1 - i) == some t
  | .var t, .tmp t' => t == t' && vars.contains t && asgOK as j t
  | .cst v, .const u => vmatch v u
  | .cst v, .func f => vmatch v (.func (.func f) #[] #[])
  | _, _ => false

def ddmatch (n : Nat) (vars : List Nat) : Dst → Option Nat → Bool
  | .push, some t => !vars.contains t && decide (t < n)
  | .var t, some t' => t == t' && vars.contains t && decide (t < n)
  | .drop, none => true
  | _, _ => false

/-- A look may be done ahead of place q's operation, with those of the chain ahead of q done. -/
def lookOK (as : List AOp) (j : Nat) (a : AOp) (q : Nat) : Bool :=
  a.bef.any (fun i => decide (q ≤ i) && kindAt as i == 2) ||
  (List.range q).any (fun i => kindAt as i == 2 && (befAt as i).contains j) ||
  (decide (j ≤ q) && (List.range q).all (fun r => decide (r < j) || decide (kindAt as r < 2))) ||
  a.chk.contains (as.length - q)

def placeOK (P : Program) (n : Nat) (vars perm : List Nat) (as : List AOp) (ops : Array Oper) (j : Nat) (a : AOp) (o : Oper) : Bool :=
  ddmatch n vars a.dst o.dst && gmatch ops (omd ops vars perm as j a.bef) a.guard o.guard && xmatch P (omd ops vars perm as j a.bef) o.op a.x &&
  (o.after.toList.all fun e => !Region.binds .any e || (List.range j).any fun i => perm[i]? == some e.on) &&
  (a.bef.all fun i => decide (i < j) && o.after.toList.any fun e => Region.binds .any e && (perm[i]? == some e.on || (List.range j).any fun i' => perm[i']? == some e.on && (befAt as i').contains i)) &&
  (match kindO a with
   | 0 => true
   | 1 => (List.range (as.length + 1)).all fun q => !(q == as.length || kindAt as q == 2) || lookOK as j a q
   | _ => (List.range j).all fun i => !(kindAt as i == 2) || a.bef.contains i) &&
  ((List.range j).all fun i => dstAt ops perm i != dstAt ops perm j || dstAt ops perm j == none)

def dmK (P : Program) (n : Nat) (vars perm : List Nat) (as : List AOp) (ops : Array Oper) : Bool :=
  ops.size == as.length && perm.length == as.length && decide perm.Nodup && ((List.range as.length).all fun i => perm.contains i) &&
  (List.range as.length).all fun j => match as[j]?, (perm[j]?).bind (ops[·]?) with
    | some a, some o => placeOK P n vars perm as ops j a o
    | _, _ => false


variable {P : Program} {B : Nat}

/-- The memory between two of the chain. -/
structure Mid (B N : Nat) (as : List AOp) (X : Nat → Prop) (S : St) (β0 : Beta) (w0 : World) (st : Nat → St) (q : Nat) (β : Beta) (w : World) : Prop where
  rel : Rel B (st q) β w
  fu : FreeU β (st q).next
  step : Step S β0 w0 (st q) β w
  mono : ∀ i j, i ≤ j → j ≤ q → (st i).next ≤ (st j).next
  fl : ∀ k, k < N → kindAt as k = 3 → k < q → ¬ X k → (st k).next < (st (k + 1)).next → β (st k).next = none ∧ (st q).heap.get (st k).next = (st (k + 1)).heap.get (st k).next

theorem Mid.after {N : Nat} {as : List AOp} {X : Nat → Prop} {S : St} {β0 β β' : Beta} {w0 w w' : World} {st : Nat → St} {q q' : Nat} (hf0 : FreeU β0 S.next) (h : Mid B N as X S β0 w0 st q β w)
    (hS : Step (st q) β w (st q') β' w') (hR : Rel B (st q') β' w') (hq : q' = q ∨ (q' = q + 1 ∧ kindAt as q ≠ 3)) : Mid B N as X S β0 w0 st q' β' w' := by
  have hlt : ∀ k, k < q → (st k).next < (st (k + 1)).next → (st k).next < (st q).next := fun k hk hn => Nat.lt_of_lt_of_le hn (h.mono (k + 1) q hk (Nat.le_refl _))
  refine ⟨hR, h.fu.step hS, h.step.then hf0 h.rel.hlt hS, ?_, ?_⟩
  · intro i j hij hj
    rcases hq with rfl | ⟨rfl, _⟩
    · exact h.mono i j hij hj
    · by_cases e : j ≤ q
      · exact h.mono i j hij e
      · have : j = q + 1 := by omega
        subst this
        by_cases e2 : i ≤ q
        · exact Nat.le_trans (h.mono i q e2 (Nat.le_refl _)) hS.nx
        · have : i = q + 1 := by omega
          subst this; exact Nat.le_refl _
  · intro k hkN hk3 hk hX hn
    have hkq : k < q := by
      rcases hq with rfl | ⟨rfl, hq3⟩
      · exact hk
      · have : k ≠ q := fun e => hq3 (e ▸ hk3)
        omega
    obtain ⟨f1, f2⟩ := h.fl k hkN hk3 hkq hX hn
    have hl := hlt k hkq hn
    refine ⟨?_, (hS.nt _ hl f1).trans f2⟩
    cases hb : β' (st k).next with
    | none => rfl
    | some m =>
      rcases hS.nw _ m hb with h1 | ⟨h1, _⟩
      · rw [f1] at h1; cases h1
      · omega

/-- A floating maker that is not done yet: its block is nobody's. -/
theorem Mid.float {N : Nat} {as : List AOp} {X : Nat → Prop} {S : St} {β0 β : Beta} {w0 w : World} {st : Nat → St} {q : Nat} (h : Mid B N as X S β0 w0 st q β w)
    {blk : ABlk} (h1 : (st (q + 1)).next = (st q).next + 1) (h2 : ∀ k, (st (q + 1)).heap.get k = if k = (st q).next then some blk else (st q).heap.get k) :
    Mid B N as X S β0 w0 st (q + 1) β w := by
  have hfree : β (st q).next = none := h.fu _ (Nat.le_refl _)
  have hlt : ∀ k, k < q → (st k).next < (st (k + 1)).next → (st k).next < (st q).next := fun k hk hn => Nat.lt_of_lt_of_le hn (h.mono (k + 1) q hk (Nat.le_refl _))
  refine ⟨⟨?_, h.rel.bsz, ?_, ?_, h.rel.bB⟩, fun b hb => h.fu b (by omega), ?_, ?_, ?_⟩
  · intro b hb
    rw [h2] at hb
    by_cases e : b = (st q).next
    · omega
    · rw [if_neg e] at hb; have := h.rel.hlt b hb; omega
  · intro b bk m hb hm
    have e : b ≠ (st q).next := fun e => by subst e; rw [hfree] at hm; cases hm
    rw [h2, if_neg e] at hb
    exact h.rel.live b bk m hb hm
  · intro b b' m m' hne l1 l2 e1 e2
    have e : b ≠ (st q).next := fun e => by subst e; rw [hfree] at e1; cases e1
    have e' : b' ≠ (st q).next := fun e => by subst e; rw [hfree] at e2; cases e2
    rw [h2, if_neg e] at l1
    rw [h2, if_neg e'] at l2
    exact h.rel.inj b b' m m' hne l1 l2 e1 e2
  · have hs := h.step
    refine ⟨by have := hs.nx; omega, hs.le, ?_, ?_, ?_, hs.os, hs.tape, hs.output, hs.size, hs.kept⟩
    · intro b m hb
      rcases hs.nw b m hb with h3 | ⟨h3, h4, h5⟩
      · exact .inl h3
      · exact .inr ⟨h3, by omega, h5⟩
    · intro b hb hl
      have hn := hs.nx
      rw [h2, if_neg (by omega)] at hl
      exact hs.lv b hb hl
    · intro b hb hn0
      have hn := hs.nx
      rw [h2, if_neg (by omega)]
      exact hs.nt b hb hn0
  · intro i j hij hj
    by_cases e : j ≤ q
    · exact h.mono i j hij e
    · have : j = q + 1 := by omega
      subst this
      by_cases e2 : i ≤ q
      · have := h.mono i q e2 (Nat.le_refl _); omega
      · have : i = q + 1 := by omega
        subst this; exact Nat.le_refl _
  · intro k hkN hk3 hk hX hn
    by_cases e : k = q
    · subst e
      exact ⟨hfree, rfl⟩
    · obtain ⟨f1, f2⟩ := h.fl k hkN hk3 (by omega) hX hn
      have hl := hlt k (by omega) hn
      exact ⟨f1, by rw [h2, if_neg (by omega)]; exact f2⟩

theorem Mid.same {N : Nat} {as : List AOp} {X : Nat → Prop} {S : St} {β0 β : Beta} {w0 w : World} {st : Nat → St} {q : Nat} (h : Mid B N as X S β0 w0 st q β w) (hs : st (q + 1) = st q) :
    Mid B N as X S β0 w0 st (q + 1) β w := by
  refine ⟨by rw [hs]; exact h.rel, by rw [hs]; exact h.fu, by rw [hs]; exact h.step, ?_, ?_⟩
  · intro i j hij hj
    by_cases e : j ≤ q
    · exact h.mono i j hij e
    · have : j = q + 1 := by omega
      subst this
      by_cases e2 : i ≤ q
      · rw [hs]; exact h.mono i q e2 (Nat.le_refl _)
      · have : i = q + 1 := by omega
        subst this; exact Nat.le_refl _
  · intro k hkN hk3 hk hX hn
    by_cases e : k = q
    · subst e
      rw [hs] at hn
      omega
    · rw [hs]
      exact h.fl k hkN hk3 (by omega) hX hn

/-- On to the next of the chain. -/
theorem Mid.advance {N : Nat} {as : List AOp} {X : Nat → Prop} {S : St} {β0 β : Beta} {w0 w : World} {st : Nat → St}
    (hst : ∀ k, k < N → kindAt as k ≠ 2 → st (k + 1) = st k ∨ (kindAt as k = 3 ∧ (st (k + 1)).next = (st k).next + 1 ∧ ∃ blk, ∀ b, (st (k + 1)).heap.get b = if b = (st k).next then some blk else (st k).heap.get b)) :
    ∀ (d q : Nat), q + d = N → Mid B N as X S β0 w0 st q β w →
      ∃ p, q ≤ p ∧ p ≤ N ∧ (p = N ∨ kindAt as p = 2) ∧ (∀ r, q ≤ r → r < p → kindAt as r ≠ 2) ∧ Mid B N as X S β0 w0 st p β w := by
  intro d
  induction d with
  | zero => intro q hq h; exact ⟨q, Nat.le_refl _, by omega, .inl (by omega), fun r h1 h2 => by omega, h⟩
  | succ d ih =>
    intro q hq h
    by_cases hk : kindAt as q = 2
    · exact ⟨q, Nat.le_refl _, by omega, .inr hk, fun r h1 h2 => by omega, h⟩
    · have h' : Mid B N as X S β0 w0 st (q + 1) β w := by
        rcases hst q (by omega) hk with hs | ⟨h3, h4, blk, h5⟩
        · exact h.same hs
        · exact h.float h4 h5
      obtain ⟨p, p1, p2, p3, p4, p5⟩ := ih (q + 1) (by omega) h'
      refine ⟨p, by omega, p2, p3, fun r h1 h2 => ?_, p5⟩
      by_cases e : r = q
      · subst e; exact hk
      · exact p4 r (by omega) h2

theorem Mid.mono_X {N : Nat} {as : List AOp} {X X' : Nat → Prop} {S : St} {β0 β : Beta} {w0 w : World} {st : Nat → St} {q : Nat} (h : Mid B N as X S β0 w0 st q β w) (hx : ∀ k, X k → X' k) :
    Mid B N as X' S β0 w0 st q β w :=
  ⟨h.rel, h.fu, h.step, h.mono, fun k a b c d e => h.fl k a b c (fun hX => d (hx k hX)) e⟩

end
end Go.Av
