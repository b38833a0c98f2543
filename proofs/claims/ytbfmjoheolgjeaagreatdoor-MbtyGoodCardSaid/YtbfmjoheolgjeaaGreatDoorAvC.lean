/- What an abstract heap says of a world, and the steps of memory. -/
import Derived.Test.YtbfmjoheolgjeaaGreatDoorAvB
namespace Go.Av

/-- What a block says of a world. -/
def BR (β : Beta) (m : BM) (w : World) : ABlk → Prop
  | .cells esz size c => ∃ C e, w.heap[m.blk]? = some (.cells C e (0, 0)) ∧ size ≤ m.lim ∧ m.off + m.lim ≤ C.size ∧ m.sz = esz ∧
      ∀ i v, c.get i = some v → i < size ∧ ∃ u, C[m.off + i]? = some u ∧ VR β v u
  | .map es => ∃ E k, w.heap[m.blk]? = some (.map E k) ∧ E.size = es.length ∧
      ∀ i (h : i < es.length) (h' : i < E.size), VR β (es[i]).1 (E[i]).key ∧ VR β (es[i]).2 (E[i]).val

theorem BR.mono {β β' : Beta} (hb : β.le β') {m : BM} {w : World} {blk : ABlk} (h : BR β m w blk) : BR β' m w blk := by
  cases blk with
  | cells esz size c =>
    obtain ⟨C, e, h1, h2, h3, h4, h5⟩ := h
    exact ⟨C, e, h1, h2, h3, h4, fun i v hv => let ⟨a, u, b, c⟩ := h5 i v hv; ⟨a, u, b, c.mono hb⟩⟩
  | map es =>
    obtain ⟨E, k, h1, h2, h3⟩ := h
    exact ⟨E, k, h1, h2, fun i a b => ⟨(h3 i a b).1.mono hb, (h3 i a b).2.mono hb⟩⟩

theorem BR.world {β : Beta} {m : BM} {w w' : World} {blk : ABlk} (h : BR β m w blk) (hw : w'.heap[m.blk]? = w.heap[m.blk]?) : BR β m w' blk := by
  cases blk with
  | cells esz size c =>
    obtain ⟨C, e, h1, h2⟩ := h
    exact ⟨C, e, hw.trans h1, h2⟩
  | map es =>
    obtain ⟨E, k, h1, h2⟩ := h
    exact ⟨E, k, hw.trans h1, h2⟩

structure Rel (B : Nat) (S : St) (β : Beta) (w : World) : Prop where
  hlt : ∀ b, S.heap.get b ≠ none → b < S.next
  bsz : ∀ b m, β b = some m → m.blk < w.heap.size
  live : ∀ b blk m, S.heap.get b = some blk → β b = some m → B ≤ m.blk ∧ BR β m w blk
  inj : ∀ b b' m m', b ≠ b' → S.heap.get b ≠ none → S.heap.get b' ≠ none → β b = some m → β b' = some m' → m.blk ≠ m'.blk
  bB : B ≤ w.heap.size

def Owned (S : St) (β : Beta) (c : Nat) : Prop := ∃ b m, S.heap.get b ≠ none ∧ β b = some m ∧ m.blk = c

def Free (β : Beta) (n n' : Nat) : Prop := ∀ b, n ≤ b → b < n' → β b = none

theorem Free.left {β : Beta} {n n1 n2 : Nat} (h : Free β n n2) (h' : n1 ≤ n2) : Free β n n1 := fun b a c => h b a (by omega)

structure Step (S : St) (β : Beta) (w : World) (S' : St) (β' : Beta) (w' : World) : Prop where
  nx : S.next ≤ S'.next
  le : β.le β'
  nw : ∀ b m, β' b = some m → β b = some m ∨ (S.next ≤ b ∧ b < S'.next ∧ (w.heap.size ≤ m.blk ∨ Owned S β m.blk))
  lv : ∀ b, b < S.next → S'.heap.get b ≠ none → S.heap.get b ≠ none
  nt : ∀ b, b < S.next → β b = none → S'.heap.get b = S.heap.get b
  os : w'.os = w.os
  tape : w'.tape = w.tape
  output : w'.output = w.output
  size : w.heap.size ≤ w'.heap.size
  kept : ∀ c, c < w.heap.size → ¬ Owned S β c → w'.heap[c]? = w.heap[c]?

theorem Step.refl (S : St) (β : Beta) (w : World) : Step S β w S β w :=
  ⟨Nat.le_refl _, β.le_refl, fun _ _ h => .inl h, fun _ _ h => h, fun _ _ _ => rfl, rfl, rfl, rfl, Nat.le_refl _, fun _ _ _ => rfl⟩

theorem Free.right {S S1 : St} {β β1 : Beta} {w w1 : World} {n2 : Nat} (hs : Step S β w S1 β1 w1) (h : Free β S.next n2) : Free β1 S1.next n2 := by
  intro b h1 h2
  cases hb : β1 b with
  | none => rfl
  | some m =>
    have hn := hs.nx
    rcases hs.nw b m hb with h' | ⟨_, h', _⟩
    · rw [h b (by omega) h2] at h'; cases h'
    · omega

theorem Owned.back {S S1 : St} {β β1 : Beta} {w w1 : World} {c : Nat} (hf : Free β S.next S1.next) (hl1 : ∀ b, S1.heap.get b ≠ none → b < S1.next)
    (hs : Step S β w S1 β1 w1) (h : Owned S1 β1 c) : Owned S β c ∨ w.heap.size ≤ c := by
  obtain ⟨b, m, hl, hb, rfl⟩ := h
  have hlt := hl1 b hl
  by_cases hD : b < S.next
  · rcases hs.nw b m hb with h' | ⟨h', _⟩
    · exact .inl ⟨b, m, hs.lv b hD hl, h', rfl⟩
    · omega
  · rcases hs.nw b m hb with h' | ⟨_, _, h' | h'⟩
    · rw [hf b (by omega) hlt] at h'; cases h'
    · exact .inr h'
    · exact .inl h'

theorem Step.trans {S S1 S2 : St} {β β1 β2 : Beta} {w w1 w2 : World} (hf : Free β S.next S2.next) (hl1 : ∀ b, S1.heap.get b ≠ none → b < S1.next)
    (h : Step S β w S1 β1 w1) (h' : Step S1 β1 w1 S2 β2 w2) : Step S β w S2 β2 w2 := by
  have hf1 : Free β S.next S1.next := hf.left h'.nx
  refine ⟨Nat.le_trans h.nx h'.nx, Beta.le_trans h.le h'.le, ?_, ?_, ?_, h'.os.trans h.os, h'.tape.trans h.tape, h'.output.trans h.output, Nat.le_trans h.size h'.size, ?_⟩
  · intro b m hb
    have hn := h.nx
    have hn' := h'.nx
    have hz := h.size
    rcases h'.nw b m hb with h1 | ⟨h1, h2, h3 | h3⟩
    · rcases h.nw b m h1 with h4 | ⟨h4, h5, h6⟩
      · exact .inl h4
      · exact .inr ⟨h4, by omega, h6⟩
    · exact .inr ⟨by omega, h2, .inl (by omega)⟩
    · refine .inr ⟨by omega, h2, ?_⟩
      rcases h3.back hf1 hl1 h with h7 | h7
      · exact .inr h7
      · exact .inl h7
  · intro b hb hl
    have hn := h.nx
    exact h.lv b hb (h'.lv b (by omega) hl)
  · intro b hb hn0
    have hn := h.nx
    refine (h'.nt b (by omega) ?_).trans (h.nt b hb hn0)
    cases hm : β1 b with
    | none => rfl
    | some m =>
      rcases h.nw b m hm with h1 | ⟨h1, _⟩
      · rw [hn0] at h1; cases h1
      · omega
  · intro c hc ho
    have hz := h.size
    rw [h'.kept c (by omega) (fun ho' => ?_), h.kept c hc ho]
    rcases ho'.back hf1 hl1 h with h7 | h7
    · exact ho h7
    · omega

/-- A world that differs in the draws alone. -/
theorem Rel.drawn {B : Nat} {S : St} {β : Beta} {w w' : World} (h : Rel B S β w) (hh : w'.heap = w.heap) : Rel B S β w' := by
  refine ⟨h.hlt, fun b m hb => hh ▸ h.bsz b m hb, fun b blk m hl hm => ?_, h.inj, hh ▸ h.bB⟩
  obtain ⟨h2, h3⟩ := h.live b blk m hl hm
  exact ⟨h2, h3.world (by rw [hh])⟩

theorem Step.drawn {S : St} {β : Beta} {w w' : World} (hh : w'.heap = w.heap) (ho : w'.os = w.os) (ht : w'.tape = w.tape) (hu : w'.output = w.output) :
    Step S β w S β w' :=
  ⟨Nat.le_refl _, β.le_refl, fun _ _ h => .inl h, fun _ _ h => h, fun _ _ _ => rfl, ho, ht, hu, by rw [hh]; exact Nat.le_refl _, fun c _ _ => by rw [hh]⟩

def Beta.put (β : Beta) (n : Nat) (m : BM) : Beta := fun b => if b = n then some m else β b

theorem Beta.put_self (β : Beta) (n : Nat) (m : BM) : β.put n m n = some m := by simp [Beta.put]
theorem Beta.put_ne (β : Beta) {n b : Nat} (m : BM) (h : b ≠ n) : β.put n m b = β b := by simp [Beta.put, h]
theorem Beta.le_put {β : Beta} {n : Nat} (h : β n = none) (m : BM) : β.le (β.put n m) := by
  intro b m' hb
  by_cases e : b = n
  · subst e; rw [h] at hb; cases hb
  · rw [Beta.put_ne _ _ e]; exact hb

/-- The world with one object more. -/
theorem push_new (w : World) (o : Obj) : (w.heap.push o)[w.heap.size]? = some o := by simp
theorem push_old (w : World) (o : Obj) (k : Nat) (h : k < w.heap.size) : (w.heap.push o)[k]? = w.heap[k]? := by
  rw [Array.getElem?_push, if_neg (by omega)]

/-- A new block. -/
theorem alloc_step {B : Nat} {S : St} {β : Beta} {w w1 : World} (hR : Rel B S β w) (hf : β S.next = none) (blk : ABlk) (m : BM) (o : Obj)
    (h1 : w1.heap = w.heap.push o) (ho : w1.os = w.os) (ht : w1.tape = w.tape) (hu : w1.output = w.output) (hm : m.blk = w.heap.size)
    (hb : BR (β.put S.next m) m w1 blk) (h' : PT ABlk) (hh : ∀ k, h'.get k = if k = S.next then some blk else S.heap.get k) :
    Rel B ⟨S.next + 1, h'⟩ (β.put S.next m) w1 ∧ Step S β w ⟨S.next + 1, h'⟩ (β.put S.next m) w1 := by
  have hle : β.le (β.put S.next m) := Beta.le_put hf m
  have hsz : w1.heap.size = w.heap.size + 1 := by rw [h1]; simp
  constructor
  · refine ⟨?_, ?_, ?_, ?_, ?_⟩
    · intro b hb
      replace hb : h'.get b ≠ none := hb
      show b < S.next + 1
      rw [hh] at hb
      by_cases e : b = S.next
      · omega
      · rw [if_neg e] at hb; have := hR.hlt b hb; omega
    · intro b m' hb'
      by_cases e : b = S.next
      · subst e; rw [Beta.put_self] at hb'; cases hb'; omega
      · rw [Beta.put_ne _ _ e] at hb'; have := hR.bsz b m' hb'; omega
    · intro b bk m' hl hm'
      replace hl : h'.get b = some bk := hl
      rw [hh] at hl
      by_cases e : b = S.next
      · rw [if_pos e] at hl
        cases hl
        subst e
        rw [Beta.put_self] at hm'
        cases hm'
        exact ⟨by have := hR.bB; omega, hb⟩
      · rw [if_neg e] at hl
        rw [Beta.put_ne _ _ e] at hm'
        obtain ⟨a2, a3⟩ := hR.live b bk m' hl hm'
        have hlt := hR.bsz b m' hm'
        exact ⟨a2, (a3.mono hle).world (by rw [h1]; exact push_old w o _ hlt)⟩
    · intro b b' m1 m2 hbb hl hl' e1 e2
      replace hl : h'.get b ≠ none := hl
      replace hl' : h'.get b' ≠ none := hl'
      rw [hh] at hl hl'
      by_cases e : b = S.next
      · subst e
        rw [Beta.put_self] at e1
        cases e1
        have e' : b' ≠ S.next := fun h => hbb h.symm
        rw [Beta.put_ne _ _ e'] at e2
        have := hR.bsz b' m2 e2
        omega
      · rw [Beta.put_ne _ _ e] at e1
        by_cases e' : b' = S.next
        · subst e'
          rw [Beta.put_self] at e2
          cases e2
          have := hR.bsz b m1 e1
          omega
        · rw [Beta.put_ne _ _ e'] at e2
          rw [if_neg e] at hl
          rw [if_neg e'] at hl'
          exact hR.inj b b' m1 m2 hbb hl hl' e1 e2
    · have := hR.bB; omega
  · refine ⟨Nat.le_succ _, hle, ?_, ?_, ?_, ho, ht, hu, by omega, ?_⟩
    · intro b m' hb'
      by_cases e : b = S.next
      · subst e
        rw [Beta.put_self] at hb'
        cases hb'
        exact .inr ⟨Nat.le_refl _, Nat.lt_succ_self _, .inl (by omega)⟩
      · rw [Beta.put_ne _ _ e] at hb'; exact .inl hb'
    · intro b hb' hl
      replace hl : h'.get b ≠ none := hl
      rw [hh, if_neg (by omega)] at hl
      exact hl
    · intro b hb' _
      show h'.get b = _
      rw [hh, if_neg (by omega)]
    · intro c hc _
      rw [h1]
      exact push_old w o c hc

/-- A block is written (its cells, or its entries). -/
theorem write_step {B : Nat} {S : St} {β : Beta} {w w1 : World} (hR : Rel B S β w) (b : Nat) (m : BM) (blk : ABlk) (hl : S.heap.get b ≠ none)
    (hm : β b = some m) (h1 : w1.heap.size = w.heap.size) (h2 : ∀ c, c ≠ m.blk → w1.heap[c]? = w.heap[c]?) (ho : w1.os = w.os) (ht : w1.tape = w.tape) (hu : w1.output = w.output)
    (hb : BR β m w1 blk) (h' : PT ABlk) (hh : ∀ k, h'.get k = if k = b then some blk else S.heap.get k) :
    Rel B ⟨S.next, h'⟩ β w1 ∧ Step S β w ⟨S.next, h'⟩ β w1 := by
  have hbm : B ≤ m.blk := by
    obtain ⟨x, hx⟩ := Option.ne_none_iff_exists'.1 hl
    exact (hR.live b x m hx hm).1
  have hlv : ∀ k, h'.get k ≠ none → S.heap.get k ≠ none := by
    intro k hk
    rw [hh] at hk
    by_cases e : k = b
    · subst e; exact hl
    · rw [if_neg e] at hk; exact hk
  constructor
  · refine ⟨fun k hk => hR.hlt k (hlv k hk), fun b' m' e => by have := hR.bsz b' m' e; omega, ?_, ?_, by have := hR.bB; omega⟩
    · intro b' bk m' hl' hm'
      replace hl' : h'.get b' = some bk := hl'
      rw [hh] at hl'
      by_cases e : b' = b
      · rw [if_pos e] at hl'
        cases hl'
        subst e
        rw [hm] at hm'
        cases hm'
        exact ⟨hbm, hb⟩
      · rw [if_neg e] at hl'
        obtain ⟨a2, a3⟩ := hR.live b' bk m' hl' hm'
        have hne := hR.inj b' b m' m e (by rw [hl']; simp) hl hm' hm
        exact ⟨a2, a3.world (h2 _ hne)⟩
    · intro b1 b2 m1 m2 hne l1 l2 e1 e2
      exact hR.inj b1 b2 m1 m2 hne (hlv b1 l1) (hlv b2 l2) e1 e2
  · refine ⟨Nat.le_refl _, β.le_refl, fun _ _ h => .inl h, fun b' _ hl' => hlv b' hl', ?_, ho, ht, hu, by omega, ?_⟩
    · intro b' _ hn0
      show h'.get b' = _
      rw [hh, if_neg (fun e => by subst e; rw [hm] at hn0; cases hn0)]
    intro c hc hno
    exact h2 c (fun e => hno ⟨b, m, hl, hm, e.symm⟩)

/-- A block goes: nothing is said of it any more. -/
theorem drop_block {B : Nat} {S : St} {β : Beta} {w : World} (hR : Rel B S β w) (b : Nat) (hb : β b ≠ none) :
    Rel B ⟨S.next, PT.set none S.heap b⟩ β w ∧ Step S β w ⟨S.next, PT.set none S.heap b⟩ β w := by
  have hg : ∀ k x, (PT.set none S.heap b).get k = some x → S.heap.get k = some x := by
    intro k x h
    rw [PT.get_set] at h
    by_cases e : k = b
    · rw [if_pos e] at h; cases h
    · rw [if_neg e] at h; exact h
  have hg' : ∀ k, (PT.set none S.heap b).get k ≠ none → S.heap.get k ≠ none := by
    intro k hk
    obtain ⟨x, hx⟩ := Option.ne_none_iff_exists'.1 hk
    rw [hg _ _ hx]; simp
  refine ⟨⟨fun k hk => hR.hlt k (hg' k hk), hR.bsz, fun k x m h => hR.live k x m (hg k x h), ?_, hR.bB⟩, ?_⟩
  · intro b1 b2 m1 m2 hne l1 l2 e1 e2
    exact hR.inj b1 b2 m1 m2 hne (hg' _ l1) (hg' _ l2) e1 e2
  · exact ⟨Nat.le_refl _, β.le_refl, fun _ _ h => .inl h, fun k _ hk => hg' k hk, fun k _ hk => by rw [PT.get_set, if_neg (fun e => by subst e; exact hb hk)], rfl, rfl, rfl, Nat.le_refl _, fun _ _ _ => rfl⟩

/-- A row that grows where it lies, under another number. -/
theorem move_step {B : Nat} {S : St} {β : Beta} {w w1 : World} (hR : Rel B S β w) (hf : β S.next = none) (b : Nat) (m m' : BM) (blk : ABlk) (hl : S.heap.get b ≠ none)
    (hm : β b = some m) (hmm : m'.blk = m.blk) (h1 : w1.heap.size = w.heap.size) (h2 : ∀ c, c ≠ m.blk → w1.heap[c]? = w.heap[c]?) (ho : w1.os = w.os) (ht : w1.tape = w.tape) (hu : w1.output = w.output)
    (hb : BR (β.put S.next m') m' w1 blk) (h' : PT ABlk) (hh : ∀ k, h'.get k = if k = S.next then some blk else if k = b then none else S.heap.get k) :
    Rel B ⟨S.next + 1, h'⟩ (β.put S.next m') w1 ∧ Step S β w ⟨S.next + 1, h'⟩ (β.put S.next m') w1 := by
  have hle : β.le (β.put S.next m') := Beta.le_put hf m'
  have hbm : B ≤ m.blk := by
    obtain ⟨x, hx⟩ := Option.ne_none_iff_exists'.1 hl
    exact (hR.live b x m hx hm).1
  have other : ∀ k, k ≠ S.next → h'.get k ≠ none → k ≠ b ∧ S.heap.get k ≠ none := by
    intro k e hk
    rw [hh, if_neg e] at hk
    by_cases e2 : k = b
    · rw [if_pos e2] at hk; exact absurd rfl hk
    · rw [if_neg e2] at hk; exact ⟨e2, hk⟩
  constructor
  · refine ⟨?_, ?_, ?_, ?_, by have := hR.bB; omega⟩
    · intro k hk
      replace hk : h'.get k ≠ none := hk
      show k < S.next + 1
      by_cases e : k = S.next
      · omega
      · have := hR.hlt k (other k e hk).2; omega
    · intro k mk hk
      by_cases e : k = S.next
      · subst e; rw [Beta.put_self] at hk; cases hk; have := hR.bsz b m hm; omega
      · rw [Beta.put_ne _ _ e] at hk; have := hR.bsz k mk hk; omega
    · intro k bk mk hlk hmk
      replace hlk : h'.get k = some bk := hlk
      by_cases e : k = S.next
      · rw [hh, if_pos e] at hlk
        cases hlk
        subst e
        rw [Beta.put_self] at hmk
        cases hmk
        exact ⟨by omega, hb⟩
      · obtain ⟨e2, h3⟩ := other k e (by rw [hlk]; simp)
        rw [hh, if_neg e, if_neg e2] at hlk
        rw [Beta.put_ne _ _ e] at hmk
        obtain ⟨a2, a3⟩ := hR.live k bk mk hlk hmk
        have hne := hR.inj k b mk m e2 h3 hl hmk hm
        exact ⟨a2, (a3.mono hle).world (h2 _ hne)⟩
    · intro b1 b2 m1 m2 hne l1 l2 e1 e2
      replace l1 : h'.get b1 ≠ none := l1
      replace l2 : h'.get b2 ≠ none := l2
      by_cases e : b1 = S.next
      · have e' : b2 ≠ S.next := fun h => hne (e.trans h.symm)
        obtain ⟨c1, c2⟩ := other b2 e' l2
        rw [Beta.put_ne _ _ e'] at e2
        subst e
        rw [Beta.put_self] at e1
        cases e1
        rw [hmm]
        exact fun h => hR.inj b2 b m2 m c1 c2 hl e2 hm h.symm
      · obtain ⟨c1, c2⟩ := other b1 e l1
        rw [Beta.put_ne _ _ e] at e1
        by_cases e' : b2 = S.next
        · subst e'
          rw [Beta.put_self] at e2
          cases e2
          rw [hmm]
          exact hR.inj b1 b m1 m c1 c2 hl e1 hm
        · obtain ⟨f1, f2⟩ := other b2 e' l2
          rw [Beta.put_ne _ _ e'] at e2
          exact hR.inj b1 b2 m1 m2 hne c2 f2 e1 e2
  · refine ⟨Nat.le_succ _, hle, ?_, ?_, ?_, ho, ht, hu, by omega, ?_⟩
    · intro k mk hk
      by_cases e : k = S.next
      · subst e
        rw [Beta.put_self] at hk
        cases hk
        exact .inr ⟨Nat.le_refl _, Nat.lt_succ_self _, .inr ⟨b, m, hl, hm, hmm.symm⟩⟩
      · rw [Beta.put_ne _ _ e] at hk; exact .inl hk
    · intro k hk hlk
      replace hlk : h'.get k ≠ none := hlk
      exact (other k (by omega) hlk).2
    · intro k hk hk0
      show h'.get k = _
      rw [hh, if_neg (by omega), if_neg (fun e => by subst e; rw [hm] at hk0; cases hk0)]
    · intro c hc hno
      exact h2 c (fun e => hno ⟨b, m, hl, hm, e.symm⟩)

theorem loadN_zero (c : PT AV) (i : Nat) : loadN c 0 i = some [] := rfl
theorem loadN_succ (c : PT AV) (n i : Nat) : loadN c (n + 1) i = match c.get i, loadN c n (i + 1) with | some v, some l => some (v :: l) | _, _ => none := rfl

theorem loadN_some {c : PT AV} : ∀ {n i : Nat} {l : List AV}, loadN c n i = some l → l.length = n ∧ ∀ j (h : j < l.length), c.get (i + j) = some l[j] := by
  intro n
  induction n with
  | zero => intro i l h; rw [loadN_zero] at h; cases h; exact ⟨rfl, fun j h => by simp at h⟩
  | succ n ih =>
    intro i l h
    rw [loadN_succ] at h
    split at h
    · rename_i v l' h1 h2
      cases h
      obtain ⟨a1, a2⟩ := ih h2
      refine ⟨by simp [a1], fun j hj => ?_⟩
      cases j with
      | zero => simpa using h1
      | succ j =>
        have := a2 j (by simpa using hj)
        simpa [Nat.add_assoc, Nat.add_comm 1 j] using this
    · cases h

theorem storeN_nil (c : PT AV) (i : Nat) : storeN [] c i = c := rfl
theorem storeN_cons (v : AV) (l : List AV) (c : PT AV) (i : Nat) : storeN (v :: l) c i = storeN l (PT.set (some v) c i) (i + 1) := by
  show PT.force (fun c' => storeN l c' (Nat.succ i)) (PT.set (some v) c i) = _
  rw [PT.force_eq]

theorem get_storeN (l : List AV) : ∀ (c : PT AV) (i k : Nat), (storeN l c i).get k = if i ≤ k ∧ k < i + l.length then l[k - i]? else c.get k := by
  induction l with
  | nil => intro c i k; rw [storeN_nil, if_neg (by simp)]
  | cons v l ih =>
    intro c i k
    rw [storeN_cons, ih, PT.get_set]
    by_cases h1 : i + 1 ≤ k ∧ k < i + 1 + l.length
    · rw [if_pos h1, if_pos (by simp only [List.length_cons]; omega)]
      rw [show k - i = (k - (i + 1)) + 1 by omega, List.getElem?_cons_succ]
    · rw [if_neg h1]
      by_cases h2 : k = i
      · subst h2
        rw [if_pos rfl, if_pos (by simp only [List.length_cons]; omega)]
        simp
      · rw [if_neg h2, if_neg (by simp only [List.length_cons]; omega)]

theorem get_ofList (l : List AV) (k : Nat) : (ofList l).get k = l[k]? := by
  unfold ofList
  rw [get_storeN]
  by_cases h : k < l.length
  · rw [if_pos (by omega)]; simp
  · rw [if_neg (by omega)]
    simp at h
    simp [h]

theorem allOne_mem {l : List AV} (h : allOne l = true) : ∀ v ∈ l, oneCell v = true := by
  induction l with
  | nil => intro v hv; cases hv
  | cons x l ih =>
    have hx : (match oneCell x with | true => allOne l | false => false) = true := h
    intro v hv
    cases ho : oneCell x with
    | false => rw [ho] at hx; cases hx
    | true =>
      rw [ho] at hx
      rcases List.mem_cons.1 hv with rfl | hv
      · exact ho
      · exact ih hx v hv

theorem VR.one {β : Beta} {v : AV} {u : Value} (h : VR β v u) (ho : oneCell v = true) : (∀ cs, u ≠ .agg cs) ∧ (∀ cs, u ≠ .tuple cs) := by
  cases h <;> first | (simp [oneCell] at ho; done) | (constructor <;> intro cs h <;> cases h)

theorem VR.cells {β : Beta} {v : AV} {u : Value} (h : VR β v u) : LR β (cellsOf v) u.cells := by
  cases h with
  | agg l x hx h => exact ⟨hx, h⟩
  | _ =>
    refine ⟨rfl, fun i h1 h2 => ?_⟩
    have e : i = 0 := by simp [cellsOf] at h1; omega
    subst e
    simp only [cellsOf, Value.cells, List.getElem_cons_zero]
    constructor <;> assumption

end Go.Av
