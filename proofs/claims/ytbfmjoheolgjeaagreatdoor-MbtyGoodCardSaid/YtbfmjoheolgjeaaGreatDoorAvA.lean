/- The base of an evaluator: tries by numbers, texts packed into numbers, abstract values. -/
import Derived.Below
import Derived.Orders
import Derived.Scope
import Derived.KernelRfl
import Derived.IntWalk
namespace Go.Av

/-- A trie: things by numbers. -/
inductive PT (α : Type) where
  | lf
  | nd (v : Option α) (l r : PT α)

namespace PT
variable {α : Type}

noncomputable def force {β : Type} (k : PT α → β) (t : PT α) : β :=
  PT.rec (motive := fun _ => β) (k .lf) (fun v l r _ _ => k (.nd v l r)) t

noncomputable def getS (gl gr : Nat → Option α) (m : Nat) : Option α :=
  Bool.rec (motive := fun _ => Option α) (gr (Nat.div m 2)) (gl (Nat.div m 2)) (Nat.beq (Nat.land m 1) 0)

noncomputable def getN (v : Option α) (gl gr : Nat → Option α) (n : Nat) : Option α :=
  Nat.rec (motive := fun _ => Option α) v (fun m _ => getS gl gr m) n

noncomputable def get (t : PT α) : Nat → Option α :=
  PT.rec (motive := fun _ => Nat → Option α) (fun _ => none) (fun v _ _ gl gr => getN v gl gr) t

noncomputable def ndL (w : Option α) (r : PT α) (x : PT α) : PT α := .nd w x r
noncomputable def ndR (w : Option α) (l : PT α) (x : PT α) : PT α := .nd w l x

noncomputable def singS (ih : Nat → PT α) (m : Nat) : PT α :=
  Bool.rec (motive := fun _ => PT α) (force (ndR none .lf) (ih (Nat.div m 2))) (force (ndL none .lf) (ih (Nat.div m 2))) (Nat.beq (Nat.land m 1) 0)

noncomputable def singN (v : Option α) (ih : Nat → PT α) (n : Nat) : PT α :=
  Nat.rec (motive := fun _ => PT α) (.nd v .lf .lf) (fun m _ => singS ih m) n

noncomputable def sing (v : Option α) (fuel : Nat) : Nat → PT α :=
  Nat.rec (motive := fun _ => Nat → PT α) (fun _ => .lf) (fun _ ih => singN v ih) fuel

noncomputable def setS (w : Option α) (l r : PT α) (sl sr : Nat → PT α) (m : Nat) : PT α :=
  Bool.rec (motive := fun _ => PT α) (force (ndR w l) (sr (Nat.div m 2))) (force (ndL w r) (sl (Nat.div m 2))) (Nat.beq (Nat.land m 1) 0)

noncomputable def setN (v : Option α) (w : Option α) (l r : PT α) (sl sr : Nat → PT α) (n : Nat) : PT α :=
  Nat.rec (motive := fun _ => PT α) (.nd v l r) (fun m _ => setS w l r sl sr m) n

/-- The thing at a number becomes v. -/
noncomputable def set (v : Option α) (t : PT α) : Nat → PT α :=
  PT.rec (motive := fun _ => Nat → PT α) (fun n => sing v (Nat.succ n) n) (fun w l r sl sr => setN v w l r sl sr) t

theorem force_eq {β : Type} (k : PT α → β) (t : PT α) : force k t = k t := by cases t <;> rfl

@[simp] theorem get_lf (n : Nat) : (PT.lf : PT α).get n = none := rfl
@[simp] theorem get_zero (v : Option α) (l r : PT α) : (PT.nd v l r).get 0 = v := rfl
theorem get_succ (v : Option α) (l r : PT α) (m : Nat) : (PT.nd v l r).get (m + 1) = if m % 2 = 0 then l.get (m / 2) else r.get (m / 2) := by
  show getS l.get r.get m = _
  unfold getS
  have h : Nat.beq (Nat.land m 1) 0 = decide (m % 2 = 0) := by
    have e : Nat.land m 1 = m % 2 := Nat.and_one_is_mod m
    rw [e]
    cases hm : m % 2 with
    | zero => rfl
    | succ k => rfl
  rw [h]
  by_cases hc : m % 2 = 0 <;> simp [hc] <;> rfl

theorem beq_even (m : Nat) : Nat.beq (Nat.land m 1) 0 = decide (m % 2 = 0) := by
  have e : Nat.land m 1 = m % 2 := Nat.and_one_is_mod m
  rw [e]
  cases hm : m % 2 with
  | zero => rfl
  | succ k => rfl

theorem sing_zero (v : Option α) (f : Nat) : sing v (f + 1) 0 = .nd v .lf .lf := rfl
theorem sing_succ (v : Option α) (f m : Nat) : sing v (f + 1) (m + 1) = if m % 2 = 0 then .nd none (sing v f (m / 2)) .lf else .nd none .lf (sing v f (m / 2)) := by
  show singS (sing v f) m = _
  unfold singS
  rw [beq_even, force_eq, force_eq]
  by_cases hc : m % 2 = 0 <;> simp [hc] <;> rfl

theorem get_sing (v : Option α) : ∀ (f n k : Nat), n < f → (sing v f n).get k = if k = n then v else none := by
  intro f
  induction f with
  | zero => intro n k h; omega
  | succ f ih =>
    intro n k h
    cases n with
    | zero =>
      rw [sing_zero]
      cases k with
      | zero => simp
      | succ k => rw [get_succ]; simp
    | succ m =>
      rw [sing_succ]
      cases k with
      | zero => split <;> simp
      | succ k =>
        by_cases hm : m % 2 = 0
        · rw [if_pos hm, get_succ]
          by_cases hk : k % 2 = 0
          · rw [if_pos hk, ih _ _ (by omega)]
            by_cases e : k / 2 = m / 2
            · rw [if_pos e, if_pos (by omega)]
            · rw [if_neg e, if_neg (by intro e'; apply e; omega)]
          · rw [if_neg hk, if_neg (by intro e'; apply hk; omega)]; rfl
        · rw [if_neg hm, get_succ]
          by_cases hk : k % 2 = 0
          · rw [if_pos hk, if_neg (by intro e'; apply hm; omega)]; rfl
          · rw [if_neg hk, ih _ _ (by omega)]
            by_cases e : k / 2 = m / 2
            · rw [if_pos e, if_pos (by omega)]
            · rw [if_neg e, if_neg (by intro e'; apply e; omega)]

theorem set_lf (v : Option α) (n : Nat) : set v .lf n = sing v (n + 1) n := rfl
theorem set_zero (v w : Option α) (l r : PT α) : set v (.nd w l r) 0 = .nd v l r := rfl
theorem set_succ (v w : Option α) (l r : PT α) (m : Nat) : set v (.nd w l r) (m + 1) = if m % 2 = 0 then .nd w (set v l (m / 2)) r else .nd w l (set v r (m / 2)) := by
  show setS w l r (set v l) (set v r) m = _
  unfold setS
  rw [beq_even, force_eq, force_eq]
  by_cases hc : m % 2 = 0 <;> simp [hc] <;> rfl

theorem get_set (v : Option α) (t : PT α) : ∀ (n k : Nat), (set v t n).get k = if k = n then v else t.get k := by
  induction t with
  | lf => intro n k; rw [set_lf, get_sing _ _ _ _ (by omega)]; rfl
  | nd w l r ihl ihr =>
    intro n k
    cases n with
    | zero =>
      rw [set_zero]
      cases k with
      | zero => simp
      | succ k => rw [get_succ, get_succ]; simp
    | succ m =>
      rw [set_succ]
      cases k with
      | zero => split <;> simp
      | succ k =>
        by_cases hm : m % 2 = 0
        · rw [if_pos hm, get_succ, get_succ]
          by_cases hk : k % 2 = 0
          · rw [if_pos hk, if_pos hk, ihl]
            by_cases e : k / 2 = m / 2
            · rw [if_pos e, if_pos (by omega)]
            · rw [if_neg e, if_neg (by intro e'; apply e; omega)]
          · rw [if_neg hk, if_neg hk, if_neg (by intro e'; apply hk; omega)]
        · rw [if_neg hm, get_succ, get_succ]
          by_cases hk : k % 2 = 0
          · rw [if_pos hk, if_pos hk, if_neg (by intro e'; apply hm; omega)]
          · rw [if_neg hk, if_neg hk, ihr]
            by_cases e : k / 2 = m / 2
            · rw [if_pos e, if_pos (by omega)]
            · rw [if_neg e, if_neg (by intro e'; apply e; omega)]

theorem get_set_self (v : Option α) (t : PT α) (n : Nat) : (set v t n).get n = v := by rw [get_set, if_pos rfl]
theorem get_set_ne (v : Option α) (t : PT α) {n k : Nat} (h : k ≠ n) : (set v t n).get k = t.get k := by rw [get_set, if_neg h]
end PT

/-- Bytes packed into a number, the first one lowest. -/
def pack : List UInt8 → Nat
  | [] => 0
  | b :: l => b.toNat + 256 * pack l

theorem pack_lt (l : List UInt8) : pack l < 256 ^ l.length := by
  induction l with
  | nil => simp [pack]
  | cons b l ih =>
    have := b.toNat_lt
    simp only [pack, List.length_cons, Nat.pow_succ]
    omega

theorem pack_append (a b : List UInt8) : pack (a ++ b) = pack a + 256 ^ a.length * pack b := by
  induction a with
  | nil => simp [pack]
  | cons x a ih =>
    simp only [List.cons_append, pack, ih, List.length_cons, Nat.pow_succ]
    rw [Nat.mul_add, ← Nat.mul_assoc, Nat.mul_comm 256 (256 ^ a.length)]
    omega

theorem pack_inj : ∀ (a b : List UInt8), a.length = b.length → pack a = pack b → a = b := by
  intro a
  induction a with
  | nil => intro b h _; cases b with | nil => rfl | cons y b => simp at h
  | cons x a ih =>
    intro b h hp
    cases b with
    | nil => simp at h
    | cons y b =>
      have hx := x.toNat_lt
      have hy := y.toNat_lt
      simp only [pack] at hp
      have e1 : x.toNat = y.toNat := by omega
      have e2 : pack a = pack b := by omega
      rw [ih b (by simpa using h) e2, UInt8.toNat_inj.1 e1]

theorem pack_drop (l : List UInt8) : ∀ k, pack (l.drop k) = pack l / 256 ^ k := by
  induction l with
  | nil => intro k; simp [pack]
  | cons x l ih =>
    intro k
    cases k with
    | zero => simp
    | succ k =>
      rw [List.drop_succ_cons, ih, Nat.pow_succ, Nat.mul_comm, ← Nat.div_div_eq_div_mul]
      congr 1
      have hx := x.toNat_lt
      simp only [pack]
      omega

theorem pack_take (l : List UInt8) : ∀ k, pack (l.take k) = pack l % 256 ^ k := by
  induction l with
  | nil => intro k; simp [pack]
  | cons x l ih =>
    intro k
    cases k with
    | zero => simp [pack, Nat.mod_one]
    | succ k =>
      have hx := x.toNat_lt
      simp only [List.take_succ_cons, pack, ih]
      rw [Nat.pow_succ, Nat.mul_comm (256 ^ k) 256, Nat.mod_mul]
      have e1 : (x.toNat + 256 * pack l) % 256 = x.toNat := by omega
      have e2 : (x.toNat + 256 * pack l) / 256 = pack l := by omega
      rw [e1, e2]

theorem pack_head (l : List UInt8) (k : Nat) (h : k < l.length) : pack l / 256 ^ k % 256 = (l[k]).toNat := by
  rw [← pack_drop, List.drop_eq_getElem_cons h]
  have hx := (l[k]).toNat_lt
  simp only [pack]
  omega

/-- Abstract values. 'slc': a slice of a block; cap none: at least as far as the block is known, and maybe more. -/
inductive AV where
  | int (k : IntKind) (n : Int)
  | bool (b : Bool)
  | str (len n : Nat)
  | nilp
  | ptr (b off : Nat)
  | nils
  | slc (b off len : Nat) (cap : Option Nat)
  | nilf
  | fn (f : Nat) (first captured : List AV)
  | nili
  | ifc (t : Nat) (v : AV)
  | nilm
  | map (b : Nat)
  | agg (l : List AV)
  | tup (l : List AV)

/-- Where a block lies: its cell 0 is cell off of blk; its room reaches lim cells from there; sz cells an element. -/
structure BM where
  blk : Nat
  off : Nat
  lim : Nat
  sz : Nat

abbrev Beta := Nat → Option BM

def Beta.le (β β' : Beta) : Prop := ∀ b m, β b = some m → β' b = some m
theorem Beta.le_refl (β : Beta) : β.le β := fun _ _ h => h
theorem Beta.le_trans {β β' β'' : Beta} (h : β.le β') (h' : β'.le β'') : β.le β'' := fun b m e => h' b m (h b m e)

/-- The value that an abstract value stands for. -/
inductive VR (β : Beta) : AV → Value → Prop
  | int (k : IntKind) (n : Int) : VR β (.int k n) (.int k n)
  | bool (b : Bool) : VR β (.bool b) (.bool b)
  | str (s : ByteArray) (len n : Nat) (h1 : s.data.toList.length = len) (h2 : pack s.data.toList = n) : VR β (.str len n) (.string s)
  | nilp : VR β .nilp (.pointer none)
  | ptr (b off : Nat) (m : BM) (h : β b = some m) : VR β (.ptr b off) (.pointer (some ⟨m.blk, m.off + off, none⟩))
  | nils : VR β .nils (.slice none 0 0)
  | slc (b off len : Nat) (cap : Option Nat) (m : BM) (h : β b = some m) : VR β (.slc b off len cap) (.slice (some ⟨m.blk, m.off + off, none⟩) len (cap.getD ((m.lim - off) / m.sz)))
  | nilf : VR β .nilf .nilFunc
  | fn (f : Nat) (first captured : List AV) (x y : Array Value) (hx : x.size = first.length) (hy : y.size = captured.length)
      (h1 : ∀ i (h : i < first.length) (h' : i < x.size), VR β first[i] x[i]) (h2 : ∀ i (h : i < captured.length) (h' : i < y.size), VR β captured[i] y[i]) :
      VR β (.fn f first captured) (.func (.func f) x y)
  | nili : VR β .nili .nilIface
  | ifc (t : Nat) (v : AV) (u : Value) (h : VR β v u) : VR β (.ifc t v) (.iface t u)
  | nilm : VR β .nilm (.map none)
  | map (b : Nat) (m : BM) (h : β b = some m) : VR β (.map b) (.map (some m.blk))
  | agg (l : List AV) (x : Array Value) (hx : x.size = l.length) (h : ∀ i (h : i < l.length) (h' : i < x.size), VR β l[i] x[i]) : VR β (.agg l) (.agg x)
  | tup (l : List AV) (x : Array Value) (hx : x.size = l.length) (h : ∀ i (h : i < l.length) (h' : i < x.size), VR β l[i] x[i]) : VR β (.tup l) (.tuple x)

theorem VR.mono {β β' : Beta} (hb : β.le β') {v : AV} {u : Value} (h : VR β v u) : VR β' v u := by
  induction h with
  | int k n => exact .int k n
  | bool b => exact .bool b
  | str s len n h1 h2 => exact .str s len n h1 h2
  | nilp => exact .nilp
  | ptr b off m h => exact .ptr b off m (hb _ _ h)
  | nils => exact .nils
  | slc b off len cap m h => exact .slc b off len cap m (hb _ _ h)
  | nilf => exact .nilf
  | fn f first captured x y hx hy _ _ ih1 ih2 => exact .fn f first captured x y hx hy ih1 ih2
  | nili => exact .nili
  | ifc t v u _ ih => exact .ifc t v u ih
  | nilm => exact .nilm
  | map b m h => exact .map b m (hb _ _ h)
  | agg l x hx _ ih => exact .agg l x hx ih
  | tup l x hx _ ih => exact .tup l x hx ih

/-- Lists of values. -/
structure LR (β : Beta) (l : List AV) (x : Array Value) : Prop where
  size : x.size = l.length
  at_ : ∀ i (h : i < l.length) (h' : i < x.size), VR β l[i] x[i]

theorem LR.mono {β β' : Beta} (hb : β.le β') {l : List AV} {x : Array Value} (h : LR β l x) : LR β' l x :=
  ⟨h.size, fun i a b => (h.at_ i a b).mono hb⟩

theorem LR.nil (β : Beta) : LR β [] #[] := ⟨rfl, fun i h => by simp at h⟩

theorem LR.get {β : Beta} {l : List AV} {x : Array Value} (h : LR β l x) {i : Nat} {v : AV} (hv : l[i]? = some v) : ∃ u, x[i]? = some u ∧ VR β v u := by
  obtain ⟨hi, e⟩ := List.getElem?_eq_some_iff.1 hv
  have hs := h.size
  exact ⟨x[i], Array.getElem?_eq_getElem (by omega), e ▸ h.at_ i hi (by omega)⟩

theorem LR.push {β : Beta} {l : List AV} {x : Array Value} (h : LR β l x) {v : AV} {u : Value} (hv : VR β v u) : LR β (l ++ [v]) (x.push u) := by
  refine ⟨by simp [h.size], fun i h1 h2 => ?_⟩
  have hs := h.size
  by_cases hi : i < l.length
  · rw [List.getElem_append_left hi, Array.getElem_push_lt (by omega)]
    exact h.at_ i hi (by omega)
  · have e : i = l.length := by simp at h1; omega
    subst e
    simp [← hs, hv]

theorem LR.append {β : Beta} {l l' : List AV} {x x' : Array Value} (h : LR β l x) (h' : LR β l' x') : LR β (l ++ l') (x ++ x') := by
  have hs := h.size
  have hs' := h'.size
  refine ⟨by simp [hs, hs'], fun i h1 h2 => ?_⟩
  by_cases hi : i < l.length
  · rw [List.getElem_append_left hi, Array.getElem_append_left (by omega)]
    exact h.at_ i hi (by omega)
  · rw [List.getElem_append_right (by omega), Array.getElem_append_right (by omega)]
    simp only [hs]
    exact h'.at_ _ (by simp at h1; omega) (by simp at h1; omega)

end Go.Av
