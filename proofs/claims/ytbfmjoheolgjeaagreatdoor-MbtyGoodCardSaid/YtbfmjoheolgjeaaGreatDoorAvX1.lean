/- The evaluator in continuation style, for the kernel: operands, memory, operations; each is AvB's. Written by mkX1.py. -/
import Derived.Test.YtbfmjoheolgjeaaGreatDoorAvR
set_option linter.unusedVariables false
namespace Go.Av
abbrev Clo := Nat → List AV → St → OR
abbrev H := PT ABlk
abbrev KV := AV → Nat → H → Bool
abbrev KF := Fr → Nat → H → Bool
abbrev KX := Nat → KF
abbrev KE := List AV → KF
abbrev ClC := Nat → List AV → Nat → H → KV → Bool
abbrev G := List AV → Fr → (AV → Bool) → Bool
abbrev GA := List AV → Fr → (List AV → Bool) → Bool
abbrev XF := ClC → List AV → Fr → Nat → H → KV → Bool

def oV {α : Type} (o : Option α) (k : α → Bool) : Bool := match o with | some v => k v | none => false
def oRC (r : OR) (k : KV) : Bool := match r with | .ok v S => k v S.next S.heap | .no => false
def xRC (r : XR) (kn : KF) (kx : KX) (kr : KF) : Bool := match r with
  | .no => false
  | .ok .norm F S => kn F S.next S.heap
  | .ok (.exit j) F S => kx j F S.next S.heap
  | .ok .ret F S => kr F S.next S.heap

@[simp] theorem oV_some {α : Type} (v : α) (k : α → Bool) : oV (some v) k = k v := rfl
@[simp] theorem oV_none {α : Type} (k : α → Bool) : oV none k = false := rfl
@[simp] theorem oRC_ok (v : AV) (S : St) (k : KV) : oRC (.ok v S) k = k v S.next S.heap := rfl
@[simp] theorem oRC_no (k : KV) : oRC .no k = false := rfl

noncomputable def oB {α : Type} (o : Option α) (k : α → Bool) : Bool := Option.rec (motive := fun _ => Bool) false k o
theorem oB_eq {α : Type} (o : Option α) (k : α → Bool) : oB o k = oV o k := by cases o <;> rfl
noncomputable def bB (b : Bool) (t e : Bool) : Bool := Bool.rec (motive := fun _ => Bool) e t b
@[simp] theorem bB_true (t e : Bool) : bB true t e = t := rfl
@[simp] theorem bB_false (t e : Bool) : bB false t e = e := rfl

noncomputable def dInt (v : AV) (k : IntKind → Int → Bool) : Bool :=
  AV.rec (motive_1 := fun _ => Bool) (motive_2 := fun _ => Unit) k (fun _ => false) (fun _ _ => false) (false) (fun _ _ => false) (false) (fun _ _ _ _ => false) (false) (fun _ _ _ _ _ => false) (false) (fun _ _ _ => false) (false) (fun _ => false) (fun _ _ => false) (fun _ _ => false) () (fun _ _ _ _ => ()) v

noncomputable def dBool (v : AV) (k : Bool → Bool) : Bool :=
  AV.rec (motive_1 := fun _ => Bool) (motive_2 := fun _ => Unit) (fun _ _ => false) k (fun _ _ => false) (false) (fun _ _ => false) (false) (fun _ _ _ _ => false) (false) (fun _ _ _ _ _ => false) (false) (fun _ _ _ => false) (false) (fun _ => false) (fun _ _ => false) (fun _ _ => false) () (fun _ _ _ _ => ()) v

noncomputable def dStr (v : AV) (k : Nat → Nat → Bool) : Bool :=
  AV.rec (motive_1 := fun _ => Bool) (motive_2 := fun _ => Unit) (fun _ _ => false) (fun _ => false) k (false) (fun _ _ => false) (false) (fun _ _ _ _ => false) (false) (fun _ _ _ _ _ => false) (false) (fun _ _ _ => false) (false) (fun _ => false) (fun _ _ => false) (fun _ _ => false) () (fun _ _ _ _ => ()) v

noncomputable def dPtr (v : AV) (k : Nat → Nat → Bool) : Bool :=
  AV.rec (motive_1 := fun _ => Bool) (motive_2 := fun _ => Unit) (fun _ _ => false) (fun _ => false) (fun _ _ => false) (false) k (false) (fun _ _ _ _ => false) (false) (fun _ _ _ _ _ => false) (false) (fun _ _ _ => false) (false) (fun _ => false) (fun _ _ => false) (fun _ _ => false) () (fun _ _ _ _ => ()) v

noncomputable def dSlc (v : AV) (k : Nat → Nat → Nat → Option Nat → Bool) : Bool :=
  AV.rec (motive_1 := fun _ => Bool) (motive_2 := fun _ => Unit) (fun _ _ => false) (fun _ => false) (fun _ _ => false) (false) (fun _ _ => false) (false) k (false) (fun _ _ _ _ _ => false) (false) (fun _ _ _ => false) (false) (fun _ => false) (fun _ _ => false) (fun _ _ => false) () (fun _ _ _ _ => ()) v

noncomputable def dFn (v : AV) (k : Nat → List AV → List AV → Bool) : Bool :=
  AV.rec (motive_1 := fun _ => Bool) (motive_2 := fun _ => Unit) (fun _ _ => false) (fun _ => false) (fun _ _ => false) (false) (fun _ _ => false) (false) (fun _ _ _ _ => false) (false) (fun a0 a1 a2 _ _ => k a0 a1 a2) (false) (fun _ _ _ => false) (false) (fun _ => false) (fun _ _ => false) (fun _ _ => false) () (fun _ _ _ _ => ()) v

noncomputable def dAgg (v : AV) (k : List AV → Bool) : Bool :=
  AV.rec (motive_1 := fun _ => Bool) (motive_2 := fun _ => Unit) (fun _ _ => false) (fun _ => false) (fun _ _ => false) (false) (fun _ _ => false) (false) (fun _ _ _ _ => false) (false) (fun _ _ _ _ _ => false) (false) (fun _ _ _ => false) (false) (fun _ => false) (fun a0 _ => k a0) (fun _ _ => false) () (fun _ _ _ _ => ()) v

noncomputable def dTup (v : AV) (k : List AV → Bool) : Bool :=
  AV.rec (motive_1 := fun _ => Bool) (motive_2 := fun _ => Unit) (fun _ _ => false) (fun _ => false) (fun _ _ => false) (false) (fun _ _ => false) (false) (fun _ _ _ _ => false) (false) (fun _ _ _ _ _ => false) (false) (fun _ _ _ => false) (false) (fun _ => false) (fun _ _ => false) (fun a0 _ => k a0) () (fun _ _ _ _ => ()) v

noncomputable def dNS (v : AV) (y : Bool) (k : Nat → Nat → Nat → Option Nat → Bool) : Bool :=
  AV.rec (motive_1 := fun _ => Bool) (motive_2 := fun _ => Unit) (fun _ _ => false) (fun _ => false) (fun _ _ => false) (false) (fun _ _ => false) y k (false) (fun _ _ _ _ _ => false) (false) (fun _ _ _ => false) (false) (fun _ => false) (fun _ _ => false) (fun _ _ => false) () (fun _ _ _ _ => ()) v

noncomputable def dPF (v : AV) (k : Nat → Nat → Bool) (y : Nat → List AV → List AV → Bool) : Bool :=
  AV.rec (motive_1 := fun _ => Bool) (motive_2 := fun _ => Unit) (fun _ _ => false) (fun _ => false) (fun _ _ => false) (false) k (false) (fun _ _ _ _ => false) (false) (fun a0 a1 a2 _ _ => y a0 a1 a2) (false) (fun _ _ _ => false) (false) (fun _ => false) (fun _ _ => false) (fun _ _ => false) () (fun _ _ _ _ => ()) v

noncomputable def dCells (v : AV) (k : List AV → Bool) : Bool :=
  AV.rec (motive_1 := fun _ => Bool) (motive_2 := fun _ => Unit) (fun _ _ => k [v]) (fun _ => k [v]) (fun _ _ => k [v]) (k [v]) (fun _ _ => k [v]) (k [v]) (fun _ _ _ _ => k [v]) (k [v]) (fun _ _ _ _ _ => k [v]) (k [v]) (fun _ _ _ => k [v]) (k [v]) (fun _ => k [v]) (fun a0 _ => k a0) (fun _ _ => k [v]) () (fun _ _ _ _ => ()) v

noncomputable def dOne (v : AV) (z : Bool) : Bool :=
  AV.rec (motive_1 := fun _ => Bool) (motive_2 := fun _ => Unit) (fun _ _ => z) (fun _ => z) (fun _ _ => z) (z) (fun _ _ => z) (z) (fun _ _ _ _ => z) (z) (fun _ _ _ _ _ => z) (z) (fun _ _ _ => z) (z) (fun _ => z) (fun _ _ => false) (fun _ _ => false) () (fun _ _ _ _ => ()) v

noncomputable def dBoolD (v : AV) (k : Bool → Bool) (z : Bool) : Bool :=
  AV.rec (motive_1 := fun _ => Bool) (motive_2 := fun _ => Unit) (fun _ _ => z) k (fun _ _ => z) (z) (fun _ _ => z) (z) (fun _ _ _ _ => z) (z) (fun _ _ _ _ _ => z) (z) (fun _ _ _ => z) (z) (fun _ => z) (fun _ _ => z) (fun _ _ => z) () (fun _ _ _ _ => ()) v

noncomputable def forceN (e : Nat) (k : Nat → Bool) : Bool := Nat.rec (motive := fun _ => Bool) (k 0) (fun m _ => k m) (Nat.succ e)
theorem forceN_eq (e : Nat) (k : Nat → Bool) : forceN e k = k e := rfl
noncomputable def fi1 (k : Int → Bool) (m : Nat) : Bool := k (.ofNat m)
noncomputable def fi2 (k : Int → Bool) (m : Nat) : Bool := k (.negSucc m)
noncomputable def forceI (e : Int) (k : Int → Bool) : Bool := Int.rec (motive := fun _ => Bool) (fun m => forceN m (fi1 k)) (fun m => forceN m (fi2 k)) e
theorem forceI_eq (e : Int) (k : Int → Bool) : forceI e k = k e := by cases e <;> rfl
noncomputable def fv1 (K : AV → Bool) (k : IntKind) (n : Int) : Bool := K (.int k n)
noncomputable def fv3 (K : AV → Bool) (l n : Nat) : Bool := K (.str l n)
noncomputable def fv2 (K : AV → Bool) (n l : Nat) : Bool := forceN n (fv3 K l)
noncomputable def fv7 (K : AV → Bool) (b o l c : Nat) : Bool := K (.slc b o l (some c))
noncomputable def fv5 (K : AV → Bool) (b : Nat) (c : Option Nat) (o l : Nat) : Bool := Option.rec (motive := fun _ => Bool) (K (.slc b o l none)) (fun c => forceN c (fv7 K b o l)) c
noncomputable def fv4 (K : AV → Bool) (b l : Nat) (c : Option Nat) (o : Nat) : Bool := forceN l (fv5 K b c o)
noncomputable def forceV (v : AV) (K : AV → Bool) : Bool :=
  AV.rec (motive_1 := fun _ => Bool) (motive_2 := fun _ => Unit) (fun k n => forceI n (fv1 K k)) (fun b => Bool.rec (motive := fun _ => Bool) (K (.bool false)) (K (.bool true)) b) (fun l n => forceN l (fv2 K n)) (K v) (fun _ _ => K v) (K v) (fun b o l c => forceN o (fv4 K b l c)) (K v) (fun _ _ _ _ _ => K v) (K v) (fun _ _ _ => K v) (K v) (fun _ => K v) (fun _ _ => K v) (fun _ _ => K v) () (fun _ _ _ _ => ()) v
theorem forceV_eq (v : AV) (K : AV → Bool) : forceV v K = K v := by
  cases v <;> try rfl
  · show forceI _ _ = _; rw [forceI_eq]; rfl
  · rename_i b; cases b <;> rfl
  · rename_i b o l c; cases c <;> rfl


theorem beqKN (k k' : IntKind) : Nat.beq k.ctorIdx k'.ctorIdx = kEq k k' := rfl
noncomputable def kNx (k : IntKind) : Nat := IntKind.rec (motive := fun _ => Nat) 0 1 2 3 4 5 6 7 k
noncomputable def kEqX (k k' : IntKind) : Bool := Nat.beq (kNx k) (kNx k')
theorem kEqX_eq (k k' : IntKind) : kEqX k k' = kEq k k' := by cases k <;> cases k' <;> rfl
noncomputable def topX (k : IntKind) : Nat := IntKind.rec (motive := fun _ => Nat) 127 32767 2147483647 9223372036854775807 255 65535 4294967295 18446744073709551615 k
theorem topX_eq (k : IntKind) : topX k = topOf k := by cases k <;> rfl

/-! Variables. -/
abbrev PF := Fr → (AV → Bool) → Bool
inductive PB where | mk (p : PF)
def PB.run : PB → PF | .mk p => p
noncomputable def pv_0 (F : Fr) (k : AV → Bool) : Bool := PT.rec (motive := fun _ => Bool) false (fun v _ _ _ _ => Option.rec (motive := fun _ => Bool) false k v) F
noncomputable def pv_L (p : PF) (F : Fr) (k : AV → Bool) : Bool := PT.rec (motive := fun _ => Bool) false (fun _ l _ _ _ => p l k) F
noncomputable def pv_R (p : PF) (F : Fr) (k : AV → Bool) : Bool := PT.rec (motive := fun _ => Bool) false (fun _ _ r _ _ => p r k) F
noncomputable def mkPL (b : PB) : PB := PB.rec (motive := fun _ => PB) (fun p => .mk (pv_L p)) b
noncomputable def mkPR (b : PB) : PB := PB.rec (motive := fun _ => PB) (fun p => .mk (pv_R p)) b
noncomputable def pathV (fuel : Nat) : Nat → PB :=
  Nat.rec (motive := fun _ => Nat → PB) (fun _ => .mk fun _ _ => false)
    (fun _ ih t => Nat.rec (motive := fun _ => PB) (.mk pv_0) (fun m _ => Bool.rec (motive := fun _ => PB) (mkPR (ih (Nat.div m 2))) (mkPL (ih (Nat.div m 2))) (Nat.beq (Nat.land m 1) 0)) t) fuel

theorem pathV_ok : ∀ (fuel t : Nat), t < fuel → ∀ (F : Fr) (k : AV → Bool), (pathV fuel t).run F k = oV (F.get t) k := by
  intro fuel
  induction fuel with
  | zero => intro t h; omega
  | succ fuel ih =>
    intro t ht F k
    cases t with
    | zero =>
      show pv_0 F k = _
      cases F with
      | lf => rfl
      | nd v l r => show Option.rec (motive := fun _ => Bool) false k v = oV v k; cases v <;> rfl
    | succ m =>
      show (Bool.rec (motive := fun _ => PB) (mkPR (pathV fuel (Nat.div m 2))) (mkPL (pathV fuel (Nat.div m 2))) (Nat.beq (Nat.land m 1) 0)).run F k = _
      have hl := ih (m / 2) (by omega)
      have hr : Nat.div m 2 = m / 2 := rfl
      rw [PT.beq_even, hr]
      cases F with
      | lf =>
        by_cases e : m % 2 = 0
        · rw [show decide (m % 2 = 0) = true by simpa using e]
          show (mkPL (pathV fuel (m / 2))).run PT.lf k = _
          cases pathV fuel (m / 2); rfl
        · rw [show decide (m % 2 = 0) = false by simpa using e]
          show (mkPR (pathV fuel (m / 2))).run PT.lf k = _
          cases pathV fuel (m / 2); rfl
      | nd v l r =>
        rw [PT.get_succ]
        by_cases e : m % 2 = 0
        · rw [show decide (m % 2 = 0) = true by simpa using e, if_pos e, ← hl]
          show (mkPL (pathV fuel (m / 2))).run (PT.nd v l r) k = _
          cases pathV fuel (m / 2); rfl
        · rw [show decide (m % 2 = 0) = false by simpa using e, if_neg e, ← hl]
          show (mkPR (pathV fuel (m / 2))).run (PT.nd v l r) k = _
          cases pathV fuel (m / 2); rfl

abbrev SF := AV → Fr → (Fr → Bool) → Bool
inductive SB where | mk (s : SF)
def SB.run : SB → SF | .mk s => s
noncomputable def sv_0 (v : AV) (F : Fr) (k : Fr → Bool) : Bool := PT.rec (motive := fun _ => Bool) (k (.nd (some v) .lf .lf)) (fun _ l r _ _ => k (.nd (some v) l r)) F
noncomputable def svL1 (w : Option AV) (r : Fr) (k : Fr → Bool) (x : Fr) : Bool := k (.nd w x r)
noncomputable def svR1 (w : Option AV) (l : Fr) (k : Fr → Bool) (x : Fr) : Bool := k (.nd w l x)
noncomputable def sv_L (s : SF) (v : AV) (F : Fr) (k : Fr → Bool) : Bool := PT.rec (motive := fun _ => Bool) (s v .lf (svL1 none .lf k)) (fun w l r _ _ => s v l (svL1 w r k)) F
noncomputable def sv_R (s : SF) (v : AV) (F : Fr) (k : Fr → Bool) : Bool := PT.rec (motive := fun _ => Bool) (s v .lf (svR1 none .lf k)) (fun w l r _ _ => s v r (svR1 w l k)) F
noncomputable def mkSL (b : SB) : SB := SB.rec (motive := fun _ => SB) (fun p => .mk (sv_L p)) b
noncomputable def mkSR (b : SB) : SB := SB.rec (motive := fun _ => SB) (fun p => .mk (sv_R p)) b
noncomputable def pathS (fuel : Nat) : Nat → SB :=
  Nat.rec (motive := fun _ => Nat → SB) (fun _ => .mk fun _ _ _ => false)
    (fun _ ih t => Nat.rec (motive := fun _ => SB) (.mk sv_0) (fun m _ => Bool.rec (motive := fun _ => SB) (mkSR (ih (Nat.div m 2))) (mkSL (ih (Nat.div m 2))) (Nat.beq (Nat.land m 1) 0)) t) fuel

theorem PT.sing_fuel {α : Type} (v : Option α) : ∀ (f f' n : Nat), n < f → n < f' → PT.sing v f n = PT.sing v f' n := by
  intro f
  induction f with
  | zero => intro f' n h; omega
  | succ f ih =>
    intro f' n h h'
    cases f' with
    | zero => omega
    | succ f' =>
      cases n with
      | zero => rfl
      | succ m =>
        rw [PT.sing_succ, PT.sing_succ, ih f' (m / 2) (by omega) (by omega)]

theorem PT.set_lf_succ {α : Type} (v : Option α) (m : Nat) : PT.set v .lf (m + 1) = if m % 2 = 0 then .nd none (PT.set v .lf (m / 2)) .lf else .nd none .lf (PT.set v .lf (m / 2)) := by
  rw [PT.set_lf, PT.set_lf, PT.sing_succ, PT.sing_fuel v (m + 1) (m / 2 + 1) (m / 2) (by omega) (by omega)]

theorem pathS_ok : ∀ (fuel t : Nat), t < fuel → ∀ (v : AV) (F : Fr) (k : Fr → Bool), (pathS fuel t).run v F k = k (PT.set (some v) F t) := by
  intro fuel
  induction fuel with
  | zero => intro t h; omega
  | succ fuel ih =>
    intro t ht v F k
    cases t with
    | zero =>
      show sv_0 v F k = _
      cases F <;> rfl
    | succ m =>
      show (Bool.rec (motive := fun _ => SB) (mkSR (pathS fuel (Nat.div m 2))) (mkSL (pathS fuel (Nat.div m 2))) (Nat.beq (Nat.land m 1) 0)).run v F k = _
      have hl := ih (m / 2) (by omega) v
      have hr : Nat.div m 2 = m / 2 := rfl
      rw [PT.beq_even, hr]
      cases F with
      | lf =>
        rw [PT.set_lf_succ]
        by_cases e : m % 2 = 0
        · rw [show decide (m % 2 = 0) = true by simpa using e, if_pos e]
          have := hl .lf (svL1 none .lf k)
          show (mkSL (pathS fuel (m / 2))).run v PT.lf k = _
          revert this
          cases pathS fuel (m / 2)
          exact fun this => this
        · rw [show decide (m % 2 = 0) = false by simpa using e, if_neg e]
          have := hl .lf (svR1 none .lf k)
          show (mkSR (pathS fuel (m / 2))).run v PT.lf k = _
          revert this
          cases pathS fuel (m / 2)
          exact fun this => this
      | nd w l r =>
        rw [PT.set_succ]
        by_cases e : m % 2 = 0
        · rw [show decide (m % 2 = 0) = true by simpa using e, if_pos e]
          have := hl l (svL1 w r k)
          show (mkSL (pathS fuel (m / 2))).run v (PT.nd w l r) k = _
          revert this
          cases pathS fuel (m / 2)
          exact fun this => this
        · rw [show decide (m % 2 = 0) = false by simpa using e, if_neg e]
          have := hl r (svR1 w l k)
          show (mkSR (pathS fuel (m / 2))).run v (PT.nd w l r) k = _
          revert this
          cases pathS fuel (m / 2)
          exact fun this => this

/-! Tries by numbers that are known in the run alone. -/
noncomputable def gC1 {α : Type} (gl gr : Nat → Bool) (m : Nat) : Bool := Bool.rec (motive := fun _ => Bool) (gr (Nat.div m 2)) (gl (Nat.div m 2)) (Nat.beq (Nat.land m 1) 0)
noncomputable def getC {α : Type} (t : PT α) (i : Nat) (k : α → Bool) : Bool :=
  PT.rec (motive := fun _ => Nat → Bool) (fun _ => false)
    (fun v _ _ gl gr i => Nat.rec (motive := fun _ => Bool) (Option.rec (motive := fun _ => Bool) false k v) (fun m _ => Bool.rec (motive := fun _ => Bool) (gr (Nat.div m 2)) (gl (Nat.div m 2)) (Nat.beq (Nat.land m 1) 0)) i) t i
theorem getC_eq {α : Type} (k : α → Bool) : ∀ (t : PT α) (i : Nat), getC t i k = oV (t.get i) k := by
  intro t
  induction t with
  | lf => intro i; rfl
  | nd v l r ihl ihr =>
    intro i
    cases i with
    | zero => show Option.rec (motive := fun _ => Bool) false k v = oV v k; cases v <;> rfl
    | succ m =>
      show Bool.rec (motive := fun _ => Bool) (getC r (Nat.div m 2) k) (getC l (Nat.div m 2) k) (Nat.beq (Nat.land m 1) 0) = _
      rw [PT.beq_even, PT.get_succ, ihl, ihr]
      by_cases e : m % 2 = 0 <;> simp [e] <;> rfl

noncomputable def sC1 {α : Type} (w : Option α) (r : PT α) (k : PT α → Bool) (x : PT α) : Bool := k (.nd w x r)
noncomputable def sC2 {α : Type} (w : Option α) (l : PT α) (k : PT α → Bool) (x : PT α) : Bool := k (.nd w l x)
noncomputable def sC0 {α : Type} (k : PT α → Bool) (x : PT α) : Bool := PT.rec (motive := fun _ => Bool) (k .lf) (fun v l r _ _ => k (.nd v l r)) x
theorem sC0_eq {α : Type} (k : PT α → Bool) (x : PT α) : sC0 k x = k x := by cases x <;> rfl
noncomputable def setC {α : Type} (v : Option α) (t : PT α) (i : Nat) (k : PT α → Bool) : Bool :=
  PT.rec (motive := fun _ => Nat → (PT α → Bool) → Bool) (fun i k => sC0 k (PT.sing v (Nat.succ i) i))
    (fun w l r sl sr i k => Nat.rec (motive := fun _ => Bool) (k (.nd v l r)) (fun m _ => Bool.rec (motive := fun _ => Bool) (sr (Nat.div m 2) (sC2 w l k)) (sl (Nat.div m 2) (sC1 w r k)) (Nat.beq (Nat.land m 1) 0)) i) t i k
theorem setC_eq {α : Type} (v : Option α) : ∀ (t : PT α) (i : Nat) (k : PT α → Bool), setC v t i k = k (PT.set v t i) := by
  intro t
  induction t with
  | lf => intro i k; show sC0 k (PT.sing v (Nat.succ i) i) = _; rw [sC0_eq]; rfl
  | nd w l r ihl ihr =>
    intro i k
    cases i with
    | zero => rfl
    | succ m =>
      show Bool.rec (motive := fun _ => Bool) (setC v r (Nat.div m 2) (sC2 w l k)) (setC v l (Nat.div m 2) (sC1 w r k)) (Nat.beq (Nat.land m 1) 0) = _
      rw [PT.beq_even, PT.set_succ, ihl, ihr]
      by_cases e : m % 2 = 0 <;> simp [e] <;> rfl

noncomputable def lC1 (k : List AV → Bool) (v : AV) (l : List AV) : Bool := k (v :: l)
noncomputable def lC2 (ih : Nat → (List AV → Bool) → Bool) (i : Nat) (k : List AV → Bool) (v : AV) : Bool := ih (Nat.succ i) (lC1 k v)
noncomputable def loadC (c : PT AV) (n : Nat) : Nat → (List AV → Bool) → Bool :=
  Nat.rec (motive := fun _ => Nat → (List AV → Bool) → Bool) (fun _ k => k []) (fun _ ih i k => getC c i (lC2 ih i k)) n
theorem loadC_eq (c : PT AV) : ∀ (n i : Nat) (k : List AV → Bool), loadC c n i k = oV (loadN c n i) k := by
  intro n
  induction n with
  | zero => intro i k; rfl
  | succ n ih =>
    intro i k
    show getC c i (lC2 (loadC c n) i k) = oV (match c.get i, loadN c n (i + 1) with | some v, some l => some (v :: l) | _, _ => none) k
    rw [getC_eq]
    cases c.get i with
    | none => rfl
    | some v =>
      show loadC c n (i + 1) (lC1 k v) = _
      rw [ih]
      cases loadN c n (i + 1) <;> rfl

noncomputable def stC1 (ih : PT AV → Nat → (PT AV → Bool) → Bool) (i : Nat) (k : PT AV → Bool) (c : PT AV) : Bool := ih c (Nat.succ i) k
noncomputable def storeC (l : List AV) : PT AV → Nat → (PT AV → Bool) → Bool :=
  List.rec (motive := fun _ => PT AV → Nat → (PT AV → Bool) → Bool) (fun c _ k => k c) (fun v _ ih c i k => setC (some v) c i (stC1 ih i k)) l
theorem storeC_eq : ∀ (l : List AV) (c : PT AV) (i : Nat) (k : PT AV → Bool), storeC l c i k = k (storeN l c i) := by
  intro l
  induction l with
  | nil => intro c i k; rfl
  | cons v l ih =>
    intro c i k
    show setC (some v) c i (stC1 (storeC l) i k) = k (PT.force (fun c' => storeN l c' (i + 1)) (PT.set (some v) c i))
    rw [setC_eq, PT.force_eq]
    exact ih _ _ _

noncomputable def nthC (l : List AV) (k : AV → Bool) : Nat → Bool :=
  List.rec (motive := fun _ => Nat → Bool) (fun _ => false) (fun v _ ih i => Nat.rec (motive := fun _ => Bool) (k v) (fun m _ => ih m) i) l
theorem nthC_eq (k : AV → Bool) : ∀ (l : List AV) (i : Nat), nthC l k i = oV (nthO l i) k := by
  intro l
  induction l with
  | nil => intro i; rfl
  | cons v l ih => intro i; cases i with
    | zero => rfl
    | succ i => exact ih i

noncomputable def fL1 (k : List AV → Bool) (v : AV) (l : List AV) : Bool := k (v :: l)
noncomputable def forceL (l : List AV) : (List AV → Bool) → Bool :=
  List.rec (motive := fun _ => (List AV → Bool) → Bool) (fun k => k []) (fun v _ ih k => ih (fL1 k v)) l
theorem forceL_eq : ∀ (l : List AV) (k : List AV → Bool), forceL l k = k l := by
  intro l
  induction l with
  | nil => intro k; rfl
  | cons v l ih => intro k; show forceL l (fL1 k v) = _; rw [ih]; rfl

noncomputable def appC (a b : List AV) : (List AV → Bool) → Bool :=
  List.rec (motive := fun _ => (List AV → Bool) → Bool) (fun k => k b) (fun v _ ih k => ih (fL1 k v)) a
theorem appC_eq (b : List AV) : ∀ (a : List AV) (k : List AV → Bool), appC a b k = k (a ++ b) := by
  intro a
  induction a with
  | nil => intro k; rfl
  | cons v l ih => intro k; show appC l b (fL1 k v) = _; rw [ih]; rfl

noncomputable def lenX (l : List AV) : Nat := List.rec (motive := fun _ => Nat) 0 (fun _ _ ih => Nat.succ ih) l
theorem lenX_eq (l : List AV) : lenX l = l.length := by
  induction l with
  | nil => rfl
  | cons v l ih => show Nat.succ (lenX l) = _; rw [ih]; rfl

noncomputable def allOneC (l : List AV) (z : Bool) : Bool := List.rec (motive := fun _ => Bool) z (fun v _ ih => dOne v ih) l
theorem dOne_eq (v : AV) (z : Bool) : dOne v z = (match oneCell v with | true => z | false => false) := by cases v <;> rfl
theorem allOneC_eq (l : List AV) (z : Bool) : allOneC l z = (match allOne l with | true => z | false => false) := by
  induction l with
  | nil => rfl
  | cons v l ih =>
    show dOne v (allOneC l z) = (match (match oneCell v with | true => allOne l | false => false) with | true => z | false => false)
    rw [dOne_eq, ih]
    cases oneCell v <;> rfl

/-! Operands. -/
inductive GB where | mk (g : G)
def GB.run : GB → G | .mk g => g
noncomputable def g_0 (env : List AV) (F : Fr) (k : AV → Bool) : Bool := List.rec (motive := fun _ => Bool) false (fun v _ _ => k v) env
noncomputable def g_S (g : G) (env : List AV) (F : Fr) (k : AV → Bool) : Bool := List.rec (motive := fun _ => Bool) false (fun _ t _ => g t F k) env
noncomputable def g_c (v : AV) (env : List AV) (F : Fr) (k : AV → Bool) : Bool := k v
noncomputable def g_v (p : PF) (env : List AV) (F : Fr) (k : AV → Bool) : Bool := p F k
noncomputable def gS (b : GB) : GB := GB.rec (motive := fun _ => GB) (fun g => .mk (g_S g)) b
noncomputable def gLoc (i : Nat) : GB := Nat.rec (motive := fun _ => GB) (.mk g_0) (fun _ ih => gS ih) i
noncomputable def gVar (b : PB) : GB := PB.rec (motive := fun _ => GB) (fun p => .mk (g_v p)) b
noncomputable def compO (x : Opd) : GB := Opd.rec (motive := fun _ => GB) (fun i => gLoc i) (fun t => gVar (pathV (Nat.succ t) t)) (fun v => .mk (g_c v)) x

def GOk (g : G) (x : Opd) : Prop := ∀ env F k, g env F k = oV (ov env F x) k
theorem gLoc_ok : ∀ (i : Nat), GOk (gLoc i).run (.loc i) := by
  intro i
  induction i with
  | zero => intro env F k; cases env <;> rfl
  | succ i ih =>
    intro env F k
    show (gS (gLoc i)).run env F k = _
    cases env with
    | nil => cases gLoc i; rfl
    | cons v t =>
      have := ih t F k
      revert this
      cases gLoc i
      exact fun this => this
theorem compO_ok (x : Opd) : GOk (compO x).run x := by
  cases x with
  | loc i => exact gLoc_ok i
  | cst v => intro env F k; rfl
  | var t =>
    intro env F k
    have := pathV_ok (t + 1) t (Nat.lt_succ_self t) F k
    show (gVar (pathV (t + 1) t)).run env F k = oV (F.get t) k
    rw [← this]
    cases pathV (t + 1) t; rfl

inductive GAB where | mk (g : GA)
def GAB.run : GAB → GA | .mk g => g
noncomputable def a_nil (env : List AV) (F : Fr) (k : List AV → Bool) : Bool := k []
noncomputable def ac1 (r : GA) (env : List AV) (F : Fr) (k : List AV → Bool) (v : AV) : Bool := r env F (fL1 k v)
noncomputable def a_cons (g : G) (r : GA) (env : List AV) (F : Fr) (k : List AV → Bool) : Bool := g env F (ac1 r env F k)
noncomputable def aCons (g : GB) (r : GAB) : GAB := GB.rec (motive := fun _ => GAB) (fun g => GAB.rec (motive := fun _ => GAB) (fun r => .mk (a_cons g r)) r) g
noncomputable def compA (l : List Opd) : GAB := List.rec (motive := fun _ => GAB) (.mk a_nil) (fun o _ ih => aCons (compO o) ih) l
theorem compA_ok : ∀ (l : List Opd) (env : List AV) (F : Fr) (k : List AV → Bool), (compA l).run env F k = oV (ovs env F l) k := by
  intro l
  induction l with
  | nil => intro env F k; rfl
  | cons o l ih =>
    intro env F k
    have h1 := compO_ok o env F
    have h2 := ih env F
    show (aCons (compO o) (compA l)).run env F k = oV (match ov env F o, ovs env F l with | some v, some r => some (v :: r) | _, _ => none) k
    revert h1 h2
    cases compO o with | mk g =>
    cases compA l with | mk r =>
    intro h1 h2
    show g env F (ac1 r env F k) = _
    rw [show g env F (ac1 r env F k) = oV (ov env F o) (ac1 r env F k) from h1 _]
    cases ov env F o with
    | none => rfl
    | some v =>
      show r env F (fL1 k v) = _
      rw [show r env F (fL1 k v) = oV (ovs env F l) (fL1 k v) from h2 _]
      cases ovs env F l <;> rfl
end Go.Av
