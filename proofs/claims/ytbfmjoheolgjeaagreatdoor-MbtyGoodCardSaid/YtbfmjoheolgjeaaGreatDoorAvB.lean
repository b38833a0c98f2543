/- The evaluator: its code, and how it runs. -/
import Derived.Test.YtbfmjoheolgjeaaGreatDoorAvA
namespace Go.Av

inductive Opd where
  | loc (i : Nat)
  | var (t : Nat)
  | cst (v : AV)

inductive AX where
  | mov (x : Opd)
  | pick (c a b : Opd)
  | bin (op : BinOp) (x y : Opd)
  | sbin (op : BinOp) (x y : Opd)
  | eqv (tag : Nat) (neg : Bool) (x y : Opd)
  | not (x : Opd)
  | neg (x : Opd)
  | conv (k : IntKind) (x : Opd)
  | s2s (x : Opd)
  | b2s (x : Opd)
  | alloc (z : List AV)
  | box (n : Nat) (x : Opd)
  | build (z : List AV) (ps : List (Nat × Nat × Opd))
  | bslice (esz : Nat) (len : Nat) (z : List AV) (ps : List (Nat × Nat × Opd))
  | load (n : Option Nat) (x : Opd)
  | store (n : Nat) (a x : Opd)
  | nilc (x : Opd)
  | faddr (off : Nat) (x : Opd)
  | fld (off : Nat) (n : Option Nat) (x : Opd)
  | iaddr (esz : Nat) (x i : Opd)
  | idxS (x i : Opd)
  | slcS (x : Opd) (lo hi : Option Opd)
  | slcL (esz : Nat) (x : Opd) (lo hi mx : Option Opd)
  | mkS (esz : Nat) (z : List AV) (len cap : Opd)
  | mkI (t : Nat) (x : Opd)
  | mkF (f : Nat) (first captured : List Opd)
  | mkM
  | look (ok : Bool) (z : AV) (m k : Opd)
  | upd (m k v : Opd)
  | ext (i : Nat) (x : Opd)
  | lenS (x : Opd)
  | lenL (x : Opd)
  | app (esz : Nat) (s x : Opd)
  | appS (s x : Opd)
  | appZ (esz : Nat) (z : List AV) (s n : Opd)
  | cpy (esz : Nat) (d s : Opd)
  | max (x y : Opd)
  | min (x y : Opd)
  | call (f : Nat) (args : List Opd)
  | callv (x : Opd) (args : List Opd)
  | bad
  | eqs (neg : Bool) (fs : List (Nat × Nat)) (x y : Opd)
  | clr (esz : Nat) (z : List AV) (x : Opd)
  | capL (x : Opd)
  | iaddrA (len esz : Nat) (x i : Opd)
  | slcA (n esz : Nat) (x : Opd) (lo hi mx : Option Opd)
  | bnil (esz : Nat)

/-- Where a result goes: onto the region's values; into a variable; nowhere. -/
inductive Dst where
  | push
  | var (t : Nat)
  | drop

structure AOp where
  dst : Dst
  guard : Option (Opd × Bool)
  x : AX
  bef : List Nat := []
  chk : List Nat := []
  flt : Bool := false

inductive ACode where
  | skip
  | reg (ops : List AOp)
  | drw (perm : List Nat) (ops : List AOp)
  | seq (a b : ACode)
  | cond (c : Opd) (a b : ACode)
  | block (id : Nat) (c : ACode)
  | loop (c : ACode)
  | exit (id : Nat)
  | ret

inductive ARes where
  | tmp (t : Nat)
  | cell (t : Nat) (n : Option Nat)

structure AFn where
  params : Nat
  ntmps : Nat
  vars : List Nat
  results : List ARes
  body : ACode

inductive ABlk where
  | cells (esz size : Nat) (c : PT AV)
  | map (es : List (AV × AV))

structure St where
  next : Nat
  heap : PT ABlk

abbrev Fr := PT AV

/-- What an operation gives. -/
inductive OR where
  | no
  | ok (v : AV) (S : St)

inductive AE where
  | norm
  | exit (id : Nat)
  | ret

inductive XR where
  | no
  | ok (e : AE) (F : Fr) (S : St)

noncomputable def nthO (l : List AV) : Nat → Option AV :=
  List.rec (motive := fun _ => Nat → Option AV) (fun _ => none)
    (fun v _ ih n => Nat.rec (motive := fun _ => Option AV) (some v) (fun m _ => ih m) n) l

theorem nthO_eq (l : List AV) (i : Nat) : nthO l i = l[i]? := by
  induction l generalizing i with
  | nil => rfl
  | cons v l ih => cases i with
    | zero => rfl
    | succ i => exact ih i

noncomputable def ov (env : List AV) (F : Fr) : Opd → Option AV
  | .loc i => nthO env i
  | .var t => F.get t
  | .cst v => some v

noncomputable def ovs (env : List AV) (F : Fr) (l : List Opd) : Option (List AV) :=
  List.rec (motive := fun _ => Option (List AV)) (some [])
    (fun o _ ih => match ov env F o, ih with | some v, some r => some (v :: r) | _, _ => none) l

/-- a < b, of whole numbers. -/
noncomputable def ltI : Int → Int → Bool
  | .ofNat a, .ofNat b => Nat.ble (Nat.succ a) b
  | .ofNat _, .negSucc _ => false
  | .negSucc _, .ofNat _ => true
  | .negSucc a, .negSucc b => Nat.ble (Nat.succ b) a

noncomputable def eqI : Int → Int → Bool
  | .ofNat a, .ofNat b => Nat.beq a b
  | .negSucc a, .negSucc b => Nat.beq a b
  | _, _ => false

theorem ltI_eq (a b : Int) : ltI a b = decide (a < b) := by
  cases a with
  | ofNat a => cases b with
    | ofNat b =>
      show Nat.ble (Nat.succ a) b = _
      rw [Bool.eq_iff_iff, Nat.ble_eq, decide_eq_true_iff]
      show a + 1 ≤ b ↔ (a : Int) < (b : Int)
      omega
    | negSucc b =>
      show false = _
      rw [eq_comm, decide_eq_false_iff_not]
      show ¬ (a : Int) < Int.negSucc b
      omega
  | negSucc a => cases b with
    | ofNat b =>
      show true = _
      rw [eq_comm, decide_eq_true_iff]
      show Int.negSucc a < (b : Int)
      omega
    | negSucc b =>
      show Nat.ble (Nat.succ b) a = _
      rw [Bool.eq_iff_iff, Nat.ble_eq, decide_eq_true_iff]
      omega

theorem eqI_eq (a b : Int) : eqI a b = decide (a = b) := by
  cases a with
  | ofNat a => cases b with
    | ofNat b =>
      show Nat.beq a b = _
      rw [Bool.eq_iff_iff, Nat.beq_eq, decide_eq_true_iff]
      show a = b ↔ (a : Int) = (b : Int)
      omega
    | negSucc b =>
      show false = _
      rw [eq_comm, decide_eq_false_iff_not]
      show ¬ (a : Int) = Int.negSucc b
      omega
  | negSucc a => cases b with
    | ofNat b =>
      show false = _
      rw [eq_comm, decide_eq_false_iff_not]
      show ¬ Int.negSucc a = (b : Int)
      omega
    | negSucc b =>
      show Nat.beq a b = _
      rw [Bool.eq_iff_iff, Nat.beq_eq, decide_eq_true_iff]
      omega

noncomputable def topOf : IntKind → Nat
  | .i8 => 127 | .i16 => 32767 | .i32 => 2147483647 | .i64 => 9223372036854775807
  | .u8 => 255 | .u16 => 65535 | .u32 => 4294967295 | .u64 => 18446744073709551615

noncomputable def fits (k : IntKind) : Int → Bool
  | .ofNat m => Nat.ble m (topOf k)
  | .negSucc m => match k with
    | .i8 => Nat.ble m 127 | .i16 => Nat.ble m 32767 | .i32 => Nat.ble m 2147483647 | .i64 => Nat.ble m 9223372036854775807
    | _ => false

noncomputable def wrapF (k : IntKind) (n : Int) : Int := match fits k n with
  | true => n
  | false => k.wrap n

theorem wrapF_eq (k : IntKind) (n : Int) : wrapF k n = k.wrap n := by
  unfold wrapF
  split
  · rename_i h
    cases k
    case i8 => exact (IntWalk.i8_in n (by cases n with | ofNat m => (have h' : m ≤ 127 := Nat.le_of_ble_eq_true h); (show -128 ≤ (m : Int) ∧ (m : Int) ≤ 127); omega | negSucc m => (have h' : m ≤ 127 := Nat.le_of_ble_eq_true h); omega)).symm
    case i16 => exact (IntWalk.i16_in n (by cases n with | ofNat m => (have h' : m ≤ 32767 := Nat.le_of_ble_eq_true h); (show -32768 ≤ (m : Int) ∧ (m : Int) ≤ 32767); omega | negSucc m => (have h' : m ≤ 32767 := Nat.le_of_ble_eq_true h); omega)).symm
    case i32 => exact (IntWalk.i32_in n (by cases n with | ofNat m => (have h' : m ≤ 2147483647 := Nat.le_of_ble_eq_true h); (show -2147483648 ≤ (m : Int) ∧ (m : Int) ≤ 2147483647); omega | negSucc m => (have h' : m ≤ 2147483647 := Nat.le_of_ble_eq_true h); omega)).symm
    case i64 => exact (IntWalk.i64_in n (by cases n with | ofNat m => (have h' : m ≤ 9223372036854775807 := Nat.le_of_ble_eq_true h); (show -9223372036854775808 ≤ (m : Int) ∧ (m : Int) ≤ 9223372036854775807); omega | negSucc m => (have h' : m ≤ 9223372036854775807 := Nat.le_of_ble_eq_true h); omega)).symm
    case u8 => exact (IntWalk.u8_in n (by cases n with | ofNat m => (have h' : m ≤ 255 := Nat.le_of_ble_eq_true h); (show 0 ≤ (m : Int) ∧ (m : Int) ≤ 255); omega | negSucc m => exact absurd h (by simp [fits]))).symm
    case u16 => exact (IntWalk.u16_in n (by cases n with | ofNat m => (have h' : m ≤ 65535 := Nat.le_of_ble_eq_true h); (show 0 ≤ (m : Int) ∧ (m : Int) ≤ 65535); omega | negSucc m => exact absurd h (by simp [fits]))).symm
    case u32 => exact (IntWalk.u32_in n (by cases n with | ofNat m => (have h' : m ≤ 4294967295 := Nat.le_of_ble_eq_true h); (show 0 ≤ (m : Int) ∧ (m : Int) ≤ 4294967295); omega | negSucc m => exact absurd h (by simp [fits]))).symm
    case u64 => exact (IntWalk.u64_in n (by cases n with | ofNat m => (have h' : m ≤ 18446744073709551615 := Nat.le_of_ble_eq_true h); (show 0 ≤ (m : Int) ∧ (m : Int) ≤ 18446744073709551615); omega | negSucc m => exact absurd h (by simp [fits]))).symm
  · rfl

noncomputable def kEq (k k' : IntKind) : Bool := Nat.beq k.ctorIdx k'.ctorIdx

theorem kEq_eq {k k' : IntKind} (h : kEq k k' = true) : k = k' := by
  unfold kEq at h
  cases k <;> cases k' <;> first | rfl | exact absurd h (by decide)

/-- An operation on two whole numbers of one kind. -/
noncomputable def ibin (op : BinOp) (k : IntKind) (a b : Int) : Option AV :=
  match op with
  | .add => some (.int k (wrapF k (Int.add a b)))
  | .sub => some (.int k (wrapF k (Int.sub a b)))
  | .mul => some (.int k (wrapF k (Int.mul a b)))
  | .quo => match eqI b 0 with | true => none | false => some (.int k (wrapF k (a.tdiv b)))
  | .rem => match eqI b 0 with | true => none | false => some (.int k (a.tmod b))
  | .and => some (.int k (k.wrap (BitVec.ofInt k.bits a &&& BitVec.ofInt k.bits b).toNat))
  | .or => some (.int k (k.wrap (BitVec.ofInt k.bits a ||| BitVec.ofInt k.bits b).toNat))
  | .xor => some (.int k (k.wrap (BitVec.ofInt k.bits a ^^^ BitVec.ofInt k.bits b).toNat))
  | .andNot => some (.int k (k.wrap (BitVec.ofInt k.bits a &&& ~~~BitVec.ofInt k.bits b).toNat))
  | .eql => some (.bool (eqI a b))
  | .neq => some (.bool (!(eqI a b)))
  | .lss => some (.bool (ltI a b))
  | .leq => some (.bool (!(ltI b a)))
  | .gtr => some (.bool (ltI b a))
  | .geq => some (.bool (!(ltI a b)))
  | _ => none

noncomputable def ishift (op : BinOp) (k : IntKind) (a b : Int) : Option AV :=
  match ltI b 0 with
  | true => none
  | false => match op with
    | .shl => some (.int k (wrapF k (a * 2 ^ (Nat.min b.toNat k.bits))))
    | .shr => some (.int k (a.fdiv (2 ^ (Nat.min b.toNat k.bits))))
    | _ => none

noncomputable def isShift : BinOp → Bool
  | .shl => true
  | .shr => true
  | _ => false

noncomputable def doBin (op : BinOp) : AV → AV → Option AV
  | .int k a, .int k' b => match isShift op with
    | true => ishift op k a b
    | false => match kEq k k' with
      | true => ibin op k a b
      | false => none
  | _, _ => none

noncomputable def doSBin (op : BinOp) : AV → AV → Option AV
  | .str l n, .str l' n' => match op with
    | .add => match Nat.ble (l + l') 1000000000 with
      | true => some (.str (Nat.add l l') (Nat.add n (Nat.mul (Nat.pow 256 l) n')))
      | false => none
    | .eql => some (.bool (Nat.beq l l' && Nat.beq n n'))
    | .neq => some (.bool (!(Nat.beq l l' && Nat.beq n n')))
    | _ => none
  | _, _ => none

/-- '==' of bools, and of a thing and nil. -/
noncomputable def doEq (tag : Nat) (a b : AV) : Option Bool :=
  match tag with
  | 0 => match a, b with
    | .bool a, .bool b => some (Bool.rec (!b) b a)
    | _, _ => none
  | 1 => match a, b with
    | .nilp, .nilp => some true
    | .nilp, .ptr _ _ => some false
    | .ptr _ _, .nilp => some false
    | _, _ => none
  | 2 => match a, b with
    | .nils, .nils => some true
    | .nils, .slc _ _ _ _ => some false
    | .slc _ _ _ _, .nils => some false
    | _, _ => none
  | 3 => match a, b with
    | .nilf, .nilf => some true
    | .nilf, .fn _ _ _ => some false
    | .fn _ _ _, .nilf => some false
    | _, _ => none
  | 4 => match a, b with
    | .nili, .ifc _ _ => some false
    | .ifc _ _, .nili => some false
    | _, _ => none
  | _ => none

/-- The cells from a place on, so many. -/
noncomputable def loadN (c : PT AV) (n : Nat) : Nat → Option (List AV) :=
  Nat.rec (motive := fun _ => Nat → Option (List AV)) (fun _ => some [])
    (fun _ ih i => match c.get i, ih (Nat.succ i) with | some v, some l => some (v :: l) | _, _ => none) n

noncomputable def storeN (l : List AV) : PT AV → Nat → PT AV :=
  List.rec (motive := fun _ => PT AV → Nat → PT AV) (fun c _ => c)
    (fun v _ ih c i => PT.force (fun c' => ih c' (Nat.succ i)) (PT.set (some v) c i)) l

/-- What an aggregate's cells are; of another value: itself. -/
def cellsOf : AV → List AV
  | .agg l => l
  | v => [v]

def oneCell : AV → Bool
  | .agg _ => false
  | .tup _ => false
  | _ => true

noncomputable def allOne (l : List AV) : Bool := List.rec (motive := fun _ => Bool) true (fun v _ ih => match oneCell v with | true => ih | false => false) l

/-- A new block. -/
noncomputable def newB (S : St) (b : ABlk) (k : Nat → AV) : OR :=
  PT.force (fun h => .ok (k S.next) ⟨Nat.succ S.next, h⟩) (PT.set (some b) S.heap S.next)

noncomputable def ofList (l : List AV) : PT AV := storeN l .lf 0

noncomputable def doAlloc (S : St) (esz : Nat) (l : List AV) (k : Nat → AV) : OR :=
  newB S (.cells esz l.length (ofList l)) k

noncomputable def doLoad (S : St) (n : Option Nat) : AV → Option AV
  | .ptr b off => match S.heap.get b with
    | some (.cells _ _ c) => match n with
      | none => c.get off
      | some n => match loadN c n off with
        | some l => some (.agg l)
        | none => none
    | _ => none
  | _ => none

noncomputable def doStore (S : St) (n : Nat) (a v : AV) : OR :=
  match a with
  | .ptr b off => match S.heap.get b with
    | some (.cells esz size c) =>
      match Nat.beq (cellsOf v).length n, Nat.ble (off + n) size, allOne (cellsOf v) with
      | true, true, true => PT.force (fun h => .ok (.tup []) ⟨S.next, h⟩) (PT.set (some (.cells esz size (storeN (cellsOf v) c off))) S.heap b)
      | _, _, _ => .no
    | _ => .no
  | _ => .no

/-- A list with parts laid into it. -/
def putAt (l : List AV) (off : Nat) (p : List AV) : List AV := l.take off ++ p ++ l.drop (off + p.length)

noncomputable def fillA (env : List AV) (F : Fr) (z : List AV) (ps : List (Nat × Nat × Opd)) : Option (List AV) :=
  List.rec (motive := fun _ => List AV → Option (List AV)) (fun l => some l)
    (fun p _ ih l => match ov env F p.2.2 with
      | some v => match Nat.beq (cellsOf v).length p.2.1, Nat.ble (p.1 + p.2.1) l.length with
        | true, true => ih (putAt l p.1 (cellsOf v))
        | _, _ => none
      | none => none) ps z

noncomputable def natOf : AV → Option Nat
  | .int _ (.ofNat n) => some n
  | _ => none

noncomputable def optNat (env : List AV) (F : Fr) : Option Opd → Option (Option Nat)
  | none => some none
  | some o => match ov env F o with
    | some v => match natOf v with
      | some n => some (some n)
      | none => none
    | none => none

noncomputable def doSlcS (l n : Nat) (lo hi : Option Nat) : Option AV :=
  match Nat.ble (hi.getD l) l, Nat.ble (lo.getD 0) (hi.getD l) with
  | true, true => some (.str (Nat.sub (hi.getD l) (lo.getD 0)) (Nat.mod (Nat.div n (Nat.pow 256 (lo.getD 0))) (Nat.pow 256 (Nat.sub (hi.getD l) (lo.getD 0)))))
  | _, _ => none

/-- How far a slice may be cut: its capacity, or as far as the block is known. -/
noncomputable def reach (S : St) (b off esz : Nat) : Option Nat → Option Nat
  | some c => some c
  | none => match S.heap.get b with
    | some (.cells e size _) => match Nat.beq e esz with
      | true => some (Nat.div (Nat.sub size off) esz)
      | false => none
    | _ => none

noncomputable def doSlcL (S : St) (esz : Nat) (v : AV) (lo hi mx : Option Nat) : Option AV :=
  match v with
  | .nils => match Nat.beq (lo.getD 0) 0, Nat.beq (hi.getD 0) 0, Nat.beq (mx.getD 0) 0 with
    | true, true, true => some .nils
    | _, _, _ => none
  | .slc b off len cap => match reach S b off esz cap with
    | some r => match mx with
      | none => match Nat.ble (hi.getD len) r, Nat.ble (lo.getD 0) (hi.getD len), Nat.ble (Nat.succ (lo.getD 0)) r with
        | true, true, true => some (.slc b (Nat.add off (Nat.mul (lo.getD 0) esz)) (Nat.sub (hi.getD len) (lo.getD 0)) (match cap with | some c => some (Nat.sub c (lo.getD 0)) | none => none))
        | true, true, false => match cap with
          | some c => match Nat.beq c (lo.getD 0) with
            | true => some (.slc b off (Nat.sub (hi.getD len) (lo.getD 0)) (some 0))
            | false => none
          | none => none
        | _, _, _ => none
      | some m => match Nat.ble m r, Nat.ble (hi.getD len) m, Nat.ble (lo.getD 0) (hi.getD len) with
        | true, true, true => match Nat.beq m (lo.getD 0) with
          | true => some (.slc b off (Nat.sub (hi.getD len) (lo.getD 0)) (some 0))
          | false => some (.slc b (Nat.add off (Nat.mul (lo.getD 0) esz)) (Nat.sub (hi.getD len) (lo.getD 0)) (some (Nat.sub m (lo.getD 0))))
        | _, _, _ => none
    | none => none
  | _ => none

/-- The cells of the first n elements of a slice. -/
noncomputable def sliceCells (S : St) (esz n : Nat) : AV → Option (List AV)
  | .nils => match n with | 0 => some [] | _ => none
  | .slc b off _ _ => match S.heap.get b with
    | some (.cells _ _ c) => loadN c (Nat.mul n esz) off
    | _ => none
  | _ => none

noncomputable def lenOf : AV → Option Nat
  | .nils => some 0
  | .slc _ _ len _ => some len
  | .str l _ => some l
  | _ => none

/-- 'append': news are the cells of n elements more. -/
noncomputable def doApp (S : St) (esz : Nat) (s : AV) (n : Nat) (news : List AV) : OR :=
  match Nat.ble n 1000000, allOne news with
  | true, true => match s with
    | .nils => match n with
      | 0 => .ok .nils S
      | _ => newB S (.cells esz (Nat.mul n esz) (ofList news)) fun b => .slc b 0 n none
    | .slc b off len cap => match S.heap.get b, Nat.ble len 1000000 with
      | some (.cells e size c), true =>
        let need := Nat.add len n
        match cap with
        | some k => match Nat.ble need k with
          | true => match Nat.ble (Nat.add off (Nat.mul need esz)) size with
            | true => PT.force (fun h => .ok (.slc b off need (some k)) ⟨S.next, h⟩) (PT.set (some (.cells e size (storeN news c (Nat.add off (Nat.mul len esz))))) S.heap b)
            | false => .no
          | false => match loadN c (Nat.mul len esz) off, Nat.ble 1 n with
            | some old, true => newB S (.cells esz (Nat.mul need esz) (ofList (old ++ news))) fun b' => .slc b' 0 need none
            | _, _ => .no
        | none => match Nat.beq e esz with
          | true => match Nat.ble (Nat.add off (Nat.mul need esz)) size with
            | true => PT.force (fun h => .ok (.slc b off need none) ⟨S.next, h⟩) (PT.set (some (.cells e size (storeN news c (Nat.add off (Nat.mul len esz))))) S.heap b)
            | false => match Nat.beq off 0 with
              | true => match Nat.ble (Nat.mul len esz) size with
                | true => newB ⟨S.next, PT.set none S.heap b⟩ (.cells esz (Nat.mul need esz) (storeN news c (Nat.mul len esz))) fun b' => .slc b' 0 need none
                | false => .no
              | false => match loadN c (Nat.mul len esz) off, Nat.ble (Nat.add off (Nat.mul len esz)) size with
                | some old, true => newB ⟨S.next, PT.set none S.heap b⟩ (.cells esz (Nat.mul need esz) (ofList (old ++ news))) fun b' => .slc b' 0 need none
                | _, _ => .no
          | false => .no
      | _, _ => .no
    | _ => .no
  | _, _ => .no

/-- The bytes of a text as cells. -/
noncomputable def bytesOf (l : Nat) : Nat → List AV :=
  Nat.rec (motive := fun _ => Nat → List AV) (fun _ => []) (fun _ ih n => .int .u8 (.ofNat (Nat.mod n 256)) :: ih (Nat.div n 256)) l

noncomputable def packS (v : AV) (r : Option Nat) : Option Nat :=
  match v, r with
  | .int .u8 (.ofNat n), some m => match Nat.ble n 255 with
    | true => some (Nat.add n (Nat.mul 256 m))
    | false => none
  | _, _ => none

/-- Cells that are bytes, as a text. -/
noncomputable def packA (l : List AV) : Option Nat :=
  List.rec (motive := fun _ => Option Nat) (some 0) (fun v _ ih => packS v ih) l

noncomputable def repl (z : List AV) (n : Nat) : List AV :=
  Nat.rec (motive := fun _ => List AV) [] (fun _ ih => z ++ ih) n

noncomputable def findM (l n : Nat) (es : List (AV × AV)) : Option (Option AV) :=
  List.rec (motive := fun _ => Option (Option AV)) (some none)
    (fun e _ ih => match e.1 with
      | .str l' n' => match Nat.beq l l', Nat.beq n n' with
        | true, true => some (some e.2)
        | _, _ => ih
      | _ => none) es

/-- What is called: a function, and what stands ahead of and behind the arguments. -/
noncomputable def callee : AV → Option (Nat × List AV × List AV)
  | .fn f first captured => some (f, first, captured)
  | _ => none

/-- '==' of two cells that hold no address: 0 a number, 1 a bool, 2 a text. -/
noncomputable def feq (tag : Nat) (a b : AV) : Option Bool :=
  match tag with
  | 0 => match a, b with
    | .int k x, .int k' y => match kEq k k' with | true => some (eqI x y) | false => none
    | _, _ => none
  | 1 => match a, b with
    | .bool x, .bool y => some (Bool.rec (!y) y x)
    | _, _ => none
  | _ => match a, b with
    | .str l n, .str l' n' => some (Nat.beq l l' && Nat.beq n n')
    | _, _ => none

noncomputable def eqsS (l r : List AV) (p : Nat × Nat) (ih : Option Bool) : Option Bool :=
  match nthO l p.1, nthO r p.1 with
  | some a, some b => match feq p.2 a b with
    | some true => ih
    | some false => some false
    | none => none
  | _, _ => none

noncomputable def eqsA (l r : List AV) (fs : List (Nat × Nat)) : Option Bool :=
  List.rec (motive := fun _ => Option Bool) (some true) (fun p _ ih => eqsS l r p ih) fs

/-- A part of an aggregate: a cell, or so many. -/
noncomputable def partA (l : List AV) (off : Nat) : Option Nat → Option AV
  | none => nthO l off
  | some n => match Nat.ble (off + n) l.length with
    | true => some (.agg ((l.drop off).take n))
    | false => none

noncomputable def okS (S : St) : Option AV → OR
  | some v => .ok v S
  | none => .no

noncomputable def aop (cl : Nat → List AV → St → OR) (env : List AV) (F : Fr) (S : St) : AX → OR
  | .mov x => okS S (ov env F x)
  | .pick c a b => match ov env F c with
    | some (.bool t) => match t with
      | true => okS S (ov env F a)
      | false => okS S (ov env F b)
    | _ => .no
  | .bin op x y => match ov env F x, ov env F y with
    | some a, some b => okS S (doBin op a b)
    | _, _ => .no
  | .sbin op x y => match ov env F x, ov env F y with
    | some a, some b => okS S (doSBin op a b)
    | _, _ => .no
  | .eqv tag neg x y => match ov env F x, ov env F y with
    | some a, some b => match doEq tag a b with
      | some t => .ok (.bool (match neg with | true => !t | false => t)) S
      | none => .no
    | _, _ => .no
  | .not x => match ov env F x with
    | some (.bool b) => .ok (.bool (!b)) S
    | _ => .no
  | .neg x => match ov env F x with
    | some (.int k n) => .ok (.int k (wrapF k (Int.sub 0 n))) S
    | _ => .no
  | .conv k x => match ov env F x with
    | some (.int _ n) => .ok (.int k (wrapF k n)) S
    | _ => .no
  | .s2s x => match ov env F x with
    | some (.str l n) => .ok (.str l n) S
    | _ => .no
  | .b2s x => match ov env F x with
    | some .nils => .ok (.str 0 0) S
    | some (.slc b off len cap) => match sliceCells S 1 len (.slc b off len cap) with
      | some l => match packA l with
        | some n => .ok (.str len n) S
        | none => .no
      | none => .no
    | _ => .no
  | .alloc z => doAlloc S 0 z fun b => .ptr b 0
  | .box n x => match ov env F x with
    | some v => match Nat.beq (cellsOf v).length n with
      | true => doAlloc S 0 (cellsOf v) fun b => .ptr b 0
      | false => .no
    | none => .no
  | .build z ps => match fillA env F z ps with
    | some l => .ok (.agg l) S
    | none => .no
  | .bslice esz len z ps => match fillA env F z ps with
    | some l => doAlloc S esz l fun b => .slc b 0 len (some len)
    | none => .no
  | .load n x => match ov env F x with
    | some a => okS S (doLoad S n a)
    | none => .no
  | .store n a x => match ov env F a, ov env F x with
    | some p, some v => doStore S n p v
    | _, _ => .no
  | .nilc x => match ov env F x with
    | some (.ptr b o) => .ok (.ptr b o) S
    | some (.fn f a b) => .ok (.fn f a b) S
    | _ => .no
  | .faddr off x => match ov env F x with
    | some (.ptr b o) => .ok (.ptr b (Nat.add o off)) S
    | _ => .no
  | .fld off n x => match ov env F x with
    | some (.agg l) => okS S (partA l off n)
    | _ => .no
  | .iaddr esz x i => match ov env F x, ov env F i with
    | some (.slc b off len _), some (.int _ (.ofNat n)) => match Nat.ble (Nat.succ n) len with
      | true => .ok (.ptr b (Nat.add off (Nat.mul n esz))) S
      | false => .no
    | _, _ => .no
  | .idxS x i => match ov env F x, ov env F i with
    | some (.str l m), some (.int _ (.ofNat n)) => match Nat.ble (Nat.succ n) l with
      | true => .ok (.int .u8 (.ofNat (Nat.mod (Nat.div m (Nat.pow 256 n)) 256))) S
      | false => .no
    | _, _ => .no
  | .slcS x lo hi => match ov env F x, optNat env F lo, optNat env F hi with
    | some (.str l n), some lo, some hi => okS S (doSlcS l n lo hi)
    | _, _, _ => .no
  | .slcL esz x lo hi mx => match ov env F x, optNat env F lo, optNat env F hi, optNat env F mx with
    | some v, some lo, some hi, some mx => okS S (doSlcL S esz v lo hi mx)
    | _, _, _, _ => .no
  | .mkS esz z len cap => match ov env F len, ov env F cap with
    | some (.int .i64 (.ofNat n)), some (.int .i64 (.ofNat c)) => match Nat.ble n c, Nat.ble c 1000000 with
      | true, true => newB S (.cells esz (Nat.mul c esz) (ofList (repl z c))) fun b => .slc b 0 n (some c)
      | _, _ => .no
    | _, _ => .no
  | .mkI t x => match ov env F x with
    | some v => .ok (.ifc t v) S
    | none => .no
  | .mkF f a b => match ovs env F a, ovs env F b with
    | some a, some b => .ok (.fn f a b) S
    | _, _ => .no
  | .mkM => newB S (.map []) fun b => .map b
  | .look ok z m k => match ov env F m, ov env F k with
    | some (.map b), some (.str l n) => match S.heap.get b with
      | some (.map es) => match findM l n es with
        | some (some v) => .ok (match ok with | true => .tup [v, .bool true] | false => v) S
        | some none => .ok (match ok with | true => .tup [z, .bool false] | false => z) S
        | none => .no
      | _ => .no
    | _, _ => .no
  | .upd m k v => match ov env F m, ov env F k, ov env F v with
    | some (.map b), some (.str l n), some v => match S.heap.get b with
      | some (.map es) => match findM l n es with
        | some none => PT.force (fun h => .ok (.tup []) ⟨S.next, h⟩) (PT.set (some (.map (es ++ [(.str l n, v)]))) S.heap b)
        | _ => .no
      | _ => .no
    | _, _, _ => .no
  | .ext i x => match ov env F x with
    | some (.tup l) => okS S (nthO l i)
    | _ => .no
  | .lenS x => match ov env F x with
    | some (.str l _) => .ok (.int .i64 (.ofNat l)) S
    | _ => .no
  | .lenL x => match ov env F x with
    | some .nils => .ok (.int .i64 (.ofNat 0)) S
    | some (.slc _ _ len _) => .ok (.int .i64 (.ofNat len)) S
    | _ => .no
  | .app esz s x => match ov env F s, ov env F x with
    | some s, some x => match lenOf x with
      | some n => match sliceCells S esz n x with
        | some news => doApp S esz s n news
        | none => .no
      | none => .no
    | _, _ => .no
  | .appS s x => match ov env F s, ov env F x with
    | some s, some (.str l n) => doApp S 1 s l (bytesOf l n)
    | _, _ => .no
  | .appZ esz z s n => match ov env F s, ov env F n with
    | some s, some (.int .i64 (.ofNat n)) => doApp S esz s n (repl z n)
    | _, _ => .no
  | .cpy esz d s => match ov env F d, ov env F s with
    | some d, some s => match lenOf d, lenOf s with
      | some dn, some sn =>
        let n := Nat.min sn dn
        match sliceCells S esz n s with
        | some l => match d with
          | .nils => .ok (.int .i64 (.ofNat n)) S
          | .slc b off _ _ => match S.heap.get b with
            | some (.cells e size c) => match Nat.ble (off + l.length) size, allOne l with
              | true, true => PT.force (fun h => .ok (.int .i64 (.ofNat n)) ⟨S.next, h⟩) (PT.set (some (.cells e size (storeN l c off))) S.heap b)
              | _, _ => .no
            | _ => .no
          | _ => .no
        | none => .no
      | _, _ => .no
    | _, _ => .no
  | .max x y => match ov env F x, ov env F y with
    | some (.int k a), some (.int _ b) => .ok (.int k (match ltI a b with | true => b | false => a)) S
    | _, _ => .no
  | .min x y => match ov env F x, ov env F y with
    | some (.int k a), some (.int _ b) => .ok (.int k (match ltI b a with | true => b | false => a)) S
    | _, _ => .no
  | .call f args => match ovs env F args with
    | some l => cl f l S
    | none => .no
  | .callv x args => match ov env F x, ovs env F args with
    | some v, some l => match callee v with
      | some (f, first, captured) => cl f (first ++ l ++ captured) S
      | none => .no
    | _, _ => .no
  | .bad => .no
  | .eqs neg fs x y => match ov env F x, ov env F y with
    | some (.agg l), some (.agg r) => match eqsA l r fs with
      | some t => .ok (.bool (match neg with | true => !t | false => t)) S
      | none => .no
    | _, _ => .no
  | .clr esz z x => match ov env F x with
    | some .nils => .ok (.tup []) S
    | some (.slc b off len _) => match len with
      | 0 => .ok (.tup []) S
      | _ => match S.heap.get b with
        | some (.cells e size c) => match Nat.ble (off + (repl z len).length) size, allOne (repl z len), Nat.beq z.length esz with
          | true, true, true => PT.force (fun h => .ok (.tup []) ⟨S.next, h⟩) (PT.set (some (.cells e size (storeN (repl z len) c off))) S.heap b)
          | _, _, _ => .no
        | _ => .no
    | _ => .no
  | .capL x => match ov env F x with
    | some .nils => .ok (.int .i64 (.ofNat 0)) S
    | some (.slc _ _ _ (some c)) => .ok (.int .i64 (.ofNat c)) S
    | _ => .no
  | .iaddrA len esz x i => match ov env F x, ov env F i with
    | some (.ptr b off), some (.int _ (.ofNat n)) => match Nat.ble (Nat.succ n) len with
      | true => .ok (.ptr b (Nat.add off (Nat.mul n esz))) S
      | false => .no
    | _, _ => .no
  | .slcA n esz x lo hi mx => match ov env F x, optNat env F lo, optNat env F hi, optNat env F mx with
    | some (.ptr b off), some lo, some hi, some mx => okS S (doSlcL S esz (.slc b off n (some n)) lo hi mx)
    | _, _, _, _ => .no
  | .bnil esz => doAlloc S esz [] fun b => .slc b 0 0 (some 0)

noncomputable def wantA (env : List AV) (F : Fr) : Option (Opd × Bool) → Option Bool
  | none => some true
  | some (o, t) => match ov env F o with
    | some (.bool b) => some (Bool.rec (!t) t b)
    | some _ => some false
    | none => none

noncomputable def putD (d : Dst) (v : AV) (env : List AV) (F : Fr) (k : List AV → Fr → XR) : XR :=
  match d with
  | .push => k (v :: env) F
  | .var t => PT.force (fun F' => k env F') (PT.set (some v) F t)
  | .drop => k env F

noncomputable def opS (cl : Nat → List AV → St → OR) (o : AOp) (ih : List AV → Fr → St → XR) (env : List AV) (F : Fr) (S : St) : XR :=
  match wantA env F o.guard with
  | some true => match aop cl env F S o.x with
    | .ok v S' => putD o.dst v env F fun env F => ih env F S'
    | .no => .no
  | some false => putD o.dst (.tup []) env F fun env F => ih env F S
  | none => .no

/-- A region's operations in the text's order. -/
noncomputable def ropsX (cl : Nat → List AV → St → OR) (ops : List AOp) : List AV → Fr → St → XR :=
  List.rec (motive := fun _ => List AV → Fr → St → XR) (fun _ F S => .ok .norm F S) (fun o _ ih => opS cl o ih) ops

noncomputable def thenX (k : Fr → St → XR) : XR → XR
  | .ok .norm F S => k F S
  | r => r

noncomputable def blockX (id : Nat) : XR → XR
  | .ok (.exit j) F S => match Nat.beq j id with
    | true => .ok .norm F S
    | false => .ok (.exit j) F S
  | r => r

noncomputable def condX (ih : ACode → Fr → St → XR) (c : Opd) (a b : ACode) (F : Fr) (S : St) : XR :=
  match ov [] F c with
  | some (.bool true) => ih a F S
  | some (.bool false) => ih b F S
  | _ => .no

noncomputable def resA (F : Fr) (S : St) : ARes → Option AV
  | .tmp t => F.get t
  | .cell t n => match F.get t with
    | some a => doLoad S n a
    | none => none

noncomputable def resAll (F : Fr) (S : St) (l : List ARes) : Option (List AV) :=
  List.rec (motive := fun _ => Option (List AV)) (some []) (fun r _ ih => match resA F S r, ih with | some v, some l => some (v :: l) | _, _ => none) l

noncomputable def resV : List AV → AV
  | [v] => v
  | l => .tup l

noncomputable def retA (fn : AFn) : XR → OR
  | .ok .norm F S => match resAll F S fn.results with | some l => .ok (resV l) S | none => .no
  | .ok .ret F S => match resAll F S fn.results with | some l => .ok (resV l) S | none => .no
  | _ => .no

/-- What is known without a run, and the functions that are done in another way. -/
structure Hook where
  known : Nat → List AV → Option AV
  xc : (Nat → List AV → St → OR) → Nat → List AV → St → Option OR

noncomputable def callB (A : PT AFn) (hk : Hook) (ih : ACode → Fr → St → XR) (f : Nat) (args : List AV) (S : St) : OR :=
  match hk.known f args with
  | some v => .ok v S
  | none => match A.get f with
    | some fn => match Nat.beq args.length fn.params with
      | true => retA fn (ih fn.body (ofList args) S)
      | false => .no
    | none => .no

noncomputable def callA (A : PT AFn) (hk : Hook) (ih : ACode → Fr → St → XR) (f : Nat) (args : List AV) (S : St) : OR :=
  match hk.xc (callB A hk ih) f args S with
  | some r => r
  | none => callB A hk ih f args S

mutual
noncomputable def avEq : AV → AV → Bool
  | .int k n, .int k' n' => kEq k k' && eqI n n'
  | .bool a, .bool b => Bool.rec (!b) b a
  | .str l n, .str l' n' => Nat.beq l l' && Nat.beq n n'
  | .nilp, .nilp => true
  | .ptr b o, .ptr b' o' => Nat.beq b b' && Nat.beq o o'
  | .nils, .nils => true
  | .slc b o l c, .slc b' o' l' c' => Nat.beq b b' && Nat.beq o o' && Nat.beq l l' && (match c, c' with | none, none => true | some x, some y => Nat.beq x y | _, _ => false)
  | .nilf, .nilf => true
  | .nili, .nili => true
  | .nilm, .nilm => true
  | .map b, .map b' => Nat.beq b b'
  | .agg l, .agg l' => avsEq l l'
  | .tup l, .tup l' => avsEq l l'
  | _, _ => false
noncomputable def avsEq : List AV → List AV → Bool
  | [], [] => true
  | a :: l, b :: r => avEq a b && avsEq l r
  | _, _ => false
end

/-- Drawn regions: all values, and all states, the newest first. -/
inductive DR where
  | no
  | ok (env : List AV) (sts : List St)

noncomputable def dopA (cl : Nat → List AV → St → OR) (F : Fr) (o : AOp) (env : List AV) (S : St) : OR :=
  match wantA env F o.guard with
  | some true => aop cl env F S o.x
  | some false => .ok (.tup []) S
  | none => .no

noncomputable def dopS (ih : List AV → St → List St → DR) (env : List AV) (S : St) (sts : List St) : OR → DR
  | .ok v S' => ih (v :: env) S' (S :: sts)
  | .no => .no

noncomputable def drun (cl : Nat → List AV → St → OR) (F : Fr) (ops : List AOp) : List AV → St → List St → DR :=
  List.rec (motive := fun _ => List AV → St → List St → DR) (fun env S sts => .ok env (S :: sts)) (fun o _ ih env S sts => dopS ih env S sts (dopA cl F o env S)) ops

noncomputable def nthS (l : List St) : Nat → Option St :=
  List.rec (motive := fun _ => Nat → Option St) (fun _ => none)
    (fun v _ ih n => Nat.rec (motive := fun _ => Option St) (some v) (fun m _ => ih m) n) l

/-- A look gives the same at these states, too. -/
noncomputable def chkOne (cl : Nat → List AV → St → OR) (sts : List St) (env : List AV) (F : Fr) (x : AX) (v : AV) (l : List Nat) : Bool :=
  List.rec (motive := fun _ => Bool) true
    (fun i _ ih => match nthS sts i with
      | some S => match aop cl env F S x with
        | .ok v' _ => match avEq v v' with | true => ih | false => false
        | .no => false
      | none => false) l

/-- The looks at an operation: env is what stood behind it. -/
noncomputable def chkOp (cl : Nat → List AV → St → OR) (sts : List St) (F : Fr) (o : AOp) : List AV → Bool
  | [] => false
  | v :: env => match o.chk with
    | [] => true
    | l => match wantA env F o.guard with
      | some false => true
      | _ => chkOne cl sts env F o.x v l

noncomputable def tailE : List AV → List AV
  | [] => []
  | _ :: l => l

/-- All looks; the operations from the last one on. -/
noncomputable def chkAll (cl : Nat → List AV → St → OR) (sts : List St) (F : Fr) (ops : List AOp) : List AV → Bool :=
  List.rec (motive := fun _ => List AV → Bool) (fun _ => true)
    (fun o _ ih env => match chkOp cl sts F o env with | true => ih (tailE env) | false => false) ops

/-- 0: depends on nothing but its operands; 1: looks at memory; 2: may change it. -/
def kindX : AX → Nat
  | .mov .. | .pick .. | .bin .. | .sbin .. | .eqv .. | .not .. | .neg .. | .conv .. | .s2s .. | .build .. | .nilc .. | .faddr .. | .fld .. | .iaddr .. | .idxS .. | .slcS .. | .mkI .. | .mkF .. | .ext .. | .lenS .. | .lenL .. | .max .. | .min .. | .eqs .. | .capL .. | .iaddrA .. | .bad => 0
  | .load .. | .slcL .. | .slcA .. | .look .. | .b2s .. => 1
  | _ => 2

/-- Makers that may float. -/
def makerX : AX → Bool
  | .alloc .. | .bslice .. | .mkS .. => true
  | _ => false

/-- What is assigned to variables; the operations from the last one on. -/
noncomputable def asgAll (ops : List AOp) : List AV → Fr → Fr :=
  List.rec (motive := fun _ => List AV → Fr → Fr) (fun _ F => F)
    (fun o _ ih env F => match o.dst, env with
      | .var t, v :: env => ih env (PT.set (some v) F t)
      | _, _ => ih (tailE env) F) ops

noncomputable def drwE (cl : Nat → List AV → St → OR) (ops : List AOp) (F : Fr) : DR → XR
  | .no => .no
  | .ok env sts => match chkAll cl sts F ops.reverse env with
    | false => .no
    | true => match sts with
      | S' :: _ => PT.force (fun F' => .ok .norm F' S') (asgAll ops.reverse env F)
      | [] => .no

noncomputable def drwX (cl : Nat → List AV → St → OR) (_ : List Nat) (ops : List AOp) (F : Fr) (S : St) : XR :=
  drwE cl ops F (drun cl F ops [] S [])

end Go.Av
