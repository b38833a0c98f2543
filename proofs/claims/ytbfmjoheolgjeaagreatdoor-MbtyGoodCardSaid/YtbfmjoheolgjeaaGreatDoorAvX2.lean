/- The evaluator in continuation style: operations. -/
import Derived.Test.YtbfmjoheolgjeaaGreatDoorAvX1
set_option linter.unusedVariables false
namespace Go.Av

noncomputable def xk (n : Nat) (h : H) (k : KV) (v : AV) : Bool := k v n h

inductive XB where | mk (x : XF)
def XB.run : XB → XF | .mk x => x

/-- An operation is done as it should be. -/
def XOk (x : AX) (xf : XF) : Prop := ∀ (cl : Clo) (clc : ClC), (∀ f l n h k, clc f l n h k = oRC (cl f l ⟨n, h⟩) k) → ∀ env F n h k, xf clc env F n h k = oRC (aop cl env F ⟨n, h⟩ x) k

theorem oRC_okS (n : Nat) (h : H) (o : Option AV) (k : KV) : oRC (okS ⟨n, h⟩ o) k = oV o (xk n h k) := by cases o <;> rfl

/-! One operand, nothing of memory. -/
abbrev D1 := AV → (AV → Bool) → Bool
noncomputable def u1 (d : D1) (K : AV → Bool) (a : AV) : Bool := d a K
noncomputable def x_un (d : D1) (g : G) (cl : ClC) (env : List AV) (F : Fr) (n : Nat) (h : H) (k : KV) : Bool := g env F (u1 d (xk n h k))
theorem x_un_ok {d : D1} {g : G} {x : AX} {o : Opd} (f : AV → Option AV) (hg : GOk g o) (hd : ∀ a K, d a K = oV (f a) K)
    (hx : ∀ cl env F S, aop cl env F S x = (match ov env F o with | some a => okS S (f a) | none => .no)) : XOk x (x_un d g) := by
  intro cl clc hc env F n h k
  show g env F (u1 d (xk n h k)) = _
  rw [hg, hx]
  cases ov env F o with
  | none => rfl
  | some a => show d a (xk n h k) = oRC (okS ⟨n, h⟩ (f a)) k; rw [hd, oRC_okS]

/-! Two operands, nothing of memory. -/
abbrev D2 := AV → AV → (AV → Bool) → Bool
noncomputable def b2 (d : D2) (K : AV → Bool) (a b : AV) : Bool := d a b K
noncomputable def b1 (d : D2) (g : G) (env : List AV) (F : Fr) (K : AV → Bool) (a : AV) : Bool := g env F (b2 d K a)
noncomputable def x_bi (d : D2) (gx gy : G) (cl : ClC) (env : List AV) (F : Fr) (n : Nat) (h : H) (k : KV) : Bool := gx env F (b1 d gy env F (xk n h k))
theorem x_bi_ok {d : D2} {gx gy : G} {x : AX} {o p : Opd} (f : AV → AV → Option AV) (hg : GOk gx o) (hp : GOk gy p) (hd : ∀ a b K, d a b K = oV (f a b) K)
    (hx : ∀ cl env F S, aop cl env F S x = (match ov env F o, ov env F p with | some a, some b => okS S (f a b) | _, _ => .no)) : XOk x (x_bi d gx gy) := by
  intro cl clc hc env F n h k
  show gx env F (b1 d gy env F (xk n h k)) = _
  rw [hg, hx]
  cases ov env F o with
  | none => rfl
  | some a =>
    show gy env F (b2 d (xk n h k) a) = _
    rw [hp]
    cases ov env F p with
    | none => rfl
    | some b => show d a b (xk n h k) = oRC (okS ⟨n, h⟩ (f a b)) k; rw [hd, oRC_okS]

/-- What is seldom: as AvB does it. -/
noncomputable def fvK (K : AV → Bool) (v : AV) : Bool := forceV v K
noncomputable def optF (o : Option AV) (K : AV → Bool) : Bool := Option.rec (motive := fun _ => Bool) false (fvK K) o
theorem optF_eq (o : Option AV) (K : AV → Bool) : optF o K = oV o K := by
  cases o with
  | none => rfl
  | some v => exact forceV_eq v K

/-! Whole numbers. -/
noncomputable def n3 (f : IntKind → Nat → Nat → (AV → Bool) → Bool) (op : BinOp) (K : AV → Bool) (k : IntKind) (x y : Int) (m : Nat) : Bool :=
  Int.rec (motive := fun _ => Bool) (fun m' => f k m m' K) (fun _ => optF (ibin op k x y) K) y
noncomputable def n2 (f : IntKind → Nat → Nat → (AV → Bool) → Bool) (op : BinOp) (K : AV → Bool) (k : IntKind) (x : Int) (k' : IntKind) (y : Int) : Bool :=
  Bool.rec (motive := fun _ => Bool) false (Int.rec (motive := fun _ => Bool) (n3 f op K k x y) (fun _ => optF (ibin op k x y) K) x) (kEqX k k')
noncomputable def n1 (f : IntKind → Nat → Nat → (AV → Bool) → Bool) (op : BinOp) (b : AV) (K : AV → Bool) (k : IntKind) (x : Int) : Bool := dInt b (n2 f op K k x)
noncomputable def d_num (f : IntKind → Nat → Nat → (AV → Bool) → Bool) (op : BinOp) (a b : AV) (K : AV → Bool) : Bool := dInt a (n1 f op b K)
theorem d_num_eq {f : IntKind → Nat → Nat → (AV → Bool) → Bool} {op : BinOp} (hop : isShift op = false) (hf : ∀ k m m' K, f k m m' K = oV (ibin op k (.ofNat m) (.ofNat m')) K) (a b : AV) (K : AV → Bool) :
    d_num f op a b K = oV (doBin op a b) K := by
  cases a <;> try rfl
  rename_i k x
  show dInt b (n2 f op K k x) = _
  cases b <;> try rfl
  rename_i k' y
  show n2 f op K k x k' y = _
  unfold n2 doBin
  rw [kEqX_eq]
  simp only [hop]
  cases kEq k k' with
  | false => rfl
  | true =>
    show Int.rec (motive := fun _ => Bool) (n3 f op K k x y) (fun _ => optF (ibin op k x y) K) x = oV (ibin op k x y) K
    cases x with
    | ofNat m => cases y with
      | ofNat m' => exact hf k m m' K
      | negSucc m' => exact optF_eq _ _
    | negSucc m => exact optF_eq _ _

noncomputable def fw (k : IntKind) (K : AV → Bool) (s : Nat) : Bool := Bool.rec (motive := fun _ => Bool) (fvK K (.int k (k.wrap (.ofNat s)))) (K (.int k (.ofNat s))) (Nat.ble s (topX k))
theorem fw_eq (k : IntKind) (K : AV → Bool) (s : Nat) : fw k K s = K (.int k (wrapF k (.ofNat s))) := by
  unfold fw wrapF
  simp only [fits, topX_eq]
  cases Nat.ble s (topOf k) with
  | true => rfl
  | false => exact forceV_eq _ _
noncomputable def f_add (k : IntKind) (m m' : Nat) (K : AV → Bool) : Bool := forceN (Nat.add m m') (fw k K)
theorem f_add_ok (k : IntKind) (m m' : Nat) (K : AV → Bool) : f_add k m m' K = oV (ibin .add k (.ofNat m) (.ofNat m')) K := fw_eq k K _
noncomputable def f_sub (k : IntKind) (m m' : Nat) (K : AV → Bool) : Bool := Bool.rec (motive := fun _ => Bool) (optF (ibin .sub k (.ofNat m) (.ofNat m')) K) (forceN (Nat.sub m m') (fw k K)) (Nat.ble m' m)
theorem f_sub_ok (k : IntKind) (m m' : Nat) (K : AV → Bool) : f_sub k m m' K = oV (ibin .sub k (.ofNat m) (.ofNat m')) K := by
  unfold f_sub
  cases h : Nat.ble m' m with
  | false => exact optF_eq _ _
  | true =>
    have := Nat.le_of_ble_eq_true h
    show fw k K (Nat.sub m m') = K (.int k (wrapF k (Int.sub (.ofNat m) (.ofNat m'))))
    rw [fw_eq]
    have e : Int.ofNat (Nat.sub m m') = Int.sub (.ofNat m) (.ofNat m') := by
      show ((m - m' : Nat) : Int) = (m : Int) - (m' : Int)
      omega
    rw [e]
noncomputable def kB (K : AV → Bool) (b : Bool) : Bool := Bool.rec (motive := fun _ => Bool) (K (.bool false)) (K (.bool true)) b
noncomputable def kNB (K : AV → Bool) (b : Bool) : Bool := Bool.rec (motive := fun _ => Bool) (K (.bool true)) (K (.bool false)) b
theorem kB_eq (K : AV → Bool) (b : Bool) : kB K b = K (.bool b) := by cases b <;> rfl
theorem kNB_eq (K : AV → Bool) (b : Bool) : kNB K b = K (.bool (!b)) := by cases b <;> rfl
noncomputable def f_eql (k : IntKind) (m m' : Nat) (K : AV → Bool) : Bool := kB K (Nat.beq m m')
noncomputable def f_neq (k : IntKind) (m m' : Nat) (K : AV → Bool) : Bool := kNB K (Nat.beq m m')
noncomputable def f_lss (k : IntKind) (m m' : Nat) (K : AV → Bool) : Bool := kB K (Nat.ble (Nat.succ m) m')
noncomputable def f_leq (k : IntKind) (m m' : Nat) (K : AV → Bool) : Bool := kNB K (Nat.ble (Nat.succ m') m)
noncomputable def f_gtr (k : IntKind) (m m' : Nat) (K : AV → Bool) : Bool := kB K (Nat.ble (Nat.succ m') m)
noncomputable def f_geq (k : IntKind) (m m' : Nat) (K : AV → Bool) : Bool := kNB K (Nat.ble (Nat.succ m) m')

inductive DB where | mk (d : D2)
def DB.run : DB → D2 | .mk d => d
noncomputable def d_gen (op : BinOp) (a b : AV) (K : AV → Bool) : Bool := optF (doBin op a b) K
noncomputable def compB (op : BinOp) : DB :=
  BinOp.rec (motive := fun _ => DB) (.mk (d_num f_add .add)) (.mk (d_num f_sub .sub)) (.mk (d_gen .mul)) (.mk (d_gen .quo)) (.mk (d_gen .rem)) (.mk (d_gen .and)) (.mk (d_gen .or)) (.mk (d_gen .xor)) (.mk (d_gen .shl)) (.mk (d_gen .shr)) (.mk (d_gen .andNot))
    (.mk (d_num f_eql .eql)) (.mk (d_num f_neq .neq)) (.mk (d_num f_lss .lss)) (.mk (d_num f_leq .leq)) (.mk (d_num f_gtr .gtr)) (.mk (d_num f_geq .geq)) op
theorem compB_ok (op : BinOp) (a b : AV) (K : AV → Bool) : (compB op).run a b K = oV (doBin op a b) K := by
  cases op <;> first
    | exact optF_eq _ _
    | exact d_num_eq rfl f_add_ok a b K
    | exact d_num_eq rfl f_sub_ok a b K
    | exact d_num_eq rfl (fun k m m' K => kB_eq K _) a b K
    | exact d_num_eq rfl (fun k m m' K => kNB_eq K _) a b K

noncomputable def d_sbin (op : BinOp) (a b : AV) (K : AV → Bool) : Bool := optF (doSBin op a b) K
noncomputable def d_eqv1 (neg : Bool) (K : AV → Bool) (t : Bool) : Bool := Bool.rec (motive := fun _ => Bool) (kB K t) (kNB K t) neg
noncomputable def d_eqv (tag : Nat) (neg : Bool) (a b : AV) (K : AV → Bool) : Bool := Option.rec (motive := fun _ => Bool) false (d_eqv1 neg K) (doEq tag a b)
theorem d_eqv_eq (tag : Nat) (neg : Bool) (a b : AV) (K : AV → Bool) : d_eqv tag neg a b K = oV (match doEq tag a b with | some t => some (.bool (match neg with | true => !t | false => t)) | none => none) K := by
  unfold d_eqv
  cases doEq tag a b with
  | none => rfl
  | some t => cases neg with
    | true => exact kNB_eq K t
    | false => exact kB_eq K t

noncomputable def d_not (a : AV) (K : AV → Bool) : Bool := dBool a (kNB K)
noncomputable def cv1 (k : IntKind) (K : AV → Bool) (n : Int) : Bool := fvK K (.int k (wrapF k n))
noncomputable def cv2 (k : IntKind) (K : AV → Bool) (k' : IntKind) (n : Int) : Bool := Int.rec (motive := fun _ => Bool) (fw k K) (fun _ => cv1 k K n) n
noncomputable def d_conv (k : IntKind) (a : AV) (K : AV → Bool) : Bool := dInt a (cv2 k K)
noncomputable def s2s1 (K : AV → Bool) (l n : Nat) : Bool := K (.str l n)
noncomputable def d_s2s (a : AV) (K : AV → Bool) : Bool := dStr a (s2s1 K)
noncomputable def nl1 (K : AV → Bool) (b o : Nat) : Bool := K (.ptr b o)
noncomputable def nl2 (K : AV → Bool) (f : Nat) (a c : List AV) : Bool := K (.fn f a c)
noncomputable def d_nilc (a : AV) (K : AV → Bool) : Bool := dPF a (nl1 K) (nl2 K)
noncomputable def fa2 (K : AV → Bool) (b o : Nat) : Bool := K (.ptr b o)
noncomputable def fa1 (off : Nat) (K : AV → Bool) (b o : Nat) : Bool := forceN (Nat.add o off) (fa2 K b)
noncomputable def d_faddr (off : Nat) (a : AV) (K : AV → Bool) : Bool := dPtr a (fa1 off K)
noncomputable def fl1 (off : Nat) (K : AV → Bool) (l : List AV) : Bool := nthC l K off
noncomputable def d_fld1 (off : Nat) (a : AV) (K : AV → Bool) : Bool := dAgg a (fl1 off K)
noncomputable def fl3 (K : AV → Bool) (l : List AV) : Bool := K (.agg l)
noncomputable def fl2 (off n : Nat) (K : AV → Bool) (l : List AV) : Bool := Bool.rec (motive := fun _ => Bool) false (forceL ((l.drop off).take n) (fl3 K)) (Nat.ble (off + n) l.length)
noncomputable def d_fldN (off n : Nat) (a : AV) (K : AV → Bool) : Bool := dAgg a (fl2 off n K)
noncomputable def d_mkI (t : Nat) (a : AV) (K : AV → Bool) : Bool := K (.ifc t a)
noncomputable def ex1 (i : Nat) (K : AV → Bool) (l : List AV) : Bool := nthC l K i
noncomputable def d_ext (i : Nat) (a : AV) (K : AV → Bool) : Bool := dTup a (ex1 i K)
noncomputable def ls1 (K : AV → Bool) (l n : Nat) : Bool := K (.int .i64 (.ofNat l))
noncomputable def d_lenS (a : AV) (K : AV → Bool) : Bool := dStr a (ls1 K)
noncomputable def ll1 (K : AV → Bool) (b o l : Nat) (c : Option Nat) : Bool := K (.int .i64 (.ofNat l))
noncomputable def d_lenL (a : AV) (K : AV → Bool) : Bool := dNS a (K (.int .i64 (.ofNat 0))) (ll1 K)
noncomputable def d_mov (a : AV) (K : AV → Bool) : Bool := K a

noncomputable def ia4 (K : AV → Bool) (b o : Nat) : Bool := K (.ptr b o)
noncomputable def ia3 (esz : Nat) (K : AV → Bool) (b off len : Nat) (n : Nat) : Bool := Bool.rec (motive := fun _ => Bool) false (forceN (Nat.add off (Nat.mul n esz)) (ia4 K b)) (Nat.ble (Nat.succ n) len)
noncomputable def ia2 (esz : Nat) (K : AV → Bool) (b off len : Nat) (k : IntKind) (n : Int) : Bool := Int.rec (motive := fun _ => Bool) (ia3 esz K b off len) (fun _ => false) n
noncomputable def ia1 (esz : Nat) (i : AV) (K : AV → Bool) (b off len : Nat) (c : Option Nat) : Bool := dInt i (ia2 esz K b off len)
noncomputable def d_iaddr (esz : Nat) (a i : AV) (K : AV → Bool) : Bool := dSlc a (ia1 esz i K)
noncomputable def f_iaddr (esz : Nat) : AV → AV → Option AV
  | .slc b off len _, .int _ (.ofNat n) => match Nat.ble (Nat.succ n) len with | true => some (.ptr b (Nat.add off (Nat.mul n esz))) | false => none
  | _, _ => none
theorem d_iaddr_eq (esz : Nat) (a i : AV) (K : AV → Bool) : d_iaddr esz a i K = oV (f_iaddr esz a i) K := by
  cases a <;> try rfl
  rename_i b off len c
  cases i <;> try rfl
  rename_i k n
  cases n with
  | negSucc m => rfl
  | ofNat n =>
    show Bool.rec (motive := fun _ => Bool) false (forceN (Nat.add off (Nat.mul n esz)) (ia4 K b)) (Nat.ble (Nat.succ n) len) = oV (match Nat.ble (Nat.succ n) len with | true => some (.ptr b (Nat.add off (Nat.mul n esz))) | false => none) K
    cases Nat.ble (Nat.succ n) len <;> rfl

noncomputable def ix4 (K : AV → Bool) (c : Nat) : Bool := K (.int .u8 (.ofNat c))
noncomputable def ix3 (K : AV → Bool) (l m n : Nat) : Bool := Bool.rec (motive := fun _ => Bool) false (forceN (Nat.mod (Nat.div m (Nat.pow 256 n)) 256) (ix4 K)) (Nat.ble (Nat.succ n) l)
noncomputable def ix2 (K : AV → Bool) (l m : Nat) (k : IntKind) (n : Int) : Bool := Int.rec (motive := fun _ => Bool) (ix3 K l m) (fun _ => false) n
noncomputable def ix1 (i : AV) (K : AV → Bool) (l m : Nat) : Bool := dInt i (ix2 K l m)
noncomputable def d_idxS (a i : AV) (K : AV → Bool) : Bool := dStr a (ix1 i K)
noncomputable def f_idxS : AV → AV → Option AV
  | .str l m, .int _ (.ofNat n) => match Nat.ble (Nat.succ n) l with | true => some (.int .u8 (.ofNat (Nat.mod (Nat.div m (Nat.pow 256 n)) 256))) | false => none
  | _, _ => none
theorem d_idxS_eq (a i : AV) (K : AV → Bool) : d_idxS a i K = oV (f_idxS a i) K := by
  cases a <;> try rfl
  rename_i l m
  cases i <;> try rfl
  rename_i k n
  cases n with
  | negSucc m => rfl
  | ofNat n =>
    show Bool.rec (motive := fun _ => Bool) false (forceN (Nat.mod (Nat.div m (Nat.pow 256 n)) 256) (ix4 K)) (Nat.ble (Nat.succ n) l) = oV (match Nat.ble (Nat.succ n) l with | true => some (.int .u8 (.ofNat (Nat.mod (Nat.div m (Nat.pow 256 n)) 256))) | false => none) K
    cases Nat.ble (Nat.succ n) l <;> rfl

noncomputable def pi2 (a b : Bool) (t : Bool) : Bool := Bool.rec (motive := fun _ => Bool) b a t
noncomputable def pi1 (ga gb : G) (env : List AV) (F : Fr) (K : AV → Bool) (v : AV) : Bool := dBool v (pi2 (ga env F K) (gb env F K))
noncomputable def x_pick (gc ga gb : G) (cl : ClC) (env : List AV) (F : Fr) (n : Nat) (h : H) (k : KV) : Bool := gc env F (pi1 ga gb env F (xk n h k))
theorem x_pick_ok {gc ga gb : G} {c a b : Opd} (hc : GOk gc c) (ha : GOk ga a) (hb : GOk gb b) : XOk (.pick c a b) (x_pick gc ga gb) := by
  intro cl clc hcl env F n h k
  show gc env F (pi1 ga gb env F (xk n h k)) = oRC (match ov env F c with | some (.bool t) => (match t with | true => okS ⟨n, h⟩ (ov env F a) | false => okS ⟨n, h⟩ (ov env F b)) | _ => .no) k
  rw [hc]
  cases ov env F c with
  | none => rfl
  | some v =>
    show pi1 ga gb env F (xk n h k) v = _
    unfold pi1
    rw [ha, hb]
    cases v <;> try rfl
    rename_i t
    cases t with
    | true => exact (oRC_okS n h _ k).symm
    | false => exact (oRC_okS n h _ k).symm

/-! Memory. -/
noncomputable def cellB (k : Nat → Nat → PT AV → Bool) (b : ABlk) : Bool := ABlk.rec (motive := fun _ => Bool) k (fun _ => false) b
noncomputable def ld2 (off : Nat) (K : AV → Bool) (e s : Nat) (c : PT AV) : Bool := getC c off K
noncomputable def ld1 (h : H) (K : AV → Bool) (b off : Nat) : Bool := getC h b (cellB (ld2 off K))
noncomputable def ld0 (h : H) (K : AV → Bool) (a : AV) : Bool := dPtr a (ld1 h K)
noncomputable def x_load (g : G) (cl : ClC) (env : List AV) (F : Fr) (n : Nat) (h : H) (k : KV) : Bool := g env F (ld0 h (xk n h k))
noncomputable def ldA3 (K : AV → Bool) (l : List AV) : Bool := K (.agg l)
noncomputable def ldA2 (m off : Nat) (K : AV → Bool) (e s : Nat) (c : PT AV) : Bool := loadC c m off (ldA3 K)
noncomputable def ldA1 (m : Nat) (h : H) (K : AV → Bool) (b off : Nat) : Bool := getC h b (cellB (ldA2 m off K))
noncomputable def ldA0 (m : Nat) (h : H) (K : AV → Bool) (a : AV) : Bool := dPtr a (ldA1 m h K)
noncomputable def x_loadA (m : Nat) (g : G) (cl : ClC) (env : List AV) (F : Fr) (n : Nat) (h : H) (k : KV) : Bool := g env F (ldA0 m h (xk n h k))
theorem ld0_eq (n : Nat) (h : H) (K : AV → Bool) (a : AV) : ld0 h K a = oV (doLoad ⟨n, h⟩ none a) K := by
  cases a <;> try rfl
  rename_i b off
  show getC h b (cellB (ld2 off K)) = oV (match h.get b with | some (.cells _ _ c) => c.get off | _ => none) K
  rw [getC_eq]
  cases h.get b with
  | none => rfl
  | some blk => cases blk with
    | map es => rfl
    | cells e s c => exact getC_eq K c off
theorem ldA0_eq (m n : Nat) (h : H) (K : AV → Bool) (a : AV) : ldA0 m h K a = oV (doLoad ⟨n, h⟩ (some m) a) K := by
  cases a <;> try rfl
  rename_i b off
  show getC h b (cellB (ldA2 m off K)) = oV (match h.get b with | some (.cells _ _ c) => (match loadN c m off with | some l => some (.agg l) | none => none) | _ => none) K
  rw [getC_eq]
  cases h.get b with
  | none => rfl
  | some blk => cases blk with
    | map es => rfl
    | cells e s c =>
      show loadC c m off (ldA3 K) = oV (match loadN c m off with | some l => some (AV.agg l) | none => none) K
      rw [loadC_eq]
      cases loadN c m off <;> rfl
theorem x_load_ok {g : G} {o : Opd} (hg : GOk g o) : XOk (.load none o) (x_load g) := by
  intro cl clc hc env F n h k
  show g env F (ld0 h (xk n h k)) = oRC (match ov env F o with | some a => okS ⟨n, h⟩ (doLoad ⟨n, h⟩ none a) | none => .no) k
  rw [hg]
  cases ov env F o with
  | none => rfl
  | some a => show ld0 h (xk n h k) a = oRC (okS _ _) k; rw [ld0_eq n, oRC_okS]
theorem x_loadA_ok {m : Nat} {g : G} {o : Opd} (hg : GOk g o) : XOk (.load (some m) o) (x_loadA m g) := by
  intro cl clc hc env F n h k
  show g env F (ldA0 m h (xk n h k)) = oRC (match ov env F o with | some a => okS ⟨n, h⟩ (doLoad ⟨n, h⟩ (some m) a) | none => .no) k
  rw [hg]
  cases ov env F o with
  | none => rfl
  | some a => show ldA0 m h (xk n h k) a = oRC (okS _ _) k; rw [ldA0_eq m n, oRC_okS]

noncomputable def stt6 (n : Nat) (k : KV) (h : H) : Bool := k (.tup []) n h
noncomputable def stt5 (b n : Nat) (h : H) (k : KV) (e s : Nat) (c : PT AV) : Bool := setC (some (.cells e s c)) h b (stt6 n k)
noncomputable def stt4 (m b off n : Nat) (h : H) (k : KV) (e s : Nat) (c : PT AV) (l : List AV) : Bool :=
  Bool.rec (motive := fun _ => Bool) false (Bool.rec (motive := fun _ => Bool) false (allOneC l (storeC l c off (stt5 b n h k e s))) (Nat.ble (Nat.add off m) s)) (Nat.beq (lenX l) m)
noncomputable def stt3 (m : Nat) (v : AV) (b off n : Nat) (h : H) (k : KV) (e s : Nat) (c : PT AV) : Bool := dCells v (stt4 m b off n h k e s c)
noncomputable def stt2 (m : Nat) (v : AV) (n : Nat) (h : H) (k : KV) (b off : Nat) : Bool := getC h b (cellB (stt3 m v b off n h k))
noncomputable def stt1 (m n : Nat) (h : H) (k : KV) (a v : AV) : Bool := dPtr a (stt2 m v n h k)
noncomputable def stt0 (m : Nat) (gx : G) (env : List AV) (F : Fr) (n : Nat) (h : H) (k : KV) (a : AV) : Bool := gx env F (stt1 m n h k a)
noncomputable def x_store (m : Nat) (ga gx : G) (cl : ClC) (env : List AV) (F : Fr) (n : Nat) (h : H) (k : KV) : Bool := ga env F (stt0 m gx env F n h k)
theorem dCells_eq (v : AV) (k : List AV → Bool) : dCells v k = k (cellsOf v) := by cases v <;> rfl
theorem stt1_eq (m n : Nat) (h : H) (k : KV) (a v : AV) : stt1 m n h k a v = oRC (doStore ⟨n, h⟩ m a v) k := by
  cases a <;> try rfl
  rename_i b off
  show getC h b (cellB (stt3 m v b off n h k)) = _
  unfold doStore
  rw [getC_eq]
  show oV (h.get b) _ = oRC (match h.get b with | some (.cells esz size c) => _ | _ => .no) k
  cases h.get b with
  | none => rfl
  | some blk => cases blk with
    | map es => rfl
    | cells e s c =>
      show dCells v (stt4 m b off n h k e s c) = oRC (match Nat.beq (cellsOf v).length m, Nat.ble (off + m) s, allOne (cellsOf v) with
        | true, true, true => PT.force (fun h' => .ok (.tup []) ⟨n, h'⟩) (PT.set (some (.cells e s (storeN (cellsOf v) c off))) h b) | _, _, _ => .no) k
      rw [dCells_eq]
      unfold stt4
      rw [lenX_eq, allOneC_eq, storeC_eq]
      show bB (Nat.beq (cellsOf v).length m) (bB (Nat.ble (off + m) s) _ _) _ = _
      cases Nat.beq (cellsOf v).length m <;> cases Nat.ble (off + m) s <;> cases allOne (cellsOf v) <;> try rfl
      show stt5 b n h k e s (storeN (cellsOf v) c off) = _
      unfold stt5
      rw [setC_eq]
      simp only [PT.force_eq]
      rfl
theorem x_store_ok {m : Nat} {ga gx : G} {a x : Opd} (ha : GOk ga a) (hg : GOk gx x) : XOk (.store m a x) (x_store m ga gx) := by
  intro cl clc hc env F n h k
  show ga env F (stt0 m gx env F n h k) = oRC (match ov env F a, ov env F x with | some p, some v => doStore ⟨n, h⟩ m p v | _, _ => .no) k
  rw [ha]
  cases ov env F a with
  | none => rfl
  | some p =>
    show gx env F (stt1 m n h k p) = _
    rw [hg]
    cases ov env F x with
    | none => rfl
    | some v => exact stt1_eq m n h k p v

/-! New blocks. -/
noncomputable def nw3 (v : AV) (k : KV) (h : H) (n : Nat) : Bool := k v n h
noncomputable def nw2 (v : AV) (n : Nat) (k : KV) (h : H) : Bool := forceN (Nat.succ n) (nw3 v k h)
noncomputable def newC (blk : ABlk) (v : AV) (n : Nat) (h : H) (k : KV) : Bool := setC (some blk) h n (nw2 v n k)
theorem newC_eq (blk : ABlk) (f : Nat → AV) (n : Nat) (h : H) (k : KV) : newC blk (f n) n h k = oRC (newB ⟨n, h⟩ blk f) k := by
  unfold newC newB
  rw [setC_eq, PT.force_eq]
  rfl
noncomputable def x_blkP (blk : ABlk) (cl : ClC) (env : List AV) (F : Fr) (n : Nat) (h : H) (k : KV) : Bool := newC blk (.ptr n 0) n h k
noncomputable def x_blkS (blk : ABlk) (len : Nat) (cl : ClC) (env : List AV) (F : Fr) (n : Nat) (h : H) (k : KV) : Bool := newC blk (.slc n 0 len (some len)) n h k
noncomputable def bx3 (m n : Nat) (h : H) (k : KV) (c : PT AV) : Bool := newC (.cells 0 m c) (.ptr n 0) n h k
noncomputable def bx2 (m n : Nat) (h : H) (k : KV) (l : List AV) : Bool := Bool.rec (motive := fun _ => Bool) false (storeC l .lf 0 (bx3 m n h k)) (Nat.beq (lenX l) m)
noncomputable def bx1 (m n : Nat) (h : H) (k : KV) (v : AV) : Bool := dCells v (bx2 m n h k)
noncomputable def x_box (m : Nat) (g : G) (cl : ClC) (env : List AV) (F : Fr) (n : Nat) (h : H) (k : KV) : Bool := g env F (bx1 m n h k)
theorem x_box_ok {m : Nat} {g : G} {o : Opd} (hg : GOk g o) : XOk (.box m o) (x_box m g) := by
  intro cl clc hc env F n h k
  show g env F (bx1 m n h k) = oRC (match ov env F o with | some v => (match Nat.beq (cellsOf v).length m with | true => doAlloc ⟨n, h⟩ 0 (cellsOf v) fun b => .ptr b 0 | false => .no) | none => .no) k
  rw [hg]
  cases ov env F o with
  | none => rfl
  | some v =>
    show dCells v (bx2 m n h k) = oRC (match Nat.beq (cellsOf v).length m with | true => doAlloc ⟨n, h⟩ 0 (cellsOf v) fun b => .ptr b 0 | false => .no) k
    rw [dCells_eq]
    unfold bx2
    rw [lenX_eq, storeC_eq]
    cases hb : Nat.beq (cellsOf v).length m with
    | false => rfl
    | true =>
      have := Nat.eq_of_beq_eq_true hb
      subst this
      exact newC_eq (.cells 0 (cellsOf v).length (ofList (cellsOf v))) (fun b => .ptr b 0) n h k

noncomputable def bd2 (n : Nat) (h : H) (k : KV) (l : List AV) : Bool := k (.agg l) n h
noncomputable def bd1 (n : Nat) (h : H) (k : KV) (l : List AV) : Bool := forceL l (bd2 n h k)
noncomputable def x_build (z : List AV) (ps : List (Nat × Nat × Opd)) (cl : ClC) (env : List AV) (F : Fr) (n : Nat) (h : H) (k : KV) : Bool := oB (fillA env F z ps) (bd1 n h k)
theorem x_build_ok (z : List AV) (ps : List (Nat × Nat × Opd)) : XOk (.build z ps) (x_build z ps) := by
  intro cl clc hc env F n h k
  show oB (fillA env F z ps) (bd1 n h k) = oRC (match fillA env F z ps with | some l => .ok (.agg l) ⟨n, h⟩ | none => .no) k
  rw [oB_eq]
  cases fillA env F z ps with
  | none => rfl
  | some l => show forceL l (bd2 n h k) = _; rw [forceL_eq]; rfl
noncomputable def bs3 (esz len n : Nat) (h : H) (k : KV) (c : PT AV) (m : Nat) : Bool := newC (.cells esz m c) (.slc n 0 len (some len)) n h k
noncomputable def bs2 (esz len n : Nat) (h : H) (k : KV) (l : List AV) (c : PT AV) : Bool := forceN (lenX l) (bs3 esz len n h k c)
noncomputable def bs1 (esz len n : Nat) (h : H) (k : KV) (l : List AV) : Bool := storeC l .lf 0 (bs2 esz len n h k l)
noncomputable def x_bslice (esz len : Nat) (z : List AV) (ps : List (Nat × Nat × Opd)) (cl : ClC) (env : List AV) (F : Fr) (n : Nat) (h : H) (k : KV) : Bool := oB (fillA env F z ps) (bs1 esz len n h k)
theorem x_bslice_ok (esz len : Nat) (z : List AV) (ps : List (Nat × Nat × Opd)) : XOk (.bslice esz len z ps) (x_bslice esz len z ps) := by
  intro cl clc hc env F n h k
  show oB (fillA env F z ps) (bs1 esz len n h k) = oRC (match fillA env F z ps with | some l => doAlloc ⟨n, h⟩ esz l fun b => .slc b 0 len (some len) | none => .no) k
  rw [oB_eq]
  cases fillA env F z ps with
  | none => rfl
  | some l =>
    show storeC l .lf 0 (bs2 esz len n h k l) = _
    rw [storeC_eq]
    unfold bs2 bs3
    rw [forceN_eq, lenX_eq]
    exact newC_eq (.cells esz l.length (ofList l)) (fun b => .slc b 0 len (some len)) n h k

/-! Calls, functions as values. -/
noncomputable def ca1 (cl : ClC) (f n : Nat) (h : H) (k : KV) (l : List AV) : Bool := cl f l n h k
noncomputable def x_call (f : Nat) (a : GA) (cl : ClC) (env : List AV) (F : Fr) (n : Nat) (h : H) (k : KV) : Bool := a env F (ca1 cl f n h k)
noncomputable def cv5 (c : List AV) (K : List AV → Bool) (l : List AV) : Bool := appC l c K
noncomputable def cv4 (cl : ClC) (n : Nat) (h : H) (k : KV) (f : Nat) (a c : List AV) (l : List AV) : Bool := appC a l (cv5 c (ca1 cl f n h k))
noncomputable def cv3 (cl : ClC) (a : GA) (env : List AV) (F : Fr) (n : Nat) (h : H) (k : KV) (f : Nat) (x c : List AV) : Bool := a env F (cv4 cl n h k f x c)
noncomputable def cv0 (cl : ClC) (a : GA) (env : List AV) (F : Fr) (n : Nat) (h : H) (k : KV) (v : AV) : Bool := dFn v (cv3 cl a env F n h k)
noncomputable def x_callv (g : G) (a : GA) (cl : ClC) (env : List AV) (F : Fr) (n : Nat) (h : H) (k : KV) : Bool := g env F (cv0 cl a env F n h k)
theorem x_call_ok {f : Nat} {a : GA} {l : List Opd} (ha : ∀ env F k, a env F k = oV (ovs env F l) k) : XOk (.call f l) (x_call f a) := by
  intro cl clc hc env F n h k
  show a env F (ca1 clc f n h k) = oRC (match ovs env F l with | some l => cl f l ⟨n, h⟩ | none => .no) k
  rw [ha]
  cases ovs env F l with
  | none => rfl
  | some l => exact hc f l n h k
theorem x_callv_ok {g : G} {o : Opd} {a : GA} {l : List Opd} (hg : GOk g o) (ha : ∀ env F k, a env F k = oV (ovs env F l) k) : XOk (.callv o l) (x_callv g a) := by
  intro cl clc hc env F n h k
  show g env F (cv0 clc a env F n h k) = oRC (match ov env F o, ovs env F l with | some v, some l => (match callee v with | some (f, first, captured) => cl f (first ++ l ++ captured) ⟨n, h⟩ | none => .no) | _, _ => .no) k
  rw [hg]
  cases ov env F o with
  | none => rfl
  | some v =>
    show cv0 clc a env F n h k v = _
    cases v with
    | fn f x c =>
      show a env F (cv4 clc n h k f x c) = _
      rw [ha]
      cases ovs env F l with
      | none => rfl
      | some l =>
        show appC x l (cv5 c (ca1 clc f n h k)) = oRC (cl f (x ++ l ++ c) ⟨n, h⟩) k
        rw [appC_eq]
        show appC (x ++ l) c (ca1 clc f n h k) = _
        rw [appC_eq]
        exact hc _ _ _ _ _
    | _ => cases ovs env F l <;> rfl
noncomputable def mf2 (f n : Nat) (h : H) (k : KV) (a b : List AV) : Bool := k (.fn f a b) n h
noncomputable def mf1 (f : Nat) (b : GA) (env : List AV) (F : Fr) (n : Nat) (h : H) (k : KV) (a : List AV) : Bool := b env F (mf2 f n h k a)
noncomputable def x_mkF (f : Nat) (a b : GA) (cl : ClC) (env : List AV) (F : Fr) (n : Nat) (h : H) (k : KV) : Bool := a env F (mf1 f b env F n h k)
theorem x_mkF_ok {f : Nat} {a b : GA} {l r : List Opd} (ha : ∀ env F k, a env F k = oV (ovs env F l) k) (hb : ∀ env F k, b env F k = oV (ovs env F r) k) : XOk (.mkF f l r) (x_mkF f a b) := by
  intro cl clc hc env F n h k
  show a env F (mf1 f b env F n h k) = oRC (match ovs env F l, ovs env F r with | some a, some b => .ok (.fn f a b) ⟨n, h⟩ | _, _ => .no) k
  rw [ha]
  cases ovs env F l with
  | none => rfl
  | some a =>
    show b env F (mf2 f n h k a) = _
    rw [hb]
    cases ovs env F r <;> rfl

/-! 'append'. -/
noncomputable def ap8 (v : AV) (n : Nat) (k : KV) (h : H) : Bool := k v n h
noncomputable def ap7 (v : AV) (b n : Nat) (h : H) (k : KV) (e s : Nat) (c : PT AV) : Bool := setC (some (.cells e s c)) h b (ap8 v n k)
noncomputable def ap6 (esz size need n : Nat) (k : KV) (c : PT AV) (h : H) : Bool := newC (.cells esz size c) (.slc n 0 need none) n h k
noncomputable def ap5 (esz size need b n : Nat) (h : H) (k : KV) (c : PT AV) : Bool := setC none h b (ap6 esz size need n k c)
/-- Known cells: size is how many there are; need the new length, ne its cells, le the old length's cells. -/
noncomputable def ap4 (esz b off size n : Nat) (h : H) (k : KV) (news : List AV) (c : PT AV) (slow : Bool) (need ne le : Nat) : Bool :=
  Bool.rec (motive := fun _ => Bool)
    (Bool.rec (motive := fun _ => Bool) slow (Bool.rec (motive := fun _ => Bool) false (storeC news c le (ap5 esz ne need b n h k)) (Nat.ble le size)) (Nat.beq off 0))
    (storeC news c (Nat.add off le) (ap7 (.slc b off need none) b n h k esz size)) (Nat.ble (Nat.add off ne) size)
noncomputable def ap3c (esz b off size n : Nat) (h : H) (k : KV) (news : List AV) (c : PT AV) (slow : Bool) (need ne : Nat) (le : Nat) : Bool := ap4 esz b off size n h k news c slow need ne le
noncomputable def ap3b (esz b off len size n : Nat) (h : H) (k : KV) (news : List AV) (c : PT AV) (slow : Bool) (need : Nat) (ne : Nat) : Bool := forceN (Nat.mul len esz) (ap3c esz b off size n h k news c slow need ne)
noncomputable def ap3a (esz b off len size n : Nat) (h : H) (k : KV) (news : List AV) (c : PT AV) (slow : Bool) (need : Nat) : Bool := forceN (Nat.mul need esz) (ap3b esz b off len size n h k news c slow need)
noncomputable def ap3 (esz cnt : Nat) (news : List AV) (b off len n : Nat) (h : H) (k : KV) (slow : Bool) (e s : Nat) (c : PT AV) : Bool :=
  Bool.rec (motive := fun _ => Bool) false (Bool.rec (motive := fun _ => Bool) false (forceN (Nat.add len cnt) (ap3a esz b off len s n h k news c slow)) (Nat.beq e esz)) (Nat.ble len 1000000)
noncomputable def slowA (esz : Nat) (s : AV) (cnt : Nat) (news : List AV) (n : Nat) (h : H) (k : KV) : Bool :=
  OR.rec (motive := fun _ => Bool) false (fun v S => forceV v fun v => St.rec (motive := fun _ => Bool) (fun n h => forceN n fun n => sC0 (fun h => k v n h) h) S) (doApp ⟨n, h⟩ esz s cnt news)
theorem slowA_eq (esz : Nat) (s : AV) (cnt : Nat) (news : List AV) (n : Nat) (h : H) (k : KV) : slowA esz s cnt news n h k = oRC (doApp ⟨n, h⟩ esz s cnt news) k := by
  unfold slowA
  cases doApp ⟨n, h⟩ esz s cnt news with
  | no => rfl
  | ok v S =>
    show forceV v _ = _
    rw [forceV_eq]
    cases S with | mk n h =>
    show forceN n _ = _
    rw [forceN_eq, sC0_eq]
    rfl
noncomputable def ap2 (esz cnt : Nat) (news : List AV) (n : Nat) (h : H) (k : KV) (b off len : Nat) (cap : Option Nat) : Bool :=
  Option.rec (motive := fun _ => Bool) (getC h b (cellB (ap3 esz cnt news b off len n h k (slowA esz (.slc b off len none) cnt news n h k)))) (fun c => slowA esz (.slc b off len (some c)) cnt news n h k) cap
noncomputable def ap1c (esz cnt sz n : Nat) (h : H) (k : KV) (c : PT AV) : Bool := newC (.cells esz sz c) (.slc n 0 cnt none) n h k
noncomputable def ap1b (esz cnt : Nat) (news : List AV) (n : Nat) (h : H) (k : KV) (sz : Nat) : Bool := storeC news .lf 0 (ap1c esz cnt sz n h k)
noncomputable def ap1n (esz cnt : Nat) (news : List AV) (n : Nat) (h : H) (k : KV) : Bool := Nat.rec (motive := fun _ => Bool) (k .nils n h) (fun _ _ => forceN (Nat.mul cnt esz) (ap1b esz cnt news n h k)) cnt
noncomputable def ap1 (esz : Nat) (s : AV) (cnt : Nat) (news : List AV) (n : Nat) (h : H) (k : KV) : Bool :=
  Bool.rec (motive := fun _ => Bool) false (allOneC news (dNS s (ap1n esz cnt news n h k) (ap2 esz cnt news n h k))) (Nat.ble cnt 1000000)

theorem dNS_no (v : AV) (y : Bool) (k : Nat → Nat → Nat → Option Nat → Bool) (h1 : v ≠ .nils) (h2 : ∀ b o l c, v ≠ .slc b o l c) : dNS v y k = false := by
  cases v <;> first | rfl | exact absurd rfl h1 | exact absurd rfl (h2 _ _ _ _)

theorem ap1_eq (esz : Nat) (s : AV) (cnt : Nat) (news : List AV) (n : Nat) (h : H) (k : KV) : ap1 esz s cnt news n h k = oRC (doApp ⟨n, h⟩ esz s cnt news) k := by
  unfold ap1
  rw [allOneC_eq]
  cases h1 : Nat.ble cnt 1000000 with
  | false => unfold doApp; simp only [h1]; rfl
  | true =>
    cases h2 : allOne news with
    | false => unfold doApp; simp only [h1, h2]; rfl
    | true =>
      show dNS s _ _ = _
      cases s with
      | nils =>
        show ap1n esz cnt news n h k = _
        unfold doApp ap1n
        simp only [h1, h2]
        cases cnt with
        | zero => rfl
        | succ m =>
          show storeC news .lf 0 (ap1c esz (m + 1) (Nat.mul (m + 1) esz) n h k) = _
          rw [storeC_eq]
          exact newC_eq (.cells esz (Nat.mul (m + 1) esz) (ofList news)) (fun b => .slc b 0 (m + 1) none) n h k
      | slc b off len cap =>
        cases cap with
        | some c => exact slowA_eq esz (.slc b off len (some c)) cnt news n h k
        | none =>
          show getC h b _ = _
          have hslow := slowA_eq esz (.slc b off len none) cnt news n h k
          rw [getC_eq, hslow]
          clear hslow
          unfold doApp
          simp only [h1, h2]
          show oV (h.get b) _ = oRC (match h.get b, Nat.ble len 1000000 with | some (.cells e size c), true => _ | _, _ => .no) k
          cases hb : h.get b with
          | none => rfl
          | some blk => cases blk with
            | map es => rfl
            | cells e size c =>
              show Bool.rec (motive := fun _ => Bool) false (Bool.rec (motive := fun _ => Bool) false _ (Nat.beq e esz)) (Nat.ble len 1000000) = _
              cases Nat.ble len 1000000 with
              | false => rfl
              | true =>
                dsimp only
                cases he : Nat.beq e esz with
                | false => rfl
                | true =>
                  have he' := Nat.eq_of_beq_eq_true he
                  subst he'
                  show ap4 e b off size n h k news c _ (Nat.add len cnt) (Nat.mul (Nat.add len cnt) e) (Nat.mul len e) = _
                  unfold ap4
                  rw [storeC_eq, storeC_eq]
                  dsimp only
                  cases Nat.ble (Nat.add off (Nat.mul (Nat.add len cnt) e)) size with
                  | true =>
                    show ap7 _ b n h k e size _ = _
                    unfold ap7
                    rw [setC_eq]
                    simp only [PT.force_eq]
                    rfl
                  | false =>
                    cases h5 : Nat.beq off 0 with
                    | false => rfl
                    | true =>
                      cases Nat.ble (Nat.mul len e) size with
                      | false => rfl
                      | true =>
                        show setC none h b _ = _
                        rw [setC_eq]
                        exact newC_eq (.cells e (Nat.mul (Nat.add len cnt) e) (storeN news c (Nat.mul len e))) (fun b' => .slc b' 0 (Nat.add len cnt) none) n (PT.set none h b) k
      | _ => unfold doApp; simp only [h1, h2]; rfl

noncomputable def ao4 (esz : Nat) (s : AV) (cnt n : Nat) (h : H) (k : KV) (news : List AV) : Bool := ap1 esz s cnt news n h k
noncomputable def ao3 (esz : Nat) (s : AV) (off cnt n : Nat) (h : H) (k : KV) (e z : Nat) (c : PT AV) : Bool := loadC c (Nat.mul cnt esz) off (ao4 esz s cnt n h k)
noncomputable def ao2 (esz : Nat) (s : AV) (n : Nat) (h : H) (k : KV) (b off len : Nat) (cap : Option Nat) : Bool := getC h b (cellB (ao3 esz s off len n h k))
noncomputable def ao1 (esz n : Nat) (h : H) (k : KV) (s x : AV) : Bool := dNS x (ap1 esz s 0 [] n h k) (ao2 esz s n h k)
noncomputable def ao0 (esz : Nat) (gx : G) (env : List AV) (F : Fr) (n : Nat) (h : H) (k : KV) (s : AV) : Bool := gx env F (ao1 esz n h k s)
noncomputable def x_app (esz : Nat) (gs gx : G) (cl : ClC) (env : List AV) (F : Fr) (n : Nat) (h : H) (k : KV) : Bool := gs env F (ao0 esz gx env F n h k)
theorem x_app_ok {esz : Nat} {gs gx : G} {s x : Opd} (hs : GOk gs s) (hg : GOk gx x) : XOk (.app esz s x) (x_app esz gs gx) := by
  intro cl clc hc env F n h k
  show gs env F (ao0 esz gx env F n h k) = oRC (match ov env F s, ov env F x with | some s, some x => (match lenOf x with | some n' => (match sliceCells ⟨n, h⟩ esz n' x with | some news => doApp ⟨n, h⟩ esz s n' news | none => .no) | none => .no) | _, _ => .no) k
  rw [hs]
  cases ov env F s with
  | none => rfl
  | some s =>
    show gx env F (ao1 esz n h k s) = _
    rw [hg]
    cases ov env F x with
    | none => rfl
    | some x =>
      show dNS x (ap1 esz s 0 [] n h k) (ao2 esz s n h k) = oRC (match lenOf x with | some n' => (match sliceCells ⟨n, h⟩ esz n' x with | some news => doApp ⟨n, h⟩ esz s n' news | none => .no) | none => .no) k
      cases x with
      | nils => exact ap1_eq esz s 0 [] n h k
      | slc b off len cap =>
        show getC h b (cellB (ao3 esz s off len n h k)) = oRC (match (match h.get b with | some (.cells _ _ c) => loadN c (Nat.mul len esz) off | _ => none) with | some news => doApp ⟨n, h⟩ esz s len news | none => .no) k
        rw [getC_eq]
        cases h.get b with
        | none => rfl
        | some blk => cases blk with
          | map es => rfl
          | cells e z c =>
            show loadC c (Nat.mul len esz) off (ao4 esz s len n h k) = oRC (match loadN c (Nat.mul len esz) off with | some news => doApp ⟨n, h⟩ esz s len news | none => .no) k
            rw [loadC_eq]
            cases loadN c (Nat.mul len esz) off with
            | none => rfl
            | some news => exact ap1_eq esz s len news n h k
      | _ => rfl

/-! The rest: as AvB does it. -/
def plainX : AX → Bool
  | .call .. => false
  | .callv .. => false
  | _ => true
noncomputable def nocl0 : Clo := fun _ _ _ => .no
theorem aop_nocl {x : AX} (hx : plainX x = true) (cl : Clo) (env : List AV) (F : Fr) (S : St) : aop cl env F S x = aop nocl0 env F S x := by
  cases x <;> first | rfl | cases hx
noncomputable def ge1 (k : KV) (v : AV) (n : Nat) (h : H) : Bool := k v n h
noncomputable def ge2 (k : KV) (v : AV) (h : H) (n : Nat) : Bool := sC0 (ge1 k v n) h
noncomputable def ge3 (k : KV) (v : AV) (n : Nat) (h : H) : Bool := forceN n (ge2 k v h)
noncomputable def ge4 (k : KV) (S : St) (v : AV) : Bool := St.rec (motive := fun _ => Bool) (ge3 k v) S
noncomputable def ge5 (k : KV) (v : AV) (S : St) : Bool := forceV v (ge4 k S)
noncomputable def x_gen (x : AX) (cl : ClC) (env : List AV) (F : Fr) (n : Nat) (h : H) (k : KV) : Bool := OR.rec (motive := fun _ => Bool) false (ge5 k) (aop nocl0 env F ⟨n, h⟩ x)
theorem x_gen_ok {x : AX} (hx : plainX x = true) : XOk x (x_gen x) := by
  intro cl clc hc env F n h k
  unfold x_gen
  rw [aop_nocl hx cl]
  cases aop nocl0 env F ⟨n, h⟩ x with
  | no => rfl
  | ok v S =>
    show forceV v (ge4 k S) = _
    rw [forceV_eq]
    cases S with | mk n h =>
    show forceN n (ge2 k v h) = _
    rw [forceN_eq]
    show sC0 (ge1 k v n) h = _
    rw [sC0_eq]
    rfl
noncomputable def x_no (cl : ClC) (env : List AV) (F : Fr) (n : Nat) (h : H) (k : KV) : Bool := false
end Go.Av
