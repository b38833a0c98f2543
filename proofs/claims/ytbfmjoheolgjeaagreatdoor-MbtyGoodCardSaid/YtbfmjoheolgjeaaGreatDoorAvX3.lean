/- The evaluator in continuation style: regions, code, calls; a run that says true is a run of AvB's. -/
import Derived.Test.YtbfmjoheolgjeaaGreatDoorAvX2
set_option linter.unusedVariables false
set_option linter.unusedSimpArgs false
namespace Go.Av

noncomputable def onG (b : GB) (f : G → XB) : XB := GB.rec (motive := fun _ => XB) f b
theorem onG_eq (b : GB) (f : G → XB) : onG b f = f b.run := by cases b; rfl
noncomputable def onA (b : GAB) (f : GA → XB) : XB := GAB.rec (motive := fun _ => XB) f b
theorem onA_eq (b : GAB) (f : GA → XB) : onA b f = f b.run := by cases b; rfl
noncomputable def onD (b : DB) (f : D2 → XB) : XB := DB.rec (motive := fun _ => XB) f b
theorem onD_eq (b : DB) (f : D2 → XB) : onD b f = f b.run := by cases b; rfl
noncomputable def onT {α : Type} (t : PT AV) (f : PT AV → α) : α := PT.rec (motive := fun _ => α) (f .lf) (fun v l r _ _ => f (.nd v l r)) t
theorem onT_eq {α : Type} (t : PT AV) (f : PT AV → α) : onT t f = f t := by cases t <;> rfl

def isCst : Opd → Bool
  | .cst _ => true
  | _ => false

noncomputable def compX : AX → XB
  | .mov x => onG (compO x) fun g => .mk (x_un d_mov g)
  | .pick c a b => onG (compO c) fun gc => onG (compO a) fun ga => onG (compO b) fun gb => .mk (x_pick gc ga gb)
  | .bin op x y => onG (compO x) fun gx => onG (compO y) fun gy => onD (compB op) fun d => .mk (x_bi d gx gy)
  | .sbin op x y => onG (compO x) fun gx => onG (compO y) fun gy => .mk (x_bi (d_sbin op) gx gy)
  | .eqv tag neg x y => onG (compO x) fun gx => onG (compO y) fun gy => .mk (x_bi (d_eqv tag neg) gx gy)
  | .not x => onG (compO x) fun g => .mk (x_un d_not g)
  | .conv k x => onG (compO x) fun g => .mk (x_un (d_conv k) g)
  | .s2s x => onG (compO x) fun g => .mk (x_un d_s2s g)
  | .alloc z => onT (ofList z) fun c => .mk (x_blkP (.cells 0 z.length c))
  | .box n x => onG (compO x) fun g => .mk (x_box n g)
  | .build z ps => .mk (x_build z ps)
  | .bslice esz len z ps => match ps.all fun p => isCst p.2.2 with
    | true => match fillA [] .lf z ps with
      | some l => onT (ofList l) fun c => .mk (x_blkS (.cells esz l.length c) len)
      | none => .mk x_no
    | false => .mk (x_bslice esz len z ps)
  | .load none x => onG (compO x) fun g => .mk (x_load g)
  | .load (some m) x => onG (compO x) fun g => .mk (x_loadA m g)
  | .store m a x => onG (compO a) fun ga => onG (compO x) fun gx => .mk (x_store m ga gx)
  | .nilc x => onG (compO x) fun g => .mk (x_un d_nilc g)
  | .faddr off x => onG (compO x) fun g => .mk (x_un (d_faddr off) g)
  | .fld off none x => onG (compO x) fun g => .mk (x_un (d_fld1 off) g)
  | .fld off (some n) x => onG (compO x) fun g => .mk (x_un (d_fldN off n) g)
  | .iaddr esz x i => onG (compO x) fun gx => onG (compO i) fun gi => .mk (x_bi (d_iaddr esz) gx gi)
  | .idxS x i => onG (compO x) fun gx => onG (compO i) fun gi => .mk (x_bi d_idxS gx gi)
  | .mkI t x => onG (compO x) fun g => .mk (x_un (d_mkI t) g)
  | .mkF f a b => onA (compA a) fun ga => onA (compA b) fun gb => .mk (x_mkF f ga gb)
  | .ext i x => onG (compO x) fun g => .mk (x_un (d_ext i) g)
  | .lenS x => onG (compO x) fun g => .mk (x_un d_lenS g)
  | .lenL x => onG (compO x) fun g => .mk (x_un d_lenL g)
  | .app esz s x => onG (compO s) fun gs => onG (compO x) fun gx => .mk (x_app esz gs gx)
  | .call f args => onA (compA args) fun ga => .mk (x_call f ga)
  | .callv x args => onG (compO x) fun g => onA (compA args) fun ga => .mk (x_callv g ga)
  | .bad => .mk x_no
  | x => .mk (x_gen x)

theorem fillA_cst : ∀ (ps : List (Nat × Nat × Opd)) (z : List AV), (ps.all fun p => isCst p.2.2) = true → ∀ env F, fillA env F z ps = fillA [] .lf z ps := by
  intro ps
  induction ps with
  | nil => intro z _ env F; rfl
  | cons p ps ih =>
    intro z h env F
    simp only [List.all_cons, Bool.and_eq_true] at h
    obtain ⟨o1, o2, o3⟩ := p
    cases o3 with
    | loc i => cases h.1
    | var t => cases h.1
    | cst v =>
      show (match Nat.beq (cellsOf v).length o2, Nat.ble (o1 + o2) z.length with | true, true => fillA env F (putAt z o1 (cellsOf v)) ps | _, _ => none) = (match Nat.beq (cellsOf v).length o2, Nat.ble (o1 + o2) z.length with | true, true => fillA [] .lf (putAt z o1 (cellsOf v)) ps | _, _ => none)
      rw [ih _ h.2]

theorem x_alloc_ok (z : List AV) : XOk (.alloc z) (x_blkP (.cells 0 z.length (ofList z))) := by
  intro cl clc hc env F n h k
  exact newC_eq (.cells 0 z.length (ofList z)) (fun b => .ptr b 0) n h k

theorem okS_match (S : St) (o : Option AV) : okS S o = (match o with | some v => .ok v S | none => .no) := by cases o <;> rfl

theorem compX_ok (x : AX) : XOk x (compX x).run := by
  cases x with
  | mov x =>
    simp only [compX, onG_eq, onA_eq, onD_eq]
    exact x_un_ok some (compO_ok x) (fun _ _ => rfl) (fun cl env F S => by
      show okS S (ov env F x) = _
      cases ov env F x <;> rfl)
  | pick c a b =>
    simp only [compX, onG_eq, onA_eq, onD_eq]
    exact x_pick_ok (compO_ok c) (compO_ok a) (compO_ok b)
  | bin op x y =>
    simp only [compX, onG_eq, onA_eq, onD_eq]
    exact x_bi_ok (doBin op) (compO_ok x) (compO_ok y) (compB_ok op) (fun cl env F S => rfl)
  | sbin op x y =>
    simp only [compX, onG_eq, onA_eq, onD_eq]
    exact x_bi_ok (doSBin op) (compO_ok x) (compO_ok y) (fun a b K => optF_eq _ _) (fun cl env F S => rfl)
  | eqv tag neg x y =>
    simp only [compX, onG_eq, onA_eq, onD_eq]
    exact x_bi_ok _ (compO_ok x) (compO_ok y) (d_eqv_eq tag neg) (fun cl env F S => by
      show (match ov env F x, ov env F y with | some a, some b => (match doEq tag a b with | some t => OR.ok (.bool (match neg with | true => !t | false => t)) S | none => .no) | _, _ => .no) = _
      cases ov env F x with
      | none => rfl
      | some a => cases ov env F y with
        | none => rfl
        | some b =>
          dsimp only
          cases doEq tag a b <;> rfl)
  | not x =>
    simp only [compX, onG_eq, onA_eq, onD_eq]
    exact x_un_ok (fun | .bool b => some (.bool (!b)) | _ => none) (compO_ok x) (fun a K => by cases a <;> first | rfl | exact kNB_eq K _) (fun cl env F S => by
      show (match ov env F x with | some (.bool b) => OR.ok (.bool (!b)) S | _ => .no) = _
      cases ov env F x with
      | none => rfl
      | some a => cases a <;> rfl)
  | neg x => exact x_gen_ok rfl
  | conv k x =>
    simp only [compX, onG_eq, onA_eq, onD_eq]
    exact x_un_ok (fun | .int _ n => some (.int k (wrapF k n)) | _ => none) (compO_ok x) (fun a K => by
      cases a <;> try rfl
      rename_i k' n
      cases n with
      | ofNat m => exact fw_eq k K m
      | negSucc m => exact forceV_eq (.int k (wrapF k (.negSucc m))) K) (fun cl env F S => by
      show (match ov env F x with | some (.int _ n) => OR.ok (.int k (wrapF k n)) S | _ => .no) = _
      cases ov env F x with
      | none => rfl
      | some a => cases a <;> rfl)
  | s2s x =>
    simp only [compX, onG_eq, onA_eq, onD_eq]
    exact x_un_ok (fun | .str l n => some (.str l n) | _ => none) (compO_ok x) (fun a K => by cases a <;> rfl) (fun cl env F S => by
      show (match ov env F x with | some (.str l n) => OR.ok (.str l n) S | _ => .no) = _
      cases ov env F x with
      | none => rfl
      | some a => cases a <;> rfl)
  | b2s x => exact x_gen_ok rfl
  | alloc z =>
    show XOk _ (onT (ofList z) fun c => XB.mk (x_blkP (.cells 0 z.length c))).run
    rw [onT_eq]
    exact x_alloc_ok z
  | box n x =>
    simp only [compX, onG_eq, onA_eq, onD_eq]
    exact x_box_ok (compO_ok x)
  | build z ps => exact x_build_ok z ps
  | bslice esz len z ps =>
    show XOk _ (match ps.all fun p => isCst p.2.2 with
      | true => match fillA [] .lf z ps with
        | some l => onT (ofList l) fun c => XB.mk (x_blkS (.cells esz l.length c) len)
        | none => .mk x_no
      | false => .mk (x_bslice esz len z ps)).run
    cases hc : ps.all fun p => isCst p.2.2 with
    | false => exact x_bslice_ok esz len z ps
    | true =>
      have hf := fillA_cst ps z hc
      dsimp only
      cases hl : fillA [] .lf z ps with
      | none =>
        intro cl clc hcl env F n h k
        show false = oRC (match fillA env F z ps with | some l => doAlloc ⟨n, h⟩ esz l fun b => .slc b 0 len (some len) | none => .no) k
        rw [hf, hl]
        rfl
      | some l =>
        intro cl clc hcl env F n h k
        show (onT (ofList l) fun c => XB.mk (x_blkS (.cells esz l.length c) len)).run clc env F n h k = oRC (match fillA env F z ps with | some l => doAlloc ⟨n, h⟩ esz l fun b => .slc b 0 len (some len) | none => .no) k
        rw [hf, hl, onT_eq]
        exact newC_eq (.cells esz l.length (ofList l)) (fun b => .slc b 0 len (some len)) n h k
  | load n x =>
    cases n with
    | none =>
      simp only [compX, onG_eq, onA_eq, onD_eq]
      exact x_load_ok (compO_ok x)
    | some m =>
      simp only [compX, onG_eq, onA_eq, onD_eq]
      exact x_loadA_ok (compO_ok x)
  | store m a x =>
    simp only [compX, onG_eq, onA_eq, onD_eq]
    exact x_store_ok (compO_ok a) (compO_ok x)
  | nilc x =>
    simp only [compX, onG_eq, onA_eq, onD_eq]
    exact x_un_ok (fun | .ptr b o => some (.ptr b o) | .fn f a b => some (.fn f a b) | _ => none) (compO_ok x) (fun a K => by cases a <;> rfl) (fun cl env F S => by
      show (match ov env F x with | some (.ptr b o) => OR.ok (.ptr b o) S | some (.fn f a b) => .ok (.fn f a b) S | _ => .no) = _
      cases ov env F x with
      | none => rfl
      | some a => cases a <;> rfl)
  | faddr off x =>
    simp only [compX, onG_eq, onA_eq, onD_eq]
    exact x_un_ok (fun | .ptr b o => some (.ptr b (Nat.add o off)) | _ => none) (compO_ok x) (fun a K => by cases a <;> rfl) (fun cl env F S => by
      show (match ov env F x with | some (.ptr b o) => OR.ok (.ptr b (Nat.add o off)) S | _ => .no) = _
      cases ov env F x with
      | none => rfl
      | some a => cases a <;> rfl)
  | fld off n x =>
    cases n with
    | none =>
      simp only [compX, onG_eq, onA_eq, onD_eq]
      exact x_un_ok (fun | .agg l => nthO l off | _ => none) (compO_ok x) (fun a K => by cases a <;> first | rfl | exact nthC_eq _ _ _) (fun cl env F S => by
        show (match ov env F x with | some (.agg l) => okS S (partA l off none) | _ => .no) = _
        cases ov env F x with
        | none => rfl
        | some a => cases a <;> rfl)
    | some m =>
      simp only [compX, onG_eq, onA_eq, onD_eq]
      refine x_un_ok (fun | .agg l => partA l off (some m) | _ => none) (compO_ok x) (fun a K => ?_) (fun cl env F S => ?_)
      · cases a <;> try rfl
        rename_i l
        show Bool.rec (motive := fun _ => Bool) false (forceL ((l.drop off).take m) (fl3 K)) (Nat.ble (off + m) l.length) = oV (match Nat.ble (off + m) l.length with | true => some (.agg ((l.drop off).take m)) | false => none) K
        cases Nat.ble (off + m) l.length with
        | false => rfl
        | true => exact forceL_eq _ _
      · show (match ov env F x with | some (.agg l) => okS S (partA l off (some m)) | _ => .no) = _
        cases ov env F x with
        | none => rfl
        | some a => cases a <;> rfl
  | iaddr esz x i =>
    simp only [compX, onG_eq, onA_eq, onD_eq]
    exact x_bi_ok (f_iaddr esz) (compO_ok x) (compO_ok i) (d_iaddr_eq esz) (fun cl env F S => by
      show (match ov env F x, ov env F i with | some (.slc b off len _), some (.int _ (.ofNat n)) => (match Nat.ble (Nat.succ n) len with | true => OR.ok (.ptr b (Nat.add off (Nat.mul n esz))) S | false => .no) | _, _ => .no) = _
      cases ov env F x with
      | none => rfl
      | some a => cases ov env F i with
        | none => cases a <;> rfl
        | some b =>
          cases a <;> try rfl
          cases b <;> try rfl
          rename_i b off len c k n
          cases n with
          | negSucc m => rfl
          | ofNat n =>
            show (match Nat.ble (Nat.succ n) len with | true => OR.ok (.ptr b (Nat.add off (Nat.mul n esz))) S | false => .no) = okS S (match Nat.ble (Nat.succ n) len with | true => some (.ptr b (Nat.add off (Nat.mul n esz))) | false => none)
            cases Nat.ble (Nat.succ n) len <;> rfl)
  | idxS x i =>
    simp only [compX, onG_eq, onA_eq, onD_eq]
    exact x_bi_ok f_idxS (compO_ok x) (compO_ok i) d_idxS_eq (fun cl env F S => by
      show (match ov env F x, ov env F i with | some (.str l m), some (.int _ (.ofNat n)) => (match Nat.ble (Nat.succ n) l with | true => OR.ok (.int .u8 (.ofNat (Nat.mod (Nat.div m (Nat.pow 256 n)) 256))) S | false => .no) | _, _ => .no) = _
      cases ov env F x with
      | none => rfl
      | some a => cases ov env F i with
        | none => cases a <;> rfl
        | some b =>
          cases a <;> try rfl
          cases b <;> try rfl
          rename_i l m k n
          cases n with
          | negSucc m => rfl
          | ofNat n =>
            show (match Nat.ble (Nat.succ n) l with | true => OR.ok (.int .u8 (.ofNat (Nat.mod (Nat.div m (Nat.pow 256 n)) 256))) S | false => .no) = okS S (match Nat.ble (Nat.succ n) l with | true => some (.int .u8 (.ofNat (Nat.mod (Nat.div m (Nat.pow 256 n)) 256))) | false => none)
            cases Nat.ble (Nat.succ n) l <;> rfl)
  | slcS x lo hi => exact x_gen_ok rfl
  | slcL esz x lo hi mx => exact x_gen_ok rfl
  | mkS esz z len cap => exact x_gen_ok rfl
  | mkI t x =>
    simp only [compX, onG_eq, onA_eq, onD_eq]
    exact x_un_ok (fun a => some (.ifc t a)) (compO_ok x) (fun a K => rfl) (fun cl env F S => by
      show (match ov env F x with | some v => OR.ok (.ifc t v) S | none => .no) = _
      cases ov env F x <;> rfl)
  | mkF f a b =>
    simp only [compX, onG_eq, onA_eq, onD_eq]
    exact x_mkF_ok (compA_ok a) (compA_ok b)
  | mkM => exact x_gen_ok rfl
  | look ok z m k => exact x_gen_ok rfl
  | upd m k v => exact x_gen_ok rfl
  | ext i x =>
    simp only [compX, onG_eq, onA_eq, onD_eq]
    exact x_un_ok (fun | .tup l => nthO l i | _ => none) (compO_ok x) (fun a K => by cases a <;> first | rfl | exact nthC_eq _ _ _) (fun cl env F S => by
      show (match ov env F x with | some (.tup l) => okS S (nthO l i) | _ => .no) = _
      cases ov env F x with
      | none => rfl
      | some a => cases a <;> rfl)
  | lenS x =>
    simp only [compX, onG_eq, onA_eq, onD_eq]
    exact x_un_ok (fun | .str l _ => some (.int .i64 (.ofNat l)) | _ => none) (compO_ok x) (fun a K => by cases a <;> rfl) (fun cl env F S => by
      show (match ov env F x with | some (.str l _) => OR.ok (.int .i64 (.ofNat l)) S | _ => .no) = _
      cases ov env F x with
      | none => rfl
      | some a => cases a <;> rfl)
  | lenL x =>
    simp only [compX, onG_eq, onA_eq, onD_eq]
    exact x_un_ok (fun | .nils => some (.int .i64 (.ofNat 0)) | .slc _ _ l _ => some (.int .i64 (.ofNat l)) | _ => none) (compO_ok x) (fun a K => by cases a <;> rfl) (fun cl env F S => by
      show (match ov env F x with | some .nils => OR.ok (.int .i64 (.ofNat 0)) S | some (.slc _ _ len _) => .ok (.int .i64 (.ofNat len)) S | _ => .no) = _
      cases ov env F x with
      | none => rfl
      | some a => cases a <;> rfl)
  | app esz s x =>
    simp only [compX, onG_eq, onA_eq, onD_eq]
    exact x_app_ok (compO_ok s) (compO_ok x)
  | appS s x => exact x_gen_ok rfl
  | appZ esz z s n => exact x_gen_ok rfl
  | cpy esz d s => exact x_gen_ok rfl
  | max x y => exact x_gen_ok rfl
  | min x y => exact x_gen_ok rfl
  | call f args =>
    simp only [compX, onG_eq, onA_eq, onD_eq]
    exact x_call_ok (compA_ok args)
  | callv x args =>
    simp only [compX, onG_eq, onA_eq, onD_eq]
    exact x_callv_ok (compO_ok x) (compA_ok args)
  | bad => exact fun cl clc hc env F n h k => rfl
  | eqs neg fs x y => exact x_gen_ok rfl
  | clr esz z x => exact x_gen_ok rfl
  | capL x => exact x_gen_ok rfl
  | iaddrA len esz x i => exact x_gen_ok rfl
  | slcA n esz x lo hi mx => exact x_gen_ok rfl
  | bnil esz => exact x_gen_ok rfl
end Go.Av
