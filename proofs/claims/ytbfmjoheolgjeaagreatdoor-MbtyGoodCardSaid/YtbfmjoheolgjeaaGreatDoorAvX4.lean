/- The evaluator in continuation style: regions, code, calls; a run that says true is a run of AvB's. -/
import Derived.Test.YtbfmjoheolgjeaaGreatDoorAvX3
set_option linter.unusedVariables false
namespace Go.Av

/-! One operation of a region: where its value goes; its guard. -/
abbrev OF := ClC → KE → KE
inductive OB where | mk (o : OF)
def OB.run : OB → OF | .mk o => o
noncomputable def pk (ke : KE) (env : List AV) (F : Fr) (v : AV) (n : Nat) (h : H) : Bool := ke (v :: env) F n h
noncomputable def o_push (x : XF) (cl : ClC) (ke : KE) (env : List AV) (F : Fr) (n : Nat) (h : H) : Bool := x cl env F n h (pk ke env F)
noncomputable def vk2 (ke : KE) (env : List AV) (n : Nat) (h : H) (F : Fr) : Bool := ke env F n h
noncomputable def vk (s : SF) (ke : KE) (env : List AV) (F : Fr) (v : AV) (n : Nat) (h : H) : Bool := s v F (vk2 ke env n h)
noncomputable def o_var (s : SF) (x : XF) (cl : ClC) (ke : KE) (env : List AV) (F : Fr) (n : Nat) (h : H) : Bool := x cl env F n h (vk s ke env F)
noncomputable def dk (ke : KE) (env : List AV) (F : Fr) (v : AV) (n : Nat) (h : H) : Bool := ke env F n h
noncomputable def o_drop (x : XF) (cl : ClC) (ke : KE) (env : List AV) (F : Fr) (n : Nat) (h : H) : Bool := x cl env F n h (dk ke env F)
noncomputable def mkDst (d : Dst) (x : XF) : OB :=
  Dst.rec (motive := fun _ => OB) (.mk (o_push x)) (fun t => SB.rec (motive := fun _ => OB) (fun s => .mk (o_var s x)) (pathS (Nat.succ t) t)) (.mk (o_drop x)) d

noncomputable def putR (d : Dst) (ih : List AV → Fr → St → XR) (env : List AV) (F : Fr) (r : OR) : XR := match r with | .ok v S' => putD d v env F fun env F => ih env F S' | .no => .no
theorem mkDst_ok (d : Dst) {x : XF} {clc : ClC} {ih : List AV → Fr → St → XR} {ke : KE} {kn : KF} {kx : KX} {kr : KF} (hk : ∀ env F n h, ke env F n h = xRC (ih env F ⟨n, h⟩) kn kx kr)
    {env : List AV} {F : Fr} {n : Nat} {h : H} (r : OR) (hx : ∀ k, x clc env F n h k = oRC r k) :
    (mkDst d x).run clc ke env F n h = xRC (putR d ih env F r) kn kx kr := by
  cases d with
  | push =>
    show x clc env F n h (pk ke env F) = _
    rw [hx]
    cases r with
    | no => rfl
    | ok v S' => exact hk _ _ _ _
  | drop =>
    show x clc env F n h (dk ke env F) = _
    rw [hx]
    cases r with
    | no => rfl
    | ok v S' => exact hk _ _ _ _
  | var t =>
    have hs := pathS_ok (t + 1) t (Nat.lt_succ_self t)
    show (SB.rec (motive := fun _ => OB) (fun s => .mk (o_var s x)) (pathS (t + 1) t)).run clc ke env F n h = _
    revert hs
    cases pathS (t + 1) t with | mk s =>
    intro hs
    show x clc env F n h (vk s ke env F) = _
    rw [hx]
    cases r with
    | no => rfl
    | ok v S' =>
      show s v F (vk2 ke env S'.next S'.heap) = xRC (PT.force (fun F' => ih env F' S') (PT.set (some v) F t)) kn kx kr
      rw [PT.force_eq]
      exact (hs v F _).trans (hk _ _ _ _)

noncomputable def x_tup (cl : ClC) (env : List AV) (F : Fr) (n : Nat) (h : H) (k : KV) : Bool := k (.tup []) n h
noncomputable def og2 (t : Bool) (yes no : Bool) (b : Bool) : Bool := Bool.rec (motive := fun _ => Bool) (Bool.rec (motive := fun _ => Bool) yes no t) (Bool.rec (motive := fun _ => Bool) no yes t) b
noncomputable def og1 (t : Bool) (yes no : Bool) (v : AV) : Bool := dBoolD v (og2 t yes no) no
noncomputable def o_grd (g : G) (t : Bool) (a b : OF) (cl : ClC) (ke : KE) (env : List AV) (F : Fr) (n : Nat) (h : H) : Bool := g env F (og1 t (a cl ke env F n h) (b cl ke env F n h))
noncomputable def mkGrd (g : GB) (t : Bool) (a b : OB) : OB := GB.rec (motive := fun _ => OB) (fun g => OB.rec (motive := fun _ => OB) (fun a => OB.rec (motive := fun _ => OB) (fun b => .mk (o_grd g t a b)) b) a) g
theorem og1_eq (env : List AV) (F : Fr) (o : Opd) (t : Bool) (yes no : Bool) : oV (ov env F o) (og1 t yes no) = (match wantA env F (some (o, t)) with | some true => yes | some false => no | none => false) := by
  show _ = (match (match ov env F o with | some (.bool b) => some (Bool.rec (!t) t b : Bool) | some _ => some false | none => none) with | some true => yes | some false => no | none => false)
  cases ov env F o with
  | none => rfl
  | some v => cases v <;> try rfl
              rename_i b
              cases b <;> cases t <;> rfl

noncomputable def onX (b : XB) (f : XF → OB) : OB := XB.rec (motive := fun _ => OB) f b
theorem onX_eq (b : XB) (f : XF → OB) : onX b f = f b.run := by cases b; rfl
noncomputable def compOp (o : AOp) : OB :=
  AOp.rec (motive := fun _ => OB) (fun dst guard x _ _ _ => Option.rec (motive := fun _ => OB) (onX (compX x) (mkDst dst)) (fun p => mkGrd (compO p.1) p.2 (onX (compX x) (mkDst dst)) (mkDst dst x_tup)) guard) o

theorem compOp_ok (o : AOp) {cl : Clo} {clc : ClC} (hc : ∀ f l n h k, clc f l n h k = oRC (cl f l ⟨n, h⟩) k) {ih : List AV → Fr → St → XR} {ke : KE} {kn : KF} {kx : KX} {kr : KF}
    (hk : ∀ env F n h, ke env F n h = xRC (ih env F ⟨n, h⟩) kn kx kr) (env : List AV) (F : Fr) (n : Nat) (h : H) : (compOp o).run clc ke env F n h = xRC (opS cl o ih env F ⟨n, h⟩) kn kx kr := by
  obtain ⟨dst, guard, x, bf, ch, fl⟩ := o
  have h1 := mkDst_ok dst hk (aop cl env F ⟨n, h⟩ x) (fun k => compX_ok x cl clc hc env F n h k)
  cases guard with
  | none =>
    show (onX (compX x) (mkDst dst)).run clc ke env F n h = _
    rw [onX_eq, h1]
    rfl
  | some p =>
    obtain ⟨o, t⟩ := p
    have h2 := mkDst_ok (x := x_tup) (clc := clc) dst hk (env := env) (F := F) (n := n) (h := h) (.ok (.tup []) ⟨n, h⟩) (fun k => rfl)
    show (mkGrd (compO o) t (onX (compX x) (mkDst dst)) (mkDst dst x_tup)).run clc ke env F n h = xRC (match wantA env F (some (o, t)) with | some true => _ | some false => _ | none => _) kn kx kr
    rw [onX_eq]
    have h3 := compO_ok o env F (og1 t ((mkDst dst (compX x).run).run clc ke env F n h) ((mkDst dst x_tup).run clc ke env F n h))
    have h4 : (mkGrd (compO o) t (mkDst dst (compX x).run) (mkDst dst x_tup)).run clc ke env F n h = (compO o).run env F (og1 t ((mkDst dst (compX x).run).run clc ke env F n h) ((mkDst dst x_tup).run clc ke env F n h)) := by
      cases compO o; cases mkDst dst (compX x).run; cases mkDst dst x_tup; rfl
    rw [h4, h3, og1_eq, h1, h2]
    cases wantA env F (some (o, t)) with
    | none => rfl
    | some b => cases b <;> rfl

/-! Regions in the text's order. -/
abbrev RF := ClC → KF → KE
inductive RB where | mk (r : RF)
def RB.run : RB → RF | .mk r => r
noncomputable def r_nil (cl : ClC) (kf : KF) (env : List AV) (F : Fr) (n : Nat) (h : H) : Bool := kf F n h
noncomputable def r_cons (o : OF) (r : RF) (cl : ClC) (kf : KF) (env : List AV) (F : Fr) (n : Nat) (h : H) : Bool := o cl (r cl kf) env F n h
noncomputable def rCons (o : OB) (r : RB) : RB := OB.rec (motive := fun _ => RB) (fun o => RB.rec (motive := fun _ => RB) (fun r => .mk (r_cons o r)) r) o
noncomputable def compR (ops : List AOp) : RB := List.rec (motive := fun _ => RB) (.mk r_nil) (fun o _ ih => rCons (compOp o) ih) ops
theorem compR_ok {cl : Clo} {clc : ClC} (hc : ∀ f l n h k, clc f l n h k = oRC (cl f l ⟨n, h⟩) k) (kn : KF) (kx : KX) (kr : KF) : ∀ (ops : List AOp) (env : List AV) (F : Fr) (n : Nat) (h : H),
    (compR ops).run clc kn env F n h = xRC (ropsX cl ops env F ⟨n, h⟩) kn kx kr := by
  intro ops
  induction ops with
  | nil => intro env F n h; rfl
  | cons o ops ih =>
    intro env F n h
    have h1 := compOp_ok o hc ih env F n h
    show (rCons (compOp o) (compR ops)).run clc kn env F n h = xRC (opS cl o (ropsX cl ops) env F ⟨n, h⟩) kn kx kr
    rw [← h1]
    cases compOp o; cases compR ops; rfl

/-! Regions whose order is drawn. -/
abbrev KD := List AV → Nat → H → List St → Bool
abbrev DF := ClC → KD → Fr → List AV → Nat → H → List St → Bool
inductive DFB where | mk (d : DF)
def DFB.run : DFB → DF | .mk d => d
noncomputable def d_nil (cl : ClC) (K : KD) (F : Fr) (env : List AV) (n : Nat) (h : H) (sts : List St) : Bool := K env n h sts
noncomputable def dd1 (r : List AV → Nat → H → List St → Bool) (env : List AV) (S : St) (sts : List St) (v : AV) (n : Nat) (h : H) : Bool := r (v :: env) n h (S :: sts)
noncomputable def d_op (x : XF) (r : DF) (cl : ClC) (K : KD) (F : Fr) (env : List AV) (n : Nat) (h : H) (sts : List St) : Bool := x cl env F n h (dd1 (r cl K F) env (St.mk n h) sts)
noncomputable def d_grd (g : G) (t : Bool) (x : XF) (r : DF) (cl : ClC) (K : KD) (F : Fr) (env : List AV) (n : Nat) (h : H) (sts : List St) : Bool :=
  g env F (og1 t (d_op x r cl K F env n h sts) (d_op x_tup r cl K F env n h sts))
noncomputable def onXD (b : XB) (f : XF → DFB) : DFB := XB.rec (motive := fun _ => DFB) f b
theorem onXD_eq (b : XB) (f : XF → DFB) : onXD b f = f b.run := by cases b; rfl
noncomputable def dCons (o : AOp) (r : DFB) : DFB :=
  DFB.rec (motive := fun _ => DFB) (fun r => AOp.rec (motive := fun _ => DFB) (fun _ guard x _ _ _ => onXD (compX x) fun xf => Option.rec (motive := fun _ => DFB) (.mk (d_op xf r))
    (fun p => GB.rec (motive := fun _ => DFB) (fun g => .mk (d_grd g p.2 xf r)) (compO p.1)) guard) o) r
noncomputable def compD (ops : List AOp) : DFB := List.rec (motive := fun _ => DFB) (.mk d_nil) (fun o _ ih => dCons o ih) ops
theorem compD_ok {cl : Clo} {clc : ClC} (hc : ∀ f l n h k, clc f l n h k = oRC (cl f l ⟨n, h⟩) k) {K : KD} {kk : DR → Bool} (hno : kk .no = false) (hK : ∀ env n h sts, K env n h sts = kk (.ok env (⟨n, h⟩ :: sts))) (F : Fr) :
    ∀ (ops : List AOp) (env : List AV) (n : Nat) (h : H) (sts : List St), (compD ops).run clc K F env n h sts = kk (drun cl F ops env ⟨n, h⟩ sts) := by
  intro ops
  induction ops with
  | nil => intro env n h sts; exact hK env n h sts
  | cons o ops ih =>
    intro env n h sts
    obtain ⟨dst, guard, x, bf, ch, fl⟩ := o
    show (dCons ⟨dst, guard, x, bf, ch, fl⟩ (compD ops)).run clc K F env n h sts = kk (dopS (drun cl F ops) env ⟨n, h⟩ sts (dopA cl F ⟨dst, guard, x, bf, ch, fl⟩ env ⟨n, h⟩))
    revert ih
    cases compD ops with | mk r =>
    intro ih
    have hx := compX_ok x cl clc hc env F n h
    have key : ∀ (xf : XF) (res : OR), (∀ k, xf clc env F n h k = oRC res k) → d_op xf r clc K F env n h sts = kk (dopS (drun cl F ops) env ⟨n, h⟩ sts res) := by
      intro xf res hxf
      show xf clc env F n h (dd1 (r clc K F) env ⟨n, h⟩ sts) = _
      rw [hxf]
      cases res with
      | no => exact hno.symm
      | ok v S' => exact ih (v :: env) S'.next S'.heap (⟨n, h⟩ :: sts)
    show (onXD (compX x) fun xf => _).run clc K F env n h sts = _
    rw [onXD_eq]
    cases guard with
    | none => exact key _ _ hx
    | some p =>
      obtain ⟨o, t⟩ := p
      have h3 := compO_ok o env F (og1 t (d_op (compX x).run r clc K F env n h sts) (d_op x_tup r clc K F env n h sts))
      have k1 := key _ _ hx
      have k2 := key x_tup (.ok (.tup []) ⟨n, h⟩) (fun k => rfl)
      have h4 : (GB.rec (motive := fun _ => DFB) (fun g => .mk (d_grd g t (compX x).run r)) (compO o)).run clc K F env n h sts = (compO o).run env F (og1 t (d_op (compX x).run r clc K F env n h sts) (d_op x_tup r clc K F env n h sts)) := by
        cases compO o; rfl
      show (GB.rec (motive := fun _ => DFB) (fun g => .mk (d_grd g t (compX x).run r)) (compO o)).run clc K F env n h sts = kk (dopS (drun cl F ops) env ⟨n, h⟩ sts (match wantA env F (some (o, t)) with | some true => aop cl env F ⟨n, h⟩ x | some false => .ok (.tup []) ⟨n, h⟩ | none => .no))
      rw [h4, h3, og1_eq, k1, k2]
      cases wantA env F (some (o, t)) with
      | none => exact hno.symm
      | some b => cases b <;> rfl

/-! The looks at a drawn region's end, and what it assigns. -/
def lookX (o : AOp) : Bool := o.chk.isEmpty || plainX o.x
theorem chkOne_nocl {cl : Clo} {sts : List St} {env : List AV} {F : Fr} {x : AX} (hx : plainX x = true) (v : AV) (l : List Nat) : chkOne cl sts env F x v l = chkOne nocl0 sts env F x v l := by
  induction l with
  | nil => rfl
  | cons i l ih =>
    show (match nthS sts i with | some S => (match aop cl env F S x with | .ok v' _ => (match avEq v v' with | true => chkOne cl sts env F x v l | false => false) | .no => false) | none => false) = _
    rw [ih]
    simp only [aop_nocl hx cl]
    rfl
theorem chkAll_nocl {cl : Clo} {sts : List St} {F : Fr} : ∀ (ops : List AOp) (env : List AV), ops.all lookX = true → chkAll cl sts F ops env = chkAll nocl0 sts F ops env := by
  intro ops
  induction ops with
  | nil => intro env _; rfl
  | cons o ops ih =>
    intro env ho
    simp only [List.all_cons, Bool.and_eq_true] at ho
    show (match chkOp cl sts F o env with | true => chkAll cl sts F ops (tailE env) | false => false) = (match chkOp nocl0 sts F o env with | true => chkAll nocl0 sts F ops (tailE env) | false => false)
    rw [ih _ ho.2]
    have : chkOp cl sts F o env = chkOp nocl0 sts F o env := by
      cases env with
      | nil => rfl
      | cons v env =>
        obtain ⟨dst, guard, x, bf, ch, fl⟩ := o
        show (match (generalizing := false) ch with | [] => true | l => match wantA env F guard with | some false => true | _ => chkOne cl sts env F x v l) = (match (generalizing := false) ch with | [] => true | l => match wantA env F guard with | some false => true | _ => chkOne nocl0 sts env F x v l)
        cases ch with
        | nil => rfl
        | cons i ch =>
          have hp : plainX x = true := by
            have := ho.1
            simpa [lookX] using this
          dsimp only
          rw [chkOne_nocl hp]
    rw [this]
def noChk (ops : List AOp) : Bool := ops.all fun o => o.chk.isEmpty
theorem chkAll_none {cl : Clo} {sts : List St} {F : Fr} : ∀ (ops : List AOp) (env : List AV), noChk ops = true → ops.length ≤ env.length → chkAll cl sts F ops env = true := by
  intro ops
  induction ops with
  | nil => intro env _ _; rfl
  | cons o ops ih =>
    intro env ho hl
    simp only [noChk, List.all_cons, Bool.and_eq_true] at ho
    cases env with
    | nil => simp at hl
    | cons v env =>
      obtain ⟨dst, guard, x, bf, ch, fl⟩ := o
      show (match (match (generalizing := false) ch with | [] => true | l => match wantA env F guard with | some false => true | _ => chkOne cl sts env F x v l) with | true => chkAll cl sts F ops env | false => false) = true
      cases ch with
      | nil => exact ih env ho.2 (by simpa using hl)
      | cons i ch => cases ho.1
theorem drun_len {cl : Clo} {F : Fr} : ∀ (ops : List AOp) (env : List AV) (S : St) (sts : List St) (env' : List AV) (sts' : List St), drun cl F ops env S sts = .ok env' sts' → env'.length = env.length + ops.length := by
  intro ops
  induction ops with
  | nil => intro env S sts env' sts' h; cases h; rfl
  | cons o ops ih =>
    intro env S sts env' sts' h
    replace h : dopS (drun cl F ops) env S sts (dopA cl F o env S) = .ok env' sts' := h
    revert h
    cases dopA cl F o env S with
    | no => intro h; cases h
    | ok v S' =>
      intro h
      have := ih (v :: env) S' (S :: sts) env' sts' h
      simp at this ⊢
      omega

def isVarD : Dst → Bool
  | .var _ => true
  | _ => false
def anyVar (ops : List AOp) : Bool := ops.any fun o => isVarD o.dst
theorem asgAll_none : ∀ (ops : List AOp) (env : List AV) (F : Fr), anyVar ops = false → asgAll ops env F = F := by
  intro ops
  induction ops with
  | nil => intro env F _; rfl
  | cons o ops ih =>
    intro env F h
    simp only [anyVar, List.any_cons, Bool.or_eq_false_iff] at h
    obtain ⟨dst, guard, x, bf, ch, fl⟩ := o
    show (match (generalizing := false) dst, env with | .var t, v :: env => asgAll ops env (PT.set (some v) F t) | _, _ => asgAll ops (tailE env) F) = F
    cases dst with
    | var t => cases h.1
    | push => exact ih _ _ h.2
    | drop => exact ih _ _ h.2
abbrev AF := List AV → Fr → (Fr → Bool) → Bool
inductive AB where | mk (a : AF)
def AB.run : AB → AF | .mk a => a
noncomputable def as_nil (env : List AV) (F : Fr) (k : Fr → Bool) : Bool := k F
noncomputable def as_skip (r : AF) (env : List AV) (F : Fr) (k : Fr → Bool) : Bool := List.rec (motive := fun _ => Bool) (r [] F k) (fun _ t _ => r t F k) env
noncomputable def as1 (r : AF) (t : List AV) (k : Fr → Bool) (F : Fr) : Bool := r t F k
noncomputable def as_var (s : SF) (r : AF) (env : List AV) (F : Fr) (k : Fr → Bool) : Bool := List.rec (motive := fun _ => Bool) (r [] F k) (fun v t _ => s v F (as1 r t k)) env
noncomputable def asCons (d : Dst) (r : AB) : AB := AB.rec (motive := fun _ => AB) (fun r => Dst.rec (motive := fun _ => AB) (.mk (as_skip r)) (fun t => SB.rec (motive := fun _ => AB) (fun s => .mk (as_var s r)) (pathS (Nat.succ t) t)) (.mk (as_skip r)) d) r
noncomputable def compAs (ops : List AOp) : AB := List.rec (motive := fun _ => AB) (.mk as_nil) (fun o l ih => Bool.rec (motive := fun _ => AB) (.mk as_nil) (asCons o.dst ih) (anyVar (o :: l))) ops
theorem compAs_ok : ∀ (ops : List AOp) (env : List AV) (F : Fr) (k : Fr → Bool), (compAs ops).run env F k = k (asgAll ops env F) := by
  intro ops
  induction ops with
  | nil => intro env F k; rfl
  | cons o ops ih =>
    intro env F k
    show (Bool.rec (motive := fun _ => AB) (.mk as_nil) (asCons o.dst (compAs ops)) (anyVar (o :: ops))).run env F k = _
    cases hv : anyVar (o :: ops) with
    | false => rw [asgAll_none _ _ _ hv]; rfl
    | true =>
      obtain ⟨dst, guard, x, bf, ch, fl⟩ := o
      show (asCons dst (compAs ops)).run env F k = k (match (generalizing := false) dst, env with | .var t, v :: env => asgAll ops env (PT.set (some v) F t) | _, _ => asgAll ops (tailE env) F)
      clear hv
      revert ih
      cases compAs ops with | mk r =>
      intro ih
      cases dst with
      | push => cases env <;> exact ih _ _ _
      | drop => cases env <;> exact ih _ _ _
      | var t =>
        have hs := pathS_ok (t + 1) t (Nat.lt_succ_self t)
        show (SB.rec (motive := fun _ => AB) (fun s => .mk (as_var s r)) (pathS (t + 1) t)).run env F k = _
        revert hs
        cases pathS (t + 1) t with | mk s =>
        intro hs
        cases env with
        | nil => exact ih _ _ _
        | cons v env =>
          show s v F (as1 r env k) = _
          exact (hs v F (as1 r env k)).trans (ih _ _ _)
noncomputable def de1 (kn : KF) (n : Nat) (h : H) (F : Fr) : Bool := kn F n h
noncomputable def d_end (a : AF) (F : Fr) (kn : KF) (env : List AV) (n : Nat) (h : H) (sts : List St) : Bool := a env F (de1 kn n h)
noncomputable def d_endC (ops : List AOp) (a : AF) (F : Fr) (kn : KF) (env : List AV) (n : Nat) (h : H) (sts : List St) : Bool :=
  Bool.rec (motive := fun _ => Bool) false (a env F (de1 kn n h)) (chkAll nocl0 (St.mk n h :: sts) F ops env)
end Go.Av
