/- The evaluator in continuation style: code and calls; a run that says true is a run of AvB's. -/
import Derived.Test.YtbfmjoheolgjeaaGreatDoorAvX4
set_option linter.unusedVariables false
namespace Go.Av

/-- Drawn regions whose looks are at no call. -/
noncomputable def drwY (cl : Nat → List AV → St → OR) (pm : List Nat) (ops : List AOp) (F : Fr) (S : St) : XR := match ops.reverse.all lookX with
  | true => drwX cl pm ops F S
  | false => .no
theorem lookX_of_noChk (l : List AOp) (h : noChk l = true) : l.all lookX = true := by
  rw [List.all_eq_true]
  intro o ho
  unfold noChk at h
  have := List.all_eq_true.1 h o ho
  unfold lookX
  rw [this]
  rfl
theorem draw_okY {P : Program} {B : Nat} (hmix : P.follows .mixedOrders = true) : DrawOK P B (dmK P) drwY := by
  intro cl hcl n vars pm as ops id hd F S e F' S' h
  unfold drwY at h
  cases hl : as.reverse.all lookX with
  | false => rw [hl] at h; cases h
  | true => rw [hl] at h; exact draw_ok hmix cl hcl n vars pm as ops id hd F S e F' S' h

/-- Fuel: at each level how calls are done there. -/
inductive Ch where
  | z
  | s (cl : ClC) (p : Ch)
abbrev CF := Ch → KF → KX → KF → KF
inductive CB where | mk (c : CF)
def CB.run : CB → CF | .mk c => c
noncomputable def c_skip (ch : Ch) (kn : KF) (kx : KX) (kr : KF) (F : Fr) (n : Nat) (h : H) : Bool := Ch.rec (motive := fun _ => Bool) false (fun _ _ _ => kn F n h) ch
noncomputable def c_reg (r : RF) (ch : Ch) (kn : KF) (kx : KX) (kr : KF) (F : Fr) (n : Nat) (h : H) : Bool := Ch.rec (motive := fun _ => Bool) false (fun cl _ _ => r cl kn [] F n h) ch
noncomputable def c_drw (d : DF) (a : AF) (ch : Ch) (kn : KF) (kx : KX) (kr : KF) (F : Fr) (n : Nat) (h : H) : Bool := Ch.rec (motive := fun _ => Bool) false (fun cl _ _ => d cl (d_end a F kn) F [] n h []) ch
noncomputable def c_drwC (ops : List AOp) (d : DF) (a : AF) (ch : Ch) (kn : KF) (kx : KX) (kr : KF) (F : Fr) (n : Nat) (h : H) : Bool := Ch.rec (motive := fun _ => Bool) false (fun cl _ _ => d cl (d_endC ops a F kn) F [] n h []) ch
noncomputable def c_no (ch : Ch) (kn : KF) (kx : KX) (kr : KF) (F : Fr) (n : Nat) (h : H) : Bool := false
noncomputable def c_seq (a b : CF) (ch : Ch) (kn : KF) (kx : KX) (kr : KF) (F : Fr) (n : Nat) (h : H) : Bool := Ch.rec (motive := fun _ => Bool) false (fun _ p _ => a p (b p kn kx kr) kx kr F n h) ch
noncomputable def c_if (t e : Bool) (b : Bool) : Bool := Bool.rec (motive := fun _ => Bool) e t b
noncomputable def c_ifv (t e : Bool) (v : AV) : Bool := dBool v (c_if t e)
noncomputable def c_cond (g : G) (a b : CF) (ch : Ch) (kn : KF) (kx : KX) (kr : KF) (F : Fr) (n : Nat) (h : H) : Bool := Ch.rec (motive := fun _ => Bool) false (fun _ p _ => g [] F (c_ifv (a p kn kx kr F n h) (b p kn kx kr F n h))) ch
noncomputable def bx (id : Nat) (kn : KF) (kx : KX) (j : Nat) (F : Fr) (n : Nat) (h : H) : Bool := Bool.rec (motive := fun _ => Bool) (kx j F n h) (kn F n h) (Nat.beq j id)
noncomputable def c_block (id : Nat) (a : CF) (ch : Ch) (kn : KF) (kx : KX) (kr : KF) (F : Fr) (n : Nat) (h : H) : Bool := Ch.rec (motive := fun _ => Bool) false (fun _ p _ => a p kn (bx id kn kx) kr F n h) ch
noncomputable def c_loop (a : CF) (ch : Ch) : KF → KX → KF → KF :=
  Ch.rec (motive := fun _ => KF → KX → KF → KF) (fun _ _ _ _ _ _ => false) (fun _ p ih kn kx kr F n h => a p (ih kn kx kr) kx kr F n h) ch
noncomputable def c_exit (id : Nat) (ch : Ch) (kn : KF) (kx : KX) (kr : KF) (F : Fr) (n : Nat) (h : H) : Bool := Ch.rec (motive := fun _ => Bool) false (fun _ _ _ => kx id F n h) ch
noncomputable def c_ret (ch : Ch) (kn : KF) (kx : KX) (kr : KF) (F : Fr) (n : Nat) (h : H) : Bool := Ch.rec (motive := fun _ => Bool) false (fun _ _ _ => kr F n h) ch

noncomputable def onC (b : CB) (f : CF → CB) : CB := CB.rec (motive := fun _ => CB) f b
theorem onC_eq (b : CB) (f : CF → CB) : onC b f = f b.run := by cases b; rfl
noncomputable def onGC (b : GB) (f : G → CB) : CB := GB.rec (motive := fun _ => CB) f b
theorem onGC_eq (b : GB) (f : G → CB) : onGC b f = f b.run := by cases b; rfl
noncomputable def compW (ops : List AOp) : CB :=
  DFB.rec (motive := fun _ => CB) (fun d => AB.rec (motive := fun _ => CB) (fun a => Bool.rec (motive := fun _ => CB) (Bool.rec (motive := fun _ => CB) (.mk c_no) (.mk (c_drwC ops.reverse d a)) (ops.reverse.all lookX)) (.mk (c_drw d a)) (noChk ops.reverse)) (compAs ops.reverse)) (compD ops)
noncomputable def compC (c : ACode) : CB :=
  ACode.rec (motive := fun _ => CB) (.mk c_skip) (fun ops => RB.rec (motive := fun _ => CB) (fun r => .mk (c_reg r)) (compR ops)) (fun _ ops => compW ops)
    (fun _ _ a b => onC a fun a => onC b fun b => .mk (c_seq a b)) (fun c _ _ a b => onGC (compO c) fun g => onC a fun a => onC b fun b => .mk (c_cond g a b))
    (fun id _ a => onC a fun a => .mk (c_block id a)) (fun _ a => onC a fun a => .mk (c_loop a)) (fun id => .mk (c_exit id)) (.mk c_ret) c

/-! Functions. -/
abbrev FF := Ch → List AV → Nat → H → KV → Bool
inductive FB where | mk (f : FF)
def FB.run : FB → FF | .mk f => f
noncomputable def callC (T : Nat → FB) (ch : Ch) (f : Nat) (args : List AV) (n : Nat) (h : H) (k : KV) : Bool := FB.rec (motive := fun _ => Bool) (fun ff => ff ch args n h k) (T f)
theorem callC_eq (T : Nat → FB) (ch : Ch) (f : Nat) (args : List AV) (n : Nat) (h : H) (k : KV) : callC T ch f args n h k = (T f).run ch args n h k := by
  unfold callC
  cases T f; rfl
noncomputable def mkCh (T : Nat → FB) (fuel : Nat) : Ch := Nat.rec (motive := fun _ => Ch) .z (fun _ c => .s (callC T c) c) fuel

abbrev FA := List AV → Fr → (Fr → Bool) → Bool
inductive FAB where | mk (a : FA)
def FAB.run : FAB → FA | .mk a => a
noncomputable def fa_nil (l : List AV) (F : Fr) (k : Fr → Bool) : Bool := List.rec (motive := fun _ => Bool) (k F) (fun _ _ _ => false) l
noncomputable def fac1 (r : FA) (t : List AV) (k : Fr → Bool) (F : Fr) : Bool := r t F k
noncomputable def fa_cons (s : SF) (r : FA) (l : List AV) (F : Fr) (k : Fr → Bool) : Bool := List.rec (motive := fun _ => Bool) false (fun v t _ => s v F (fac1 r t k)) l
noncomputable def faCons (s : SB) (r : FAB) : FAB := SB.rec (motive := fun _ => FAB) (fun s => FAB.rec (motive := fun _ => FAB) (fun r => .mk (fa_cons s r)) r) s
noncomputable def compP (p : Nat) : Nat → FAB := Nat.rec (motive := fun _ => Nat → FAB) (fun _ => .mk fa_nil) (fun _ ih i => faCons (pathS (Nat.succ i) i) (ih (Nat.succ i))) p
theorem compP_ok : ∀ (p i : Nat) (l : List AV) (F : Fr) (k : Fr → Bool), (compP p i).run l F k = (match Nat.beq l.length p with | true => k (storeN l F i) | false => false) := by
  intro p
  induction p with
  | zero => intro i l F k; cases l <;> rfl
  | succ p ih =>
    intro i l F k
    have hs := pathS_ok (i + 1) i (Nat.lt_succ_self i)
    have h1 := ih (i + 1)
    show (faCons (pathS (i + 1) i) (compP p (i + 1))).run l F k = _
    revert hs h1
    cases pathS (i + 1) i with | mk s =>
    cases compP p (i + 1) with | mk r =>
    intro hs h1
    cases l with
    | nil => rfl
    | cons v t =>
      show s v F (fac1 r t k) = (match Nat.beq t.length p with | true => k (PT.force (fun c' => storeN t c' (i + 1)) (PT.set (some v) F i)) | false => false)
      rw [PT.force_eq]
      exact (hs v F (fac1 r t k)).trans (h1 t _ k)

abbrev RsF := Fr → H → (AV → Bool) → Bool
inductive RsB where | mk (r : RsF)
def RsB.run : RsB → RsF | .mk r => r
noncomputable def rs_tmp (p : PF) (F : Fr) (h : H) (K : AV → Bool) : Bool := p F K
noncomputable def rs_cell (p : PF) (F : Fr) (h : H) (K : AV → Bool) : Bool := p F (ld0 h K)
noncomputable def rs_cellA (m : Nat) (p : PF) (F : Fr) (h : H) (K : AV → Bool) : Bool := p F (ldA0 m h K)
noncomputable def onP (b : PB) (f : PF → RsB) : RsB := PB.rec (motive := fun _ => RsB) f b
theorem onP_eq (b : PB) (f : PF → RsB) : onP b f = f b.run := by cases b; rfl
noncomputable def compRs (r : ARes) : RsB :=
  ARes.rec (motive := fun _ => RsB) (fun t => onP (pathV (Nat.succ t) t) fun p => .mk (rs_tmp p)) (fun t n => onP (pathV (Nat.succ t) t) fun p => Option.rec (motive := fun _ => RsB) (.mk (rs_cell p)) (fun m => .mk (rs_cellA m p)) n) r
theorem compRs_ok (r : ARes) (F : Fr) (n : Nat) (h : H) (K : AV → Bool) : (compRs r).run F h K = oV (resA F ⟨n, h⟩ r) K := by
  cases r with
  | tmp t =>
    show (onP (pathV (t + 1) t) fun p => .mk (rs_tmp p)).run F h K = oV (F.get t) K
    rw [onP_eq]
    exact pathV_ok (t + 1) t (Nat.lt_succ_self t) F K
  | cell t m =>
    show (onP (pathV (t + 1) t) fun p => _).run F h K = oV (match F.get t with | some a => doLoad ⟨n, h⟩ m a | none => none) K
    rw [onP_eq]
    cases m with
    | none =>
      show (pathV (t + 1) t).run F (ld0 h K) = _
      rw [pathV_ok (t + 1) t (Nat.lt_succ_self t)]
      cases F.get t with
      | none => rfl
      | some a => exact ld0_eq n h K a
    | some m =>
      show (pathV (t + 1) t).run F (ldA0 m h K) = _
      rw [pathV_ok (t + 1) t (Nat.lt_succ_self t)]
      cases F.get t with
      | none => rfl
      | some a => exact ldA0_eq m n h K a
abbrev RlF := Fr → H → (List AV → Bool) → Bool
inductive RlB where | mk (r : RlF)
def RlB.run : RlB → RlF | .mk r => r
noncomputable def rl_nil (F : Fr) (h : H) (K : List AV → Bool) : Bool := K []
noncomputable def rl1 (q : RlF) (F : Fr) (h : H) (K : List AV → Bool) (v : AV) : Bool := q F h (fL1 K v)
noncomputable def rl_cons (r : RsF) (q : RlF) (F : Fr) (h : H) (K : List AV → Bool) : Bool := r F h (rl1 q F h K)
noncomputable def rlCons (r : RsB) (q : RlB) : RlB := RsB.rec (motive := fun _ => RlB) (fun r => RlB.rec (motive := fun _ => RlB) (fun q => .mk (rl_cons r q)) q) r
noncomputable def compRl (l : List ARes) : RlB := List.rec (motive := fun _ => RlB) (.mk rl_nil) (fun r _ ih => rlCons (compRs r) ih) l
theorem compRl_ok (F : Fr) (n : Nat) (h : H) : ∀ (l : List ARes) (K : List AV → Bool), (compRl l).run F h K = oV (resAll F ⟨n, h⟩ l) K := by
  intro l
  induction l with
  | nil => intro K; rfl
  | cons r l ih =>
    intro K
    have h1 := compRs_ok r F n h
    show (rlCons (compRs r) (compRl l)).run F h K = oV (match resA F ⟨n, h⟩ r, resAll F ⟨n, h⟩ l with | some v, some l => some (v :: l) | _, _ => none) K
    revert h1 ih
    cases compRs r with | mk r' =>
    cases compRl l with | mk q =>
    intro ih h1
    show r' F h (rl1 q F h K) = _
    rw [show r' F h (rl1 q F h K) = oV (resA F ⟨n, h⟩ r) (rl1 q F h K) from h1 _]
    cases resA F ⟨n, h⟩ r with
    | none => rfl
    | some v =>
      show q F h (fL1 K v) = _
      rw [show q F h (fL1 K v) = oV (resAll F ⟨n, h⟩ l) (fL1 K v) from ih _]
      cases resAll F ⟨n, h⟩ l <;> rfl
noncomputable def rv_tup1 (K : AV → Bool) (l : List AV) : Bool := K (.tup l)
noncomputable def rv_tup (q : RlF) (F : Fr) (h : H) (K : AV → Bool) : Bool := q F h (rv_tup1 K)
noncomputable def compRv (l : List ARes) : RsB :=
  match l with
  | [r] => compRs r
  | l => RlB.rec (motive := fun _ => RsB) (fun q => .mk (rv_tup q)) (compRl l)
theorem compRv_ok (F : Fr) (n : Nat) (h : H) (l : List ARes) (K : AV → Bool) : (compRv l).run F h K = oV (resAll F ⟨n, h⟩ l) (fun vs => K (resV vs)) := by
  have hl := compRl_ok F n h l (rv_tup1 K)
  have two : ∀ {vs : List AV}, resAll F ⟨n, h⟩ l = some vs → vs.length = l.length := by
    intro vs
    clear hl
    induction l generalizing vs with
    | nil => intro h; cases h; rfl
    | cons r l ih =>
      intro hh
      replace hh : (match resA F ⟨n, h⟩ r, resAll F ⟨n, h⟩ l with | some v, some l => some (v :: l) | _, _ => none) = some vs := hh
      cases h1 : resA F ⟨n, h⟩ r with
      | none => rw [h1] at hh; cases hh
      | some v =>
        cases h2 : resAll F ⟨n, h⟩ l with
        | none => rw [h1, h2] at hh; cases hh
        | some r =>
          rw [h1, h2] at hh
          cases hh
          simp [ih h2]
  have gen : ∀ q, l.length ≠ 1 → (compRl l) = q → (RlB.rec (motive := fun _ => RsB) (fun q => .mk (rv_tup q)) q : RsB).run F h K = oV (resAll F ⟨n, h⟩ l) (fun vs => K (resV vs)) := by
    intro q hne hq
    rw [hq] at hl
    cases q with | mk q =>
    show q F h (rv_tup1 K) = _
    rw [show q F h (rv_tup1 K) = oV (resAll F ⟨n, h⟩ l) (rv_tup1 K) from hl]
    cases hr : resAll F ⟨n, h⟩ l with
    | none => rfl
    | some vs =>
      have := two hr
      show K (.tup vs) = K (resV vs)
      match vs, this with
      | [], _ => rfl
      | [_], h => exact absurd h.symm hne
      | _ :: _ :: _, _ => rfl
  clear two hl
  match l, gen with
  | [], gen => exact gen _ (by simp) rfl
  | [r], _ =>
    show (compRs r).run F h K = _
    rw [compRs_ok r F n h K]
    show _ = oV (match resA F ⟨n, h⟩ r, some [] with | some v, some l => some (v :: l) | _, _ => none) (fun vs => K (resV vs))
    cases resA F ⟨n, h⟩ r <;> rfl
  | a :: b :: l, gen => exact gen _ (by simp) rfl

noncomputable def kxno (j : Nat) (F : Fr) (n : Nat) (h : H) : Bool := false
noncomputable def fr2 (rs : RsF) (k : KV) (F : Fr) (n : Nat) (h : H) : Bool := rs F h (xk n h k)
noncomputable def fr1 (c : CF) (rs : RsF) (ch : Ch) (n : Nat) (h : H) (k : KV) (F : Fr) : Bool := c ch (fr2 rs k) kxno (fr2 rs k) F n h
noncomputable def f_run (fa : FA) (c : CF) (rs : RsF) (ch : Ch) (args : List AV) (n : Nat) (h : H) (k : KV) : Bool := fa args .lf (fr1 c rs ch n h k)
noncomputable def f_no (ch : Ch) (args : List AV) (n : Nat) (h : H) (k : KV) : Bool := false
noncomputable def compFn (fn : AFn) : FB :=
  AFn.rec (motive := fun _ => FB) (fun params _ _ results body => FAB.rec (motive := fun _ => FB) (fun fa => CB.rec (motive := fun _ => FB) (fun c => RsB.rec (motive := fun _ => FB) (fun rs => .mk (f_run fa c rs)) (compRv results)) (compC body)) (compP params 0)) fn

theorem retA_rc {fn : AFn} (r : XR) (k : KV) : oRC (retA fn r) k = xRC r (fun F n h => (compRv fn.results).run F h (xk n h k)) (fun _ _ _ _ => false) (fun F n h => (compRv fn.results).run F h (xk n h k)) := by
  have key : ∀ F (S : St), oRC (match resAll F S fn.results with | some l => .ok (resV l) S | none => .no) k = (compRv fn.results).run F S.heap (xk S.next S.heap k) := by
    intro F S
    rw [compRv_ok F S.next S.heap]
    show _ = oV (resAll F S fn.results) _
    cases resAll F S fn.results <;> rfl
  cases r with
  | no => rfl
  | ok e F S => cases e with
    | norm => exact key F S
    | exit j => rfl
    | ret => exact key F S

section
variable {A : PT AFn} {hk : Hook} {T : Nat → FB}
def ELvl (A : PT AFn) (hk : Hook) (T : Nat → FB) (fuel : Nat) : Prop := ∀ c F n h kn kx kr, (compC c).run (mkCh T fuel) kn kx kr F n h = xRC (execG A hk drwY fuel c F ⟨n, h⟩) kn kx kr

theorem compFn_ok {fuel : Nat} (hE : ELvl A hk T fuel) (fn : AFn) (args : List AV) (n : Nat) (h : H) (k : KV) :
    (compFn fn).run (mkCh T fuel) args n h k = oRC (match Nat.beq args.length fn.params with | true => retA fn (execG A hk drwY fuel fn.body (ofList args) ⟨n, h⟩) | false => .no) k := by
  obtain ⟨params, nt, vars, results, body⟩ := fn
  have h1 := compP_ok params 0 args .lf
  have h2 := hE body
  have h3 : ∀ k, (fun F n h => (compRv results).run F h (xk n h k)) = fr2 (compRv results).run k := fun k => rfl
  show (FAB.rec (motive := fun _ => FB) (fun fa => CB.rec (motive := fun _ => FB) (fun c => RsB.rec (motive := fun _ => FB) (fun rs => .mk (f_run fa c rs)) (compRv results)) (compC body)) (compP params 0)).run (mkCh T fuel) args n h k = _
  have h4 : (FAB.rec (motive := fun _ => FB) (fun fa => CB.rec (motive := fun _ => FB) (fun c => RsB.rec (motive := fun _ => FB) (fun rs => .mk (f_run fa c rs)) (compRv results)) (compC body)) (compP params 0)).run (mkCh T fuel) args n h k
      = (compP params 0).run args .lf (fr1 (compC body).run (compRv results).run (mkCh T fuel) n h k) := by
    cases compP params 0; cases compC body; cases compRv results; rfl
  rw [h4, h1]
  show _ = oRC (match Nat.beq args.length params with | true => retA ⟨params, nt, vars, results, body⟩ (execG A hk drwY fuel body (ofList args) ⟨n, h⟩) | false => .no) k
  cases Nat.beq args.length params with
  | false => rfl
  | true =>
    show fr1 (compC body).run (compRv results).run (mkCh T fuel) n h k (ofList args) = oRC (retA ⟨params, nt, vars, results, body⟩ _) k
    rw [retA_rc]
    exact h2 (ofList args) n h _ _ _

/-! The table: what is known; what is done in another way. -/
noncomputable def tabF (A : PT AFn) (f : Nat) : FB := Option.rec (motive := fun _ => FB) (.mk f_no) compFn (A.get f)
noncomputable def alt (o : Option FB) (b : FB) : FB := Option.rec (motive := fun _ => FB) b (fun b => b) o
noncomputable def TB (A : PT AFn) (hn : Nat → Option FB) (f : Nat) : FB := alt (hn f) (tabF A f)
noncomputable def TC (A : PT AFn) (hn hx : Nat → Option FB) (f : Nat) : FB := alt (hx f) (TB A hn f)

/-- The hooks in continuation style are the hooks. -/
structure HC (A : PT AFn) (hk : Hook) (hn hx : Nat → Option FB) : Prop where
  n0 : ∀ f, hn f = none → ∀ args, hk.known f args = none
  n1 : ∀ f b, hn f = some b → ∀ (ih : ACode → Fr → St → XR) ch args n h k, b.run ch args n h k = oRC (callB A hk ih f args ⟨n, h⟩) k
  x0 : ∀ f, hx f = none → ∀ cl args S, hk.xc cl f args S = none
  x1 : ∀ f b, hx f = some b → ∀ fuel, ELvl A hk (TC A hn hx) fuel → (∀ f args n h k, (TB A hn f).run (mkCh (TC A hn hx) fuel) args n h k = oRC (callB A hk (execG A hk drwY fuel) f args ⟨n, h⟩) k) →
    ∀ args n h k, b.run (mkCh (TC A hn hx) fuel) args n h k = oRC (callA A hk (execG A hk drwY fuel) f args ⟨n, h⟩) k

variable {hn hx : Nat → Option FB}
theorem TB_ok (H0 : HC A hk hn hx) {fuel : Nat} (hE : ELvl A hk (TC A hn hx) fuel) (f : Nat) (args : List AV) (n : Nat) (h : H) (k : KV) :
    (TB A hn f).run (mkCh (TC A hn hx) fuel) args n h k = oRC (callB A hk (execG A hk drwY fuel) f args ⟨n, h⟩) k := by
  unfold TB
  cases hh : hn f with
  | some b => exact H0.n1 f b hh _ _ args n h k
  | none =>
    show (tabF A f).run _ args n h k = _
    unfold tabF callB
    rw [H0.n0 f hh args]
    show _ = oRC (match A.get f with | some fn => (match Nat.beq args.length fn.params with | true => retA fn (execG A hk drwY fuel fn.body (ofList args) ⟨n, h⟩) | false => .no) | none => .no) k
    cases A.get f with
    | none => rfl
    | some fn => exact compFn_ok hE fn args n h k
theorem TC_ok (H0 : HC A hk hn hx) {fuel : Nat} (hE : ELvl A hk (TC A hn hx) fuel) (f : Nat) (args : List AV) (n : Nat) (h : H) (k : KV) :
    callC (TC A hn hx) (mkCh (TC A hn hx) fuel) f args n h k = oRC (callA A hk (execG A hk drwY fuel) f args ⟨n, h⟩) k := by
  rw [callC_eq]
  unfold TC
  cases hh : hx f with
  | some b => exact H0.x1 f b hh fuel hE (TB_ok H0 hE) args n h k
  | none =>
    show (TB A hn f).run _ args n h k = _
    rw [show mkCh (fun f => alt (hx f) (TB A hn f)) fuel = mkCh (TC A hn hx) fuel from rfl, TB_ok H0 hE]
    unfold callA
    rw [H0.x0 f hh]

theorem ELvl_all (H0 : HC A hk hn hx) : ∀ fuel, ELvl A hk (TC A hn hx) fuel := by
  intro fuel
  induction fuel with
  | zero =>
    intro c F n h kn kx kr
    show _ = false
    show (compC c).run .z kn kx kr F n h = false
    cases c with
    | skip => rfl
    | reg ops => show (RB.rec (motive := fun _ => CB) (fun r => .mk (c_reg r)) (compR ops)).run _ _ _ _ _ _ _ = _; cases compR ops; rfl
    | drw pm ops =>
      show (compW ops).run _ _ _ _ _ _ _ = _
      unfold compW
      cases compD ops; cases compAs ops.reverse; cases noChk ops.reverse <;> cases ops.reverse.all lookX <;> rfl
    | seq a b => show (onC (compC a) fun a => onC (compC b) fun b => .mk (c_seq a b)).run _ _ _ _ _ _ _ = _; simp only [onC_eq]; rfl
    | cond g a b => show (onGC (compO g) fun g => onC (compC a) fun a => onC (compC b) fun b => .mk (c_cond g a b)).run _ _ _ _ _ _ _ = _; simp only [onC_eq, onGC_eq]; rfl
    | block id a => show (onC (compC a) fun a => .mk (c_block id a)).run _ _ _ _ _ _ _ = _; simp only [onC_eq]; rfl
    | loop a => show (onC (compC a) fun a => .mk (c_loop a)).run _ _ _ _ _ _ _ = _; simp only [onC_eq]; rfl
    | exit id => rfl
    | ret => rfl
  | succ fuel ih =>
    intro c F n h kn kx kr
    have hc := TC_ok H0 ih
    show (compC c).run (.s (callC (TC A hn hx) (mkCh (TC A hn hx) fuel)) (mkCh (TC A hn hx) fuel)) kn kx kr F n h = xRC (execS A hk drwY (execG A hk drwY fuel) c F ⟨n, h⟩) kn kx kr
    cases c with
    | skip => rfl
    | reg ops =>
      have := compR_ok hc kn kx kr ops [] F n h
      show (RB.rec (motive := fun _ => CB) (fun r => .mk (c_reg r)) (compR ops)).run _ kn kx kr F n h = xRC (ropsX (callA A hk (execG A hk drwY fuel)) ops [] F ⟨n, h⟩) kn kx kr
      rw [← this]
      cases compR ops; rfl
    | drw pm ops =>
      show (compW ops).run _ kn kx kr F n h = xRC (match ops.reverse.all lookX with | true => drwE (callA A hk (execG A hk drwY fuel)) ops F (drun (callA A hk (execG A hk drwY fuel)) F ops [] ⟨n, h⟩ []) | false => .no) kn kx kr
      have ha := compAs_ok ops.reverse
      cases hno : noChk ops.reverse with
      | true =>
        have hd := compD_ok hc (K := d_end (compAs ops.reverse).run F kn) (kk := fun r => match r with | .no => false | .ok env sts => match sts with | S' :: _ => kn (asgAll ops.reverse env F) S'.next S'.heap | [] => false) rfl (fun env n h sts => ha env F (de1 kn n h)) F ops [] n h []
        have e : (compW ops).run (.s (callC (TC A hn hx) (mkCh (TC A hn hx) fuel)) (mkCh (TC A hn hx) fuel)) kn kx kr F n h = (compD ops).run (callC (TC A hn hx) (mkCh (TC A hn hx) fuel)) (d_end (compAs ops.reverse).run F kn) F [] n h [] := by
          unfold compW
          rw [hno]
          cases compD ops; cases compAs ops.reverse; rfl
        rw [e, hd, lookX_of_noChk _ hno]
        dsimp only
        cases hr : drun (callA A hk (execG A hk drwY fuel)) F ops [] ⟨n, h⟩ [] with
        | no => rfl
        | ok env sts =>
          have hl := drun_len ops [] _ [] env sts hr
          have hch := chkAll_none (cl := callA A hk (execG A hk drwY fuel)) (sts := sts) (F := F) ops.reverse env hno (by simp at hl ⊢; omega)
          show (match (generalizing := false) sts with | S' :: _ => kn (asgAll ops.reverse env F) S'.next S'.heap | [] => false) = xRC (match chkAll (callA A hk (execG A hk drwY fuel)) sts F ops.reverse env with | false => .no | true => (match (generalizing := false) sts with | S' :: _ => PT.force (fun F' => .ok .norm F' S') (asgAll ops.reverse env F) | [] => .no)) kn kx kr
          rw [hch]
          cases sts with
          | nil => rfl
          | cons S' sts => simp only [PT.force_eq]; rfl
      | false =>
        cases hlk : ops.reverse.all lookX with
        | false =>
          have e : (compW ops).run (.s (callC (TC A hn hx) (mkCh (TC A hn hx) fuel)) (mkCh (TC A hn hx) fuel)) kn kx kr F n h = false := by
            unfold compW
            rw [hno, hlk]
            cases compD ops; cases compAs ops.reverse; rfl
          exact e
        | true =>
          have hd := compD_ok hc (K := d_endC ops.reverse (compAs ops.reverse).run F kn) (kk := fun r => match r with | .no => false | .ok env sts => match chkAll nocl0 sts F ops.reverse env with | false => false | true => match sts with | S' :: _ => kn (asgAll ops.reverse env F) S'.next S'.heap | [] => false) rfl
            (fun env n h sts => by
              show Bool.rec (motive := fun _ => Bool) false ((compAs ops.reverse).run env F (de1 kn n h)) (chkAll nocl0 (St.mk n h :: sts) F ops.reverse env) = (match chkAll nocl0 (St.mk n h :: sts) F ops.reverse env with | false => false | true => kn (asgAll ops.reverse env F) n h)
              rw [ha]
              cases chkAll nocl0 (St.mk n h :: sts) F ops.reverse env <;> rfl) F ops [] n h []
          have e : (compW ops).run (.s (callC (TC A hn hx) (mkCh (TC A hn hx) fuel)) (mkCh (TC A hn hx) fuel)) kn kx kr F n h = (compD ops).run (callC (TC A hn hx) (mkCh (TC A hn hx) fuel)) (d_endC ops.reverse (compAs ops.reverse).run F kn) F [] n h [] := by
            unfold compW
            rw [hno, hlk]
            cases compD ops; cases compAs ops.reverse; rfl
          rw [e, hd]
          cases hr : drun (callA A hk (execG A hk drwY fuel)) F ops [] ⟨n, h⟩ [] with
          | no => rfl
          | ok env sts =>
            show (match chkAll nocl0 sts F ops.reverse env with | false => false | true => (match (generalizing := false) sts with | S' :: _ => kn (asgAll ops.reverse env F) S'.next S'.heap | [] => false)) = xRC (match chkAll (callA A hk (execG A hk drwY fuel)) sts F ops.reverse env with | false => .no | true => (match (generalizing := false) sts with | S' :: _ => PT.force (fun F' => .ok .norm F' S') (asgAll ops.reverse env F) | [] => .no)) kn kx kr
            rw [chkAll_nocl (cl := callA A hk (execG A hk drwY fuel)) ops.reverse env hlk]
            cases chkAll nocl0 sts F ops.reverse env with
            | false => rfl
            | true => cases sts with
              | nil => rfl
              | cons S' sts => simp only [PT.force_eq]; rfl
    | seq a b =>
      show (onC (compC a) fun a => onC (compC b) fun b => .mk (c_seq a b)).run _ kn kx kr F n h = xRC (thenX (execG A hk drwY fuel b) (execG A hk drwY fuel a F ⟨n, h⟩)) kn kx kr
      simp only [onC_eq]
      show (compC a).run (mkCh (TC A hn hx) fuel) ((compC b).run (mkCh (TC A hn hx) fuel) kn kx kr) kx kr F n h = _
      rw [ih]
      cases execG A hk drwY fuel a F ⟨n, h⟩ with
      | no => rfl
      | ok e F' S' => cases e with
        | norm => exact ih b F' S'.next S'.heap kn kx kr
        | exit j => rfl
        | ret => rfl
    | cond g a b =>
      show (onGC (compO g) fun g => onC (compC a) fun a => onC (compC b) fun b => .mk (c_cond g a b)).run _ kn kx kr F n h = xRC (match ov [] F g with | some (.bool true) => execG A hk drwY fuel a F ⟨n, h⟩ | some (.bool false) => execG A hk drwY fuel b F ⟨n, h⟩ | _ => .no) kn kx kr
      simp only [onC_eq, onGC_eq]
      show (compO g).run [] F (c_ifv ((compC a).run (mkCh (TC A hn hx) fuel) kn kx kr F n h) ((compC b).run (mkCh (TC A hn hx) fuel) kn kx kr F n h)) = _
      rw [ih, ih, compO_ok g]
      cases ov [] F g with
      | none => rfl
      | some v => cases v <;> try rfl
                  rename_i b
                  cases b <;> rfl
    | block id a =>
      show (onC (compC a) fun a => .mk (c_block id a)).run _ kn kx kr F n h = xRC (blockX id (execG A hk drwY fuel a F ⟨n, h⟩)) kn kx kr
      simp only [onC_eq]
      show (compC a).run (mkCh (TC A hn hx) fuel) kn (bx id kn kx) kr F n h = _
      rw [ih]
      cases execG A hk drwY fuel a F ⟨n, h⟩ with
      | no => rfl
      | ok e F' S' => cases e with
        | norm => rfl
        | exit j =>
          show Bool.rec (motive := fun _ => Bool) (kx j F' S'.next S'.heap) (kn F' S'.next S'.heap) (Nat.beq j id) = xRC (match Nat.beq j id with | true => .ok .norm F' S' | false => .ok (.exit j) F' S') kn kx kr
          cases Nat.beq j id <;> rfl
        | ret => rfl
    | loop a =>
      have hl : ∀ F n h, (compC (.loop a)).run (mkCh (TC A hn hx) fuel) kn kx kr F n h = xRC (execG A hk drwY fuel (.loop a) F ⟨n, h⟩) kn kx kr := fun F n h => ih (.loop a) F n h kn kx kr
      show (onC (compC a) fun a => .mk (c_loop a)).run _ kn kx kr F n h = xRC (thenX (execG A hk drwY fuel (.loop a)) (execG A hk drwY fuel a F ⟨n, h⟩)) kn kx kr
      have e : (compC (.loop a)).run (mkCh (TC A hn hx) fuel) = c_loop (compC a).run (mkCh (TC A hn hx) fuel) := by
        show (onC (compC a) fun a => .mk (c_loop a)).run _ = _
        simp only [onC_eq]
        rfl
      rw [e] at hl
      simp only [onC_eq]
      show (compC a).run (mkCh (TC A hn hx) fuel) (c_loop (compC a).run (mkCh (TC A hn hx) fuel) kn kx kr) kx kr F n h = _
      rw [ih]
      cases execG A hk drwY fuel a F ⟨n, h⟩ with
      | no => rfl
      | ok e F' S' => cases e with
        | norm => exact hl F' S'.next S'.heap
        | exit j => rfl
        | ret => rfl
    | exit id => rfl
    | ret => rfl
end
end Go.Av
