/- The evaluator in continuation style: functions that are done in another way; from a run to a contract. -/
import Derived.Test.YtbfmjoheolgjeaaGreatDoorAvX5
import Derived.Test.YtbfmjoheolgjeaaGreatDoorAvS
set_option linter.unusedVariables false
namespace Go.Av

noncomputable def askK3 (r3 : RF) (cl : ClC) (rs : RsF) (k : KV) (F : Fr) (n : Nat) (h : H) : Bool := r3 cl (fr2 rs k) [] F n h
noncomputable def askK2 (r2 r3 : RF) (cl : ClC) (rs : RsF) (k : KV) (F : Fr) (n : Nat) (h : H) : Bool := r2 cl (askK3 r3 cl rs k) [] F n h
noncomputable def askK0 (r0 r2 r3 : RF) (cl : ClC) (rs : RsF) (n : Nat) (h : H) (k : KV) (F : Fr) : Bool := r0 cl (askK2 r2 r3 cl rs k) [] F n h
noncomputable def f_ask (T : Nat → FB) (fa : FA) (r0 r2 r3 : RF) (rs : RsF) (ch : Ch) (args : List AV) (n : Nat) (h : H) (k : KV) : Bool := fa args .lf (askK0 r0 r2 r3 (callC T ch) rs n h k)
noncomputable def askB (T : Nat → FB) : FB :=
  FAB.rec (motive := fun _ => FB) (fun fa => RB.rec (motive := fun _ => FB) (fun r0 => RB.rec (motive := fun _ => FB) (fun r2 => RB.rec (motive := fun _ => FB) (fun r3 => RsB.rec (motive := fun _ => FB) (fun rs => .mk (f_ask T fa r0 r2 r3 rs))
    (compRv askFn.results)) (compR ask3)) (compR ask2)) (compR ask0)) (compP 1 0)

theorem askB_ok {T : Nat → FB} {ch : Ch} {cl : Clo} (hc : ∀ f args n h k, (T f).run ch args n h k = oRC (cl f args ⟨n, h⟩) k) (args : List AV) (n : Nat) (h : H) (k : KV) :
    (askB T).run ch args n h k = oRC (askX cl args ⟨n, h⟩) k := by
  have hc' : ∀ f l n h k, callC T ch f l n h k = oRC (cl f l ⟨n, h⟩) k := fun f l n h k => by rw [callC_eq]; exact hc f l n h k
  have e : (askB T).run ch args n h k = (compP 1 0).run args .lf (askK0 (compR ask0).run (compR ask2).run (compR ask3).run (callC T ch) (compRv askFn.results).run n h k) := by
    unfold askB
    cases compP 1 0; cases compR ask0; cases compR ask2; cases compR ask3; cases compRv askFn.results; rfl
  rw [e, compP_ok]
  show _ = oRC (match Nat.beq args.length 1 with | true => retA askFn (thenX (fun F S => thenX (fun F S => ropsX cl ask3 [] F S) (ropsX cl ask2 [] F S)) (ropsX cl ask0 [] (ofList args) ⟨n, h⟩)) | false => .no) k
  cases Nat.beq args.length 1 with
  | false => rfl
  | true =>
    show (compR ask0).run (callC T ch) (askK2 (compR ask2).run (compR ask3).run (callC T ch) (compRv askFn.results).run k) [] (ofList args) n h = oRC (retA askFn _) k
    rw [retA_rc]
    have h0 := compR_ok hc' (askK2 (compR ask2).run (compR ask3).run (callC T ch) (compRv askFn.results).run k) (fun _ _ _ _ => false) (fun F n h => (compRv askFn.results).run F h (xk n h k)) ask0 [] (ofList args) n h
    rw [h0]
    cases ropsX cl ask0 [] (ofList args) ⟨n, h⟩ with
    | no => rfl
    | ok e F S => cases e with
      | exit j => rfl
      | ret => rfl
      | norm =>
        show (compR ask2).run (callC T ch) (askK3 (compR ask3).run (callC T ch) (compRv askFn.results).run k) [] F S.next S.heap = xRC (thenX (fun F S => ropsX cl ask3 [] F S) (ropsX cl ask2 [] F S)) _ _ _
        have h2 := compR_ok hc' (askK3 (compR ask3).run (callC T ch) (compRv askFn.results).run k) (fun _ _ _ _ => false) (fun F n h => (compRv askFn.results).run F h (xk n h k)) ask2 [] F S.next S.heap
        rw [h2]
        cases ropsX cl ask2 [] F ⟨S.next, S.heap⟩ with
        | no => rfl
        | ok e F S => cases e with
          | exit j => rfl
          | ret => rfl
          | norm => exact compR_ok hc' _ _ _ ask3 [] F S.next S.heap

noncomputable def insK (k : KV) (r : OR) : Bool := OR.rec (motive := fun _ => Bool) false (ge5 k) r
theorem insK_eq (k : KV) (r : OR) : insK k r = oRC r k := by
  cases r with
  | no => rfl
  | ok v S =>
    show forceV v (ge4 k S) = _
    rw [forceV_eq]
    cases S with | mk n h =>
    show forceN n (ge2 k v h) = _
    rw [forceN_eq]
    show sC0 (ge1 k v n) h = _
    rw [sC0_eq]
    rfl
noncomputable def f_ins (T : Nat → FB) (f : Nat) (ch : Ch) (args : List AV) (n : Nat) (h : H) (k : KV) : Bool :=
  Option.rec (motive := fun _ => Bool) (callC T ch f args n h k) (insK k) (insX args ⟨n, h⟩)

/-- A number that an oracle tells: of 'Within'. -/
abbrev Orc := Int → Nat → Option Int
noncomputable def orcX (ms : Nat → Bool) (orc : Orc) (args : List AV) (S : St) : Option OR :=
  match args with
  | [.int .i64 y, .int .i64 (.ofNat m)] => match ms m with
    | true => match orc y m with
      | some v => some (.ok (.int .i64 v) S)
      | none => some .no
    | false => none
  | _ => none
noncomputable def xcW (fa fi fw : Nat) (ms : Nat → Bool) (orc : Orc) (cl : Cl) (f : Nat) (args : List AV) (S : St) : Option OR :=
  match Nat.beq f fw with
  | true => orcX ms orc args S
  | false => xcOf fa fi cl f args S

noncomputable def orcK (n : Nat) (h : H) (k : KV) (v : Int) : Bool := k (.int .i64 v) n h
noncomputable def wN (ms : Nat → Bool) (orc : Orc) (y : Int) (n : Nat) (h : H) (k : KV) (z : Bool) (m : Nat) : Bool := bB (ms m) (oB (orc y m) (orcK n h k)) z
noncomputable def isI64 (k : IntKind) (t e : Bool) : Bool := IntKind.rec (motive := fun _ => Bool) e e e t e e e e k
noncomputable def dIntD (v : AV) (k : IntKind → Int → Bool) (z : Bool) : Bool :=
  AV.rec (motive_1 := fun _ => Bool) (motive_2 := fun _ => Unit) k (fun _ => z) (fun _ _ => z) z (fun _ _ => z) z (fun _ _ _ _ => z) z (fun _ _ _ _ _ => z) z (fun _ _ _ => z) z (fun _ => z) (fun _ _ => z) (fun _ _ => z) () (fun _ _ _ _ => ()) v
noncomputable def w3 (ms : Nat → Bool) (orc : Orc) (y : Int) (n : Nat) (h : H) (k : KV) (z : Bool) (kk : IntKind) (m : Int) : Bool := isI64 kk (Int.rec (motive := fun _ => Bool) (wN ms orc y n h k z) (fun _ => z) m) z
noncomputable def w2 (ms : Nat → Bool) (orc : Orc) (y : Int) (n : Nat) (h : H) (k : KV) (z : Bool) (l : List AV) : Bool :=
  List.rec (motive := fun _ => Bool) z (fun b t _ => List.rec (motive := fun _ => Bool) (dIntD b (w3 ms orc y n h k z) z) (fun _ _ _ => z) t) l
noncomputable def w1 (ms : Nat → Bool) (orc : Orc) (n : Nat) (h : H) (k : KV) (z : Bool) (t : List AV) (kk : IntKind) (y : Int) : Bool := isI64 kk (w2 ms orc y n h k z t) z
noncomputable def f_orc (T : Nat → FB) (f : Nat) (ms : Nat → Bool) (orc : Orc) (ch : Ch) (args : List AV) (n : Nat) (h : H) (k : KV) : Bool :=
  List.rec (motive := fun _ => Bool) (callC T ch f args n h k) (fun a t _ => dIntD a (w1 ms orc n h k (callC T ch f args n h k) t) (callC T ch f args n h k)) args
theorem f_orc_eq (T : Nat → FB) (f : Nat) (ms : Nat → Bool) (orc : Orc) (ch : Ch) (args : List AV) (n : Nat) (h : H) (k : KV) :
    f_orc T f ms orc ch args n h k = (match orcX ms orc args ⟨n, h⟩ with | some r => oRC r k | none => callC T ch f args n h k) := by
  unfold f_orc
  generalize callC T ch f args n h k = z
  cases args with
  | nil => rfl
  | cons a t =>
    cases a with
    | int kk y =>
      show isI64 kk (w2 ms orc y n h k z t) z = _
      cases kk <;> try rfl
      cases t with
      | nil => rfl
      | cons b t =>
        cases t with
        | cons c t =>
          cases b with
          | int k2 m => cases k2 <;> cases m <;> rfl
          | _ => rfl
        | nil =>
          cases b with
          | int k2 m =>
            show isI64 k2 (Int.rec (motive := fun _ => Bool) (wN ms orc y n h k z) (fun _ => z) m) z = _
            cases k2 <;> try rfl
            cases m with
            | negSucc m => rfl
            | ofNat m =>
              show bB (ms m) (oB (orc y m) (orcK n h k)) z = (match (match ms m with | true => (match orc y m with | some v => some (OR.ok (.int .i64 v) ⟨n, h⟩) | none => some .no) | false => none) with | some r => oRC r k | none => z)
              cases ms m with
              | false => rfl
              | true => cases orc y m <;> rfl
          | _ => rfl
    | _ => rfl

noncomputable def hxW (T : Nat → FB) (fa fi fw : Nat) (ms : Nat → Bool) (orc : Orc) (f : Nat) : Option FB :=
  Bool.rec (motive := fun _ => Option FB) (Bool.rec (motive := fun _ => Option FB) (Bool.rec (motive := fun _ => Option FB) none (some (.mk (f_ins T f))) (Nat.beq f fi)) (some (askB T)) (Nat.beq f fa)) (some (.mk (f_orc T f ms orc))) (Nat.beq f fw)
noncomputable def hn0 (_ : Nat) : Option FB := none
noncomputable def hkW (fa fi fw : Nat) (ms : Nat → Bool) (orc : Orc) : Hook := ⟨fun _ _ => none, xcW fa fi fw ms orc⟩

theorem HC_W (A : PT AFn) (fa fi fw : Nat) (ms : Nat → Bool) (orc : Orc) : HC A (hkW fa fi fw ms orc) hn0 (hxW (TB A hn0) fa fi fw ms orc) := by
  refine ⟨fun f _ args => rfl, fun f b h => (by cases h), fun f hf cl args S => ?_, fun f b hf fuel hE hT args n h k => ?_⟩
  · show xcW fa fi fw ms orc cl f args S = none
    unfold xcW xcOf
    unfold hxW at hf
    cases h1 : Nat.beq f fw with
    | true => rw [h1] at hf; cases hf
    | false =>
      rw [h1] at hf
      cases h2 : Nat.beq f fa with
      | true => rw [h2] at hf; cases hf
      | false =>
        rw [h2] at hf
        cases h3 : Nat.beq f fi with
        | true => rw [h3] at hf; cases hf
        | false => rfl
  · show _ = oRC (match xcW fa fi fw ms orc (callB A (hkW fa fi fw ms orc) (execG A (hkW fa fi fw ms orc) drwY fuel)) f args ⟨n, h⟩ with | some r => r | none => callB A (hkW fa fi fw ms orc) (execG A (hkW fa fi fw ms orc) drwY fuel) f args ⟨n, h⟩) k
    unfold xcW xcOf
    unfold hxW at hf
    cases h1 : Nat.beq f fw with
    | true =>
      rw [h1] at hf
      cases hf
      show f_orc (TB A hn0) f ms orc _ args n h k = _
      rw [f_orc_eq, callC_eq, hT]
      dsimp only
      cases orcX ms orc args ⟨n, h⟩ <;> rfl
    | false =>
      rw [h1] at hf
      cases h2 : Nat.beq f fa with
      | true =>
        rw [h2] at hf
        cases hf
        exact askB_ok hT args n h k
      | false =>
        rw [h2] at hf
        cases h3 : Nat.beq f fi with
        | false => rw [h3] at hf; cases hf
        | true =>
          rw [h3] at hf
          cases hf
          show Option.rec (motive := fun _ => Bool) (callC (TB A hn0) _ f args n h k) (insK k) (insX args ⟨n, h⟩) = oRC (match insX args ⟨n, h⟩ with | some r => r | none => _) k
          rw [callC_eq, hT]
          cases insX args ⟨n, h⟩ with
          | none => rfl
          | some r => exact insK_eq k r

/-- A run that says true. -/
noncomputable def isT (v : AV) (_ : Nat) (_ : H) : Bool := dBool v (fun b => b)
noncomputable def runW (A : PT AFn) (fa fi fw : Nat) (ms : Nat → Bool) (orc : Orc) (fuel f : Nat) (args : List AV) : Bool :=
  callC (TC A hn0 (hxW (TB A hn0) fa fi fw ms orc)) (mkCh (TC A hn0 (hxW (TB A hn0) fa fi fw ms orc)) fuel) f args 0 .lf isT
theorem runW_ok {A : PT AFn} {fa fi fw : Nat} {ms : Nat → Bool} {orc : Orc} {fuel f : Nat} {args : List AV} (h : runW A fa fi fw ms orc fuel f args = true) :
    ∃ S, callA A (hkW fa fi fw ms orc) (execG A (hkW fa fi fw ms orc) drwY fuel) f args ⟨0, .lf⟩ = .ok (.bool true) S := by
  unfold runW at h
  rw [TC_ok (HC_W A fa fi fw ms orc) (ELvl_all (HC_W A fa fi fw ms orc) fuel)] at h
  cases hr : callA A (hkW fa fi fw ms orc) (execG A (hkW fa fi fw ms orc) drwY fuel) f args ⟨0, .lf⟩ with
  | no => rw [hr] at h; cases h
  | ok v S =>
    rw [hr] at h
    replace h : dBool v (fun b => b) = true := h
    cases v with
    | bool b => exact ⟨S, by rw [show b = true from h]⟩
    | _ => cases h
end Go.Av
