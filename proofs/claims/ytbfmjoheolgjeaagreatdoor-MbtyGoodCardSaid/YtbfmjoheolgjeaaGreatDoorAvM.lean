/- Code and calls (drawn regions: AvN). -/
import Derived.Test.YtbfmjoheolgjeaaGreatDoorAvL
namespace Go.Av
section
variable {P : Program} {B : Nat}

noncomputable def execS (A : PT AFn) (hk : Hook) (dr : (Nat → List AV → St → OR) → List Nat → List AOp → Fr → St → XR) (ih : ACode → Fr → St → XR) (c : ACode) (F : Fr) (S : St) : XR :=
  match c with
  | .skip => .ok .norm F S
  | .reg ops => ropsX (callA A hk ih) ops [] F S
  | .drw pm ops => dr (callA A hk ih) pm ops F S
  | .seq a b => thenX (ih b) (ih a F S)
  | .cond c a b => condX ih c a b F S
  | .block id c => blockX id (ih c F S)
  | .loop c => thenX (ih (.loop c)) (ih c F S)
  | .exit id => .ok (.exit id) F S
  | .ret => .ok .ret F S

noncomputable def execG (A : PT AFn) (hk : Hook) (dr : (Nat → List AV → St → OR) → List Nat → List AOp → Fr → St → XR) (fuel : Nat) : ACode → Fr → St → XR :=
  Nat.rec (motive := fun _ => ACode → Fr → St → XR) (fun _ _ _ => .no) (fun _ ih => execS A hk dr ih) fuel

def ExitR : AE → Exit → Prop
  | .norm, .normal => True
  | .exit i, .exit j => i = j
  | .ret, .ret => True
  | _, _ => False

/-- What stands behind code. -/
def Post (B : Nat) (vars : List Nat) (S : St) (β : Beta) (w : World) (a : Act) (e : AE) (F' : Fr) (S' : St) : Exit → Act → World → Prop :=
  fun x a' w' => ExitR e x ∧ ∃ β', Rel B S' β' w' ∧ Step S β w S' β' w' ∧ FR β' vars F' a'.tmps ∧ a'.tmps.size = a.tmps.size ∧ a'.defers = a.defers

def cmatch (P : Program) (dm : Nat → List Nat → List Nat → List AOp → Array Oper → Bool) (n : Nat) (vars : List Nat) : ACode → Code → Bool
  | c, .scope c' => cmatch P dm n vars c c'
  | .skip, .skip => true
  | .reg as, .region _ ops false => rmatch P n ops vars [] as ops.toList
  | .drw pm as, .region _ ops true => dm n vars pm as ops
  | .seq a b, .seq a' b' => cmatch P dm n vars a a' && cmatch P dm n vars b b'
  | .cond o a b, .cond o' a' b' => omatch [] vars o o' && cmatch P dm n vars a a' && cmatch P dm n vars b b'
  | .block id c, .block id' c' => id == id' && cmatch P dm n vars c c'
  | .loop c, .loop c' => cmatch P dm n vars c c'
  | .exit id, .exit id' => id == id'
  | .ret, .ret => true
  | _, _ => false

def resmatch (P : Program) (vars : List Nat) : List ARes → List ResultVar → Bool
  | [], [] => true
  | .tmp t :: l, .tmp t' :: r => t == t' && vars.contains t && resmatch P vars l r
  | .cell t n :: l, .cell t' ty :: r => t == t' && vars.contains t && loadOK P ty n && resmatch P vars l r
  | _, _ => false

def fmatch (P : Program) (dm : Nat → List Nat → List Nat → List AOp → Array Oper → Bool) (fn : Func) (fn' : AFn) : Bool :=
  (match fn.body with | some c => cmatch P dm fn.ntmps fn'.vars fn'.body c | none => false) && fn.name != "runtime.NumGoroutine" && resmatch P fn'.vars fn'.results fn.results.toList

/-- The functions are those of the loaded program. -/
def Good (P : Program) (dm : Nat → List Nat → List Nat → List AOp → Array Oper → Bool) (A : PT AFn) : Prop := ∀ f fn', A.get f = some fn' → ∃ fn, P.funcs[f]? = some fn ∧ fmatch P dm fn fn' = true

/-- What is known without a run is true. -/
def KnownOK (P : Program) (kn : Nat → List AV → Option AV) : Prop := ∀ f args v, kn f args = some v → bodyOK P f = true ∧
  ∀ β w (x : Array Value), LR β args x → Calls P f x w fun e w' => ∃ u, e = .returned u ∧ VR β v u ∧ RowKit.Below w.heap.size w w'

/-- What is done in another way is done right. -/
def XcOK (P : Program) (B : Nat) (xc : (Nat → List AV → St → OR) → Nat → List AV → St → Option OR) : Prop :=
  ∀ cl, ClOK P B cl → ∀ f args S v S', xc cl f args S = some (.ok v S') → bodyOK P f = true ∧ ∀ β w (x : Array Value), Rel B S β w → FreeU β S.next → LR β args x →
    Calls P f x w fun e w' => ∃ β' u, e = .returned u ∧ VR β' v u ∧ Rel B S' β' w' ∧ Step S β w S' β' w'

def HookOK (P : Program) (B : Nat) (hk : Hook) : Prop := KnownOK P hk.known ∧ XcOK P B hk.xc

/-- Drawn regions are done as they are done in the text's order. -/
def DrawOK (P : Program) (B : Nat) (dm : Nat → List Nat → List Nat → List AOp → Array Oper → Bool) (dr : (Nat → List AV → St → OR) → List Nat → List AOp → Fr → St → XR) : Prop :=
  ∀ cl, ClOK P B cl → ∀ n vars pm as ops id, dm n vars pm as ops = true → ∀ F S e F' S', dr cl pm as F S = .ok e F' S' → ∀ β a w, Rel B S β w → FreeU β S.next → FR β vars F a.tmps → n ≤ a.tmps.size →
    (Code.region id ops true).wp P (Post B vars S β w a e F' S') a w

theorem Post.step {vars : List Nat} {S S1 : St} {β β1 : Beta} {w w1 : World} {a a1 : Act} {e : AE} {F' : Fr} {S' : St} (hf : FreeU β S.next) (hR1 : Rel B S1 β1 w1) (hS : Step S β w S1 β1 w1) (hs : a1.tmps.size = a.tmps.size) (hd : a1.defers = a.defers)
    {x : Exit} {a' : Act} {w' : World} (h : Post B vars S1 β1 w1 a1 e F' S' x a' w') : Post B vars S β w a e F' S' x a' w' := by
  obtain ⟨h1, β', h2, h3, h4, h5, h6⟩ := h
  exact ⟨h1, β', h2, hS.then hf hR1.hlt h3, h4, h5.trans hs, h6.trans hd⟩

theorem Post.noGoto {vars : List Nat} {S : St} {β : Beta} {w : World} {a : Act} {e : AE} {F' : Fr} {S' : St} : ∀ x a' w', Post B vars S β w a e F' S' x a' w' → Exit.noGoto (Post B vars S β w a e F' S') x a' w' := by
  intro x a' w' h
  cases x <;> first | exact h | exact (by obtain ⟨h1, _⟩ := h; cases e <;> cases h1)

theorem steps_behind {m m1 m' : Machine} (h : step P m = .next m1) (h' : Steps P m m') (hne : m ≠ m') : Steps P m1 m' := by
  obtain ⟨k, hk⟩ := h'
  cases k with
  | zero =>
    simp only [runN, Stepped.next.injEq] at hk
    exact absurd hk hne
  | succ k =>
    simp only [runN, h] at hk
    exact ⟨k, hk⟩

theorem exitTo_length (id : Nat) : ∀ (k k' : List Item), exitTo id k = some k' → k'.length ≤ k.length := by
  intro k
  induction k with
  | nil => intro k' h; simp [exitTo] at h
  | cons x k ih =>
    intro k' h
    have hle : ∀ k', exitTo id k = some k' → k'.length ≤ (x :: k).length := fun k' h => by have := ih k' h; simp; omega
    cases x <;> simp only [exitTo] at h <;> first
      | exact hle k' h
      | (split at h
         · cases h; simp
         · exact hle k' h)

theorem lone_ne {b : Frame} {a a' : Act} {x : Item} {k k' : List Item} {cs : List Frame} {w w' : World} (h : k'.length ≤ k.length) : lone (b.at a (x :: k)) cs w ≠ lone (b.at a' k') cs w' := by
  intro e
  have e1 : (lone (b.at a (x :: k)) cs w).gs = (lone (b.at a' k') cs w').gs := by rw [e]
  simp [lone, Frame.at] at e1
  have := congrArg List.length e1.2.1
  simp at this
  omega

theorem lone_ne_mode {b : Frame} {a a' : Act} {t t' : List Item} {cs : List Frame} {w w' : World} : lone (b.at a t) cs w ≠ lone { b.at a' t' with mode := .returning } cs w' := by
  intro e
  have e1 : (lone (b.at a t) cs w).gs = (lone { b.at a' t' with mode := .returning } cs w').gs := by rw [e]
  simp [lone, Frame.at] at e1

theorem code_sound {A : PT AFn} {hk : Hook} {dm : Nat → List Nat → List Nat → List AOp → Array Oper → Bool} {dr : (Nat → List AV → St → OR) → List Nat → List AOp → Fr → St → XR} (hdr : DrawOK P B dm dr) {ih : ACode → Fr → St → XR} (hcl : ClOK P B (callA A hk ih)) (n : Nat) (vars : List Nat)
    (hih : ∀ c' c F S e F' S', ih c' F S = .ok e F' S' → cmatch P dm n vars c' c = true → ∀ β a w, Rel B S β w → FreeU β S.next → FR β vars F a.tmps → n ≤ a.tmps.size → c.wp P (Post B vars S β w a e F' S') a w) :
    ∀ c c' F S e F' S', execS A hk dr ih c' F S = .ok e F' S' → cmatch P dm n vars c' c = true → ∀ β a w, Rel B S β w → FreeU β S.next → FR β vars F a.tmps → n ≤ a.tmps.size → c.wp P (Post B vars S β w a e F' S') a w := by
  intro c
  induction c with
  | scope c ihc =>
    intro c' F S e F' S' h hm β a w hR hf hF hn
    have hm' : cmatch P dm n vars c' c = true := by
      unfold cmatch at hm
      exact hm
    exact wp_scope_straight (wp_mono (ihc c' F S e F' S' h hm' β a w hR hf hF hn) Post.noGoto)
  | skip =>
    intro c' F S e F' S' h hm β a w hR hf hF hn
    cases c' <;> try (simp [cmatch] at hm; done)
    cases h
    exact wp_skip ⟨trivial, β, hR, Step.refl _ _ _, hF, rfl, rfl⟩
  | region id ops d =>
    intro c' F S e F' S' h hm β a w hR hf hF hn
    cases d with
    | false =>
      cases c' <;> try (simp [cmatch] at hm; done)
      rename_i as
      simp only [cmatch] at hm
      refine wp_region ?_
      have he : e = .norm := by
        have : ∀ (as : List AOp) (env : List AV) (F : Fr) (S : St), ropsX (callA A hk ih) as env F S = .ok e F' S' → e = .norm := by
          intro as
          induction as with
          | nil => intro env F S h; cases h; rfl
          | cons x as ih2 =>
            intro env F S h
            rw [ropsX_cons] at h
            unfold opS at h
            have hput : ∀ (d : Dst) (v : AV) (env : List AV) (F : Fr) (S : St), putD d v env F (fun env F => ropsX (callA A hk ih) as env F S) = .ok e F' S' → e = .norm := by
              intro d v env F S h
              cases d with
              | push => exact ih2 _ _ _ h
              | var t =>
                have h' : PT.force (fun F' => ropsX (callA A hk ih) as env F' S) (PT.set (some v) F t) = .ok e F' S' := h
                rw [PT.force_eq] at h'
                exact ih2 _ _ _ h'
              | drop => exact ih2 _ _ _ h
            split at h
            · split at h
              · exact hput _ _ _ _ _ h
              · cases h
            · exact hput _ _ _ _ _ h
            · cases h
        exact this as [] F S h
      have := rops_sound (Q := Post B vars S β w a e F' S') hcl n ops vars as ops.toList 0 [] [] F S β a w e F' S' (fun j => by simp) h hm hR hf hF (fun i t v h => by simp at h) hn
        (fun β' a' w' r1 r2 r3 r4 r5 r6 => ⟨by subst r6; trivial, β', r1, r2, r3, r4, r5⟩)
      rw [List.range_eq_range']
      simpa using this
    | true =>
      cases c' <;> try (simp [cmatch] at hm; done)
      simp only [cmatch] at hm
      exact hdr _ hcl n vars _ _ ops id hm F S e F' S' h β a w hR hf hF hn
  | seq x y _ _ =>
    intro c' F S e F' S' h hm β a w hR hf hF hn
    cases c' <;> try (simp [cmatch] at hm; done)
    rename_i x' y'
    simp only [cmatch, Bool.and_eq_true] at hm
    simp only [execS] at h
    cases hx : ih x' F S with
    | no => rw [hx] at h; cases h
    | ok e1 F1 S1 =>
      rw [hx] at h
      have h1 := hih x' x F S e1 F1 S1 hx hm.1 β a w hR hf hF hn
      refine wp_seq (wp_mono h1 fun z a1 w1 hp => ?_)
      obtain ⟨p1, β1, p2, p3, p4, p5, p6⟩ := hp
      cases e1 with
      | norm =>
        cases z <;> try (cases p1; done)
        have h2 := hih y' y F1 S1 e F' S' h hm.2 β1 a1 w1 p2 (hf.step p3) p4 (by rw [p5]; exact hn)
        exact wp_mono h2 fun z' a' w' hp' => hp'.step hf p2 p3 p5 p6
      | exit i =>
        cases h
        cases z <;> try (cases p1; done)
        exact ⟨p1, β1, p2, p3, p4, p5, p6⟩
      | ret =>
        cases h
        cases z <;> try (cases p1; done)
        exact ⟨p1, β1, p2, p3, p4, p5, p6⟩
  | cond o x y _ _ =>
    intro c' F S e F' S' h hm β a w hR hf hF hn
    cases c' <;> try (simp [cmatch] at hm; done)
    rename_i o' x' y'
    simp only [cmatch, Bool.and_eq_true] at hm
    simp only [execS, condX] at h
    have hE := om_of (ids := []) (env := []) hF (fun i t v h => by simp at h)
    split at h
    · rename_i hv
      have hv' := hE _ _ _ hm.1.1 hv
      generalize hu : a.eval o = u at hv'
      cases hv'
      exact wp_cond_true hu (hih x' x F S e F' S' h hm.1.2 β a w hR hf hF hn)
    · rename_i hv
      have hv' := hE _ _ _ hm.1.1 hv
      generalize hu : a.eval o = u at hv'
      cases hv'
      exact wp_cond_false hu (hih y' y F S e F' S' h hm.2 β a w hR hf hF hn)
    · cases h
  | block id x _ =>
    intro c' F S e F' S' h hm β a w hR hf hF hn
    cases c' <;> try (simp [cmatch] at hm; done)
    rename_i id' x'
    simp only [cmatch, Bool.and_eq_true, beq_iff_eq] at hm
    obtain ⟨rfl, hm⟩ := hm
    simp only [execS] at h
    cases hx : ih x' F S with
    | no => rw [hx] at h; cases h
    | ok e1 F1 S1 =>
      rw [hx] at h
      have h1 := hih x' x F S e1 F1 S1 hx hm β a w hR hf hF hn
      refine wp_block (wp_mono h1 fun z a1 w1 hp => ?_)
      obtain ⟨p1, p2⟩ := hp
      cases e1 with
      | norm =>
        cases h
        cases z <;> try (cases p1; done)
        exact ⟨p1, p2⟩
      | exit i =>
        cases z <;> try (cases p1; done)
        rename_i j
        cases p1
        simp only [blockX] at h
        simp only [Exit.inBlock]
        split at h
        · rename_i hij
          cases h
          rw [if_pos (Nat.eq_of_beq_eq_true hij)]
          exact ⟨trivial, p2⟩
        · rename_i hij
          cases h
          rw [if_neg (fun e => by subst e; simp at hij)]
          exact ⟨rfl, p2⟩
      | ret =>
        cases h
        cases z <;> try (cases p1; done)
        exact ⟨p1, p2⟩
  | loop x _ =>
    intro c' F S e F' S' h hm β a w hR hf hF hn
    cases c' <;> try (simp [cmatch] at hm; done)
    rename_i x'
    simp only [execS] at h
    have hm' : cmatch P dm n vars x' x = true := by simpa [cmatch] using hm
    cases hx : ih x' F S with
    | no => rw [hx] at h; cases h
    | ok e1 F1 S1 =>
      rw [hx] at h
      have h1 := hih x' x F S e1 F1 S1 hx hm' β a w hR hf hF hn
      intro b k cs
      obtain ⟨z, a1, w1, hp, harr⟩ := h1 b (.inLoop x :: k) cs
      obtain ⟨p1, β1, p2, p3, p4, p5, p6⟩ := hp
      cases e1 with
      | norm =>
        cases z <;> try (cases p1; done)
        have h2 := hih (.loop x') (.loop x) F1 S1 e F' S' h hm β1 a1 w1 p2 (hf.step p3) p4 (by rw [p5]; exact hn)
        obtain ⟨z', a2, w2, hp', harr'⟩ := h2 b k cs
        refine ⟨z', a2, w2, hp'.step hf p2 p3 p5 p6, ?_⟩
        have hto : Steps P (lone (b.at a (.code (.loop x) :: k)) cs w) (lone (b.at a1 (.code x :: .inLoop x :: k)) cs w1) := .head step_loop (Steps.trans harr (.one step_inLoop))
        have hst : step P (lone (b.at a1 (.code (.loop x) :: k)) cs w1) = .next (lone (b.at a1 (.code x :: .inLoop x :: k)) cs w1) := step_loop
        obtain ⟨p7, _⟩ := hp'
        cases z' with
        | normal => exact hto.trans (steps_behind hst harr' (lone_ne (Nat.le_refl _)))
        | exit id => exact fun k' hk' => hto.trans (steps_behind hst (harr' k' hk') (lone_ne (exitTo_length id k k' hk')))
        | ret =>
          obtain ⟨todo, hr⟩ := harr'
          exact ⟨todo, hto.trans (steps_behind hst hr lone_ne_mode)⟩
        | goto l => cases e <;> cases p7
        | panic c => cases e <;> cases p7
        | outgrown => cases e <;> cases p7
      | exit i =>
        cases h
        cases z <;> try (cases p1; done)
        exact ⟨_, a1, w1, ⟨p1, β1, p2, p3, p4, p5, p6⟩, .of_steps (.one step_loop) (.pass (x := .inLoop x) rfl (fun _ _ => .inl (by simp)) harr)⟩
      | ret =>
        cases h
        cases z <;> try (cases p1; done)
        exact ⟨_, a1, w1, ⟨p1, β1, p2, p3, p4, p5, p6⟩, .of_steps (.one step_loop) (.pass (x := .inLoop x) rfl (fun _ _ => .inl (by simp)) harr)⟩
  | exit id =>
    intro c' F S e F' S' h hm β a w hR hf hF hn
    cases c' <;> try (simp [cmatch] at hm; done)
    simp only [cmatch, beq_iff_eq] at hm
    subst hm
    cases h
    exact wp_exit ⟨rfl, β, hR, Step.refl _ _ _, hF, rfl, rfl⟩
  | ret =>
    intro c' F S e F' S' h hm β a w hR hf hF hn
    cases c' <;> try (simp [cmatch] at hm; done)
    cases h
    exact wp_ret ⟨trivial, β, hR, Step.refl _ _ _, hF, rfl, rfl⟩
  | rangeFunc f p x y _ _ =>
    intro c' F S e F' S' h hm
    cases c' <;> simp [cmatch] at hm
  | label l =>
    intro c' F S e F' S' h hm
    cases c' <;> simp [cmatch] at hm
  | goto l =>
    intro c' F S e F' S' h hm
    cases c' <;> simp [cmatch] at hm
  | refuse s =>
    intro c' F S e F' S' h hm
    cases c' <;> simp [cmatch] at hm

/-- One result. -/
def resSem (tmps : Array Value) : ResultVar → Sem Value
  | .tmp t => pure (tmps.getD t undef)
  | .cell a t => do loadVar t (← asAddr (tmps.getD a undef))

theorem results_form (fn : Func) (tmps : Array Value) : results fn tmps = (do
    let vs ← fn.results.mapM (resSem tmps)
    pure (if h : vs.size = 1 then vs[0] else .tuple vs)) := by
  unfold results
  congr 1

/-- The results of a function. -/
theorem results_sound {S : St} {β : Beta} {w : World} (hR : Rel B S β w) {vars : List Nat} {F : Fr} {tmps : Array Value} (hF : FR β vars F tmps) :
    ∀ (l : List ARes) (r : List ResultVar) (vs : List AV), resmatch P vars l r = true → resAll F S l = some vs →
    ∃ us : List Value, (r.mapM (resSem tmps)).run P w = .ok us w ∧ LR β vs us.toArray := by
  intro l
  induction l with
  | nil =>
    intro r vs h1 h2
    cases r with
    | nil => cases h2; exact ⟨[], rfl, LR.nil β⟩
    | cons x r => simp [resmatch] at h1
  | cons x l ih =>
    intro r vs h1 h2
    have h2' : (match resA F S x, resAll F S l with | some v, some l => some (v :: l) | _, _ => none) = some vs := h2
    split at h2'
    · rename_i v vs' hv hvs
      cases h2'
      cases r with
      | nil => cases x <;> simp [resmatch] at h1
      | cons y r =>
        cases x with
        | tmp t =>
          cases y with
          | cell _ _ => simp [resmatch] at h1
          | tmp t' =>
            simp only [resmatch, Bool.and_eq_true, beq_iff_eq, List.contains_iff_mem] at h1
            obtain ⟨⟨rfl, h3⟩, h4⟩ := h1
            obtain ⟨us, u1, u2⟩ := ih r vs' h4 hvs
            obtain ⟨u, u3, u4⟩ := hF t h3 v hv
            refine ⟨u :: us, ?_, LR.cons u4 u2⟩
            have hg : tmps.getD t undef = u := by rw [Array.getD_eq_getD_getElem?, u3]; rfl
            simp only [List.mapM_cons, resSem, Sem.run_bind, hg, Sem.run_pure, Result.andThen_ok, u1]
        | cell t n =>
          cases y with
          | tmp _ => simp [resmatch] at h1
          | cell t' ty =>
            simp only [resmatch, Bool.and_eq_true, beq_iff_eq, List.contains_iff_mem] at h1
            obtain ⟨⟨⟨rfl, h3⟩, h5⟩, h4⟩ := h1
            obtain ⟨us, u1, u2⟩ := ih r vs' h4 hvs
            simp only [resA] at hv
            split at hv
            · rename_i av hav
              obtain ⟨u, u3, u4⟩ := hF t h3 av hav
              obtain ⟨ad, uv, u5, u6, u7⟩ := doLoad_sound (P := P) hR hv u4 h5
              refine ⟨uv :: us, ?_, LR.cons u7 u2⟩
              have hg : tmps.getD t undef = .pointer (some ad) := by rw [Array.getD_eq_getD_getElem?, u3, ← u5]; rfl
              simp only [List.mapM_cons, resSem, Sem.run_bind, hg, asAddr, Sem.run_pure, Result.andThen_ok, u6, u1]
            · cases hv
    · cases h2'

theorem run_results {S : St} {β : Beta} {w : World} (hR : Rel B S β w) {vars : List Nat} {F : Fr} {tmps : Array Value} (hF : FR β vars F tmps) {fn : Func} {l : List ARes} {vs : List AV} (h1 : resmatch P vars l fn.results.toList = true) (h2 : resAll F S l = some vs) :
    ∃ u, (results fn tmps).run P w = .ok u w ∧ VR β (resV vs) u := by
  obtain ⟨us, u1, u2⟩ := results_sound (P := P) hR hF l _ vs h1 h2
  have hs := u2.size
  have hrun : (results fn tmps).run P w = .ok (if h : us.toArray.size = 1 then us.toArray[0] else .tuple us.toArray) w := by
    rw [results_form, Sem.run_bind, Array.mapM_eq_mapM_toList, Sem.run_map]
    rw [u1]
    rfl
  refine ⟨_, hrun, ?_⟩
  unfold resV
  split
  · rename_i v
    have h3 : us.toArray.size = 1 := by rw [hs]; rfl
    rw [dif_pos h3]
    have := u2.at_ 0 (by simp) (by omega)
    exact this
  · rename_i hne
    have h3 : ¬ us.toArray.size = 1 := by
      rw [hs]
      intro e
      obtain ⟨v, rfl⟩ := List.length_eq_one_iff.1 e
      exact hne v rfl
    rw [dif_neg h3]
    exact .tup _ _ u2.size u2.at_

theorem callB_sound {A : PT AFn} {hk : Hook} {dm : Nat → List Nat → List Nat → List AOp → Array Oper → Bool} (hA : Good P dm A) (hhk : HookOK P B hk) {ih : ACode → Fr → St → XR}
    (hih : ∀ n vars c' c F S e F' S', ih c' F S = .ok e F' S' → cmatch P dm n vars c' c = true → ∀ β a w, Rel B S β w → FreeU β S.next → FR β vars F a.tmps → n ≤ a.tmps.size → c.wp P (Post B vars S β w a e F' S') a w) :
    ClOK P B (callB A hk ih) := by
  intro f args S v S' h
  unfold callB at h
  split at h
  · rename_i v' hv
    cases h
    obtain ⟨h1, h2⟩ := hhk.1 f args _ hv
    refine ⟨h1, fun β w x hR hf hl => (h2 β w x hl).mono ?_⟩
    rintro e w' ⟨u, rfl, q1, q2⟩
    refine ⟨β, u, rfl, q1, ?_, ?_⟩
    · refine ⟨hR.hlt, fun b m hb => Nat.lt_of_lt_of_le (hR.bsz b m hb) q2.size, fun b blk m hb hm => ?_, hR.inj, Nat.le_trans hR.bB q2.size⟩
      obtain ⟨a1, a2⟩ := hR.live b blk m hb hm
      exact ⟨a1, a2.world (q2.block _ (hR.bsz b m hm))⟩
    · exact ⟨Nat.le_refl _, β.le_refl, fun _ _ h => .inl h, fun _ _ h => h, fun _ _ _ => rfl, q2.os, q2.tape, q2.output, q2.size, fun c hc _ => q2.block c hc⟩
  · split at h
    · rename_i fn' hfn'
      split at h
      · rename_i hlen
        have hlen' := Nat.eq_of_beq_eq_true hlen
        obtain ⟨fn, hfn, hm⟩ := hA f fn' hfn'
        unfold fmatch at hm
        simp only [Bool.and_eq_true] at hm
        obtain ⟨⟨hm1, hm2⟩, hm3⟩ := hm
        split at hm1
        · rename_i c hc
          refine ⟨by simp [bodyOK, hfn, hc]; simpa using hm2, fun β w x hR hf hl => ?_⟩
          refine calls_of_wp hfn hc ?_
          have hF : FR β fn'.vars (ofList args) (x ++ Array.replicate (fn.ntmps - x.size) undef) := by
            intro t _ v hv
            rw [get_ofList] at hv
            obtain ⟨u, u1, u2⟩ := hl.get hv
            refine ⟨u, ?_, u2⟩
            have : t < x.size := (Array.getElem?_eq_some_iff.1 u1).1
            rw [Array.getElem?_append_left this, u1]
          have hret : ∀ (e : AE) (F' : Fr) (S1 : St), ih fn'.body (ofList args) S = .ok e F' S1 → retA fn' (.ok e F' S1) = .ok v S' → (e = .norm ∨ e = .ret) ∧ ∃ vs, resAll F' S1 fn'.results = some vs ∧ v = resV vs ∧ S1 = S' := by
            intro e F' S1 _ hr
            cases e with
            | exit i => cases hr
            | norm =>
              simp only [retA] at hr
              split at hr
              · rename_i vs hvs
                cases hr
                exact ⟨.inl rfl, vs, hvs, rfl, rfl⟩
              · cases hr
            | ret =>
              simp only [retA] at hr
              split at hr
              · rename_i vs hvs
                cases hr
                exact ⟨.inr rfl, vs, hvs, rfl, rfl⟩
              · cases hr
          cases hx : ih fn'.body (ofList args) S with
          | no => rw [hx] at h; cases h
          | ok e F' S1 =>
            rw [hx] at h
            obtain ⟨he, vs, hvs, rfl, rfl⟩ := hret e F' S1 hx h
            have hwp := hih fn.ntmps fn'.vars fn'.body c (ofList args) S e F' S1 hx hm1 β { tmps := x ++ Array.replicate (fn.ntmps - x.size) undef, defers := [] } w hR hf hF (by simp; omega)
            refine wp_mono hwp fun z a' w' hp => ?_
            obtain ⟨p1, β1, p2, p3, p4, p5, p6⟩ := hp
            obtain ⟨u, r1, r2⟩ := run_results (P := P) p2 p4 hm3 hvs
            have hz : z = .normal ∨ z = .ret := by
              rcases he with rfl | rfl <;> cases z <;> first | exact .inl rfl | exact .inr rfl | (cases p1; done)
            rcases hz with rfl | rfl
            · exact ⟨p6, u, r1, β1, u, rfl, r2, p2, p3⟩
            · exact ⟨p6, u, r1, β1, u, rfl, r2, p2, p3⟩
        · cases hm1
      · cases h
    · cases h

theorem call_sound {A : PT AFn} {hk : Hook} {dm : Nat → List Nat → List Nat → List AOp → Array Oper → Bool} (hA : Good P dm A) (hhk : HookOK P B hk) {ih : ACode → Fr → St → XR}
    (hih : ∀ n vars c' c F S e F' S', ih c' F S = .ok e F' S' → cmatch P dm n vars c' c = true → ∀ β a w, Rel B S β w → FreeU β S.next → FR β vars F a.tmps → n ≤ a.tmps.size → c.wp P (Post B vars S β w a e F' S') a w) :
    ClOK P B (callA A hk ih) := by
  intro f args S v S' h
  unfold callA at h
  have hB := callB_sound hA hhk hih
  split at h
  · rename_i r hr
    subst h
    exact hhk.2 _ hB f args S v S' hr
  · exact hB f args S v S' h

/-- THE EVALUATOR IS RIGHT. -/
theorem exec_sound {A : PT AFn} {hk : Hook} {dm : Nat → List Nat → List Nat → List AOp → Array Oper → Bool} {dr : (Nat → List AV → St → OR) → List Nat → List AOp → Fr → St → XR} (hdr : DrawOK P B dm dr) (hA : Good P dm A) (hhk : HookOK P B hk) (fuel : Nat) :
    ∀ n vars c' c F S e F' S', execG A hk dr fuel c' F S = .ok e F' S' → cmatch P dm n vars c' c = true → ∀ β a w, Rel B S β w → FreeU β S.next → FR β vars F a.tmps → n ≤ a.tmps.size → c.wp P (Post B vars S β w a e F' S') a w := by
  induction fuel with
  | zero => intro n vars c' c F S e F' S' h; cases h
  | succ fuel ih =>
    intro n vars c' c F S e F' S' h hm
    exact code_sound hdr (call_sound hA hhk ih) n vars (fun c' c F S e F' S' h hm => ih n vars c' c F S e F' S' h hm) c c' F S e F' S' h hm

end
end Go.Av
