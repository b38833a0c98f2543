/- Drawn regions: one operation, and all orders. -/
import Derived.Test.YtbfmjoheolgjeaaGreatDoorAvQ
namespace Go.Av
section
variable {P : Program} {B : Nat}

theorem chkOne_spec {cl : Nat → List AV → St → OR} {sts : List St} {env : List AV} {F : Fr} {x : AX} {v : AV} : ∀ {l : List Nat}, chkOne cl sts env F x v l = true → ∀ i ∈ l, ∃ S v' S1, sts[i]? = some S ∧ aop cl env F S x = .ok v' S1 ∧ v = v' := by
  intro l
  induction l with
  | nil => intro _ i hi; cases hi
  | cons k l ih =>
    intro h i hi
    replace h : (match nthS sts k with
      | some S => match aop cl env F S x with
        | .ok v' _ => match avEq v v' with | true => chkOne cl sts env F x v l | false => false
        | .no => false
      | none => false) = true := h
    split at h
    · rename_i S hS
      split at h
      · rename_i v' S1 hv
        split at h
        · rename_i he
          rcases List.mem_cons.1 hi with rfl | hi
          · exact ⟨S, v', S1, by rw [← nthS_eq]; exact hS, hv, avEq_eq _ _ he⟩
          · exact ih h i hi
        · cases h
      · cases h
    · cases h

variable {cl : Nat → List AV → St → OR} {n : Nat} {vars perm : List Nat} {as : List AOp} {ops : Array Oper} {F : Fr} {vals : Nat → AV} {st : Nat → St} {S : St} {β0 : Beta} {w0 : World} {a0 : Act}

theorem Inv.stable (D : DC P B cl n vars perm as ops F vals st) {listed : Array Bool} {a : Act} {w : World} {β : Beta} {p j : Nat} {x : AOp} {S1 : St} (I : Inv B n vars perm as ops F vals st S β0 w0 a0 listed a w β p)
    (hj : j < as.length) (hx : as[j]? = some x) (hbef : ∀ i ∈ x.bef, Xd perm listed i) (hnX : ¬ Xd perm listed j) (hk : kindO x ≤ 1)
    (d2 : ∀ i ∈ x.bef, i < j) (d6 : kindO x = 1 → ∀ q, q ≤ as.length → (q = as.length ∨ kindAt as q = 2) → lookOK as j x q = true)
    (hw : wantA (envFrom vals [] j) F x.guard = some true) (hop : aop cl (envFrom vals [] j) F (st j) x.x = .ok (vals j) S1) : aop cl (envFrom vals [] j) F (st p) x.x = .ok (vals j) (st p) := by
  rcases kindO_cases x with ⟨h3, _⟩ | h3
  · omega
  by_cases h0 : kindX x.x = 0
  · exact kind_pure (st p) h0 hop
  have h1 : kindO x = 1 := by omega
  have hl := d6 h1 p I.hpN I.hp
  unfold lookOK at hl
  simp only [Bool.or_eq_true, List.any_eq_true, Bool.and_eq_true, decide_eq_true_eq, beq_iff_eq, List.mem_range, List.contains_iff_mem, List.all_eq_true] at hl
  rcases hl with ((⟨i, h4, h5, h6⟩ | ⟨i, h4, h5, h6⟩) | ⟨h4, h5⟩) | h4
  · have := d2 i h4
    have := (I.hc i (by omega) h6).1 (hbef i h4)
    omega
  · have hpN := I.hpN
    exact absurd (I.cl i (by omega) ((I.hc i (by omega) h5).2 h4) j h6) hnX
  · have hsame : ∀ d, j + d ≤ p → st (j + d) = st j := by
      intro d
      induction d with
      | zero => intro _; rfl
      | succ d ih =>
        intro hd
        have hpN := I.hpN
        have hlt : kindAt as (j + d) < 2 := by
          rcases h5 (j + d) (by omega) with h | h
          · omega
          · exact h
        rcases D.hst (j + d) (by omega) (by omega) with h | ⟨h, _⟩
        · rw [← ih (by omega), ← h]; rfl
        · omega
    have := hsame (p - j) (by omega)
    rw [show j + (p - j) = p by omega] at this
    rw [this]
    have hS1 := kind_keep (by omega) hop
    rw [hS1] at hop
    exact hop
  · have hc := D.chk j x hx
    unfold chkOp at hc
    simp only [hw] at hc
    split at hc
    · rename_i h; rw [h] at h4; cases h4
    · obtain ⟨S', v', S2, e1, e2, rfl⟩ := chkOne_spec hc _ h4
      rw [stsFrom_get st _ _ (by omega), show as.length - (as.length - p) = p by have := I.hpN; omega] at e1
      cases e1
      rw [e2, kind_keep (by omega) e2]

theorem lf_none (b : Nat) : (PT.lf : PT ABlk).get b = none := by
  cases b <;> rfl

theorem Inv.step (D : DC P B cl n vars perm as ops F vals st) (hs0 : st 0 = S) (hf0 : FreeU β0 S.next) {listed : Array Bool} {a : Act} {w : World} {β : Beta} {p j k : Nat} {Q : Exit → Act → World → Prop} {K : Act → World → Prop}
    (I : Inv B n vars perm as ops F vals st S β0 w0 a0 listed a w β p) (hj : j < as.length) (hk : perm[j]? = some k) (hnX : ¬ Xd perm listed j)
    (hedge : ∀ o, ops[k]? = some o → ∀ e ∈ o.after, Region.binds .any e = true → listed.getD e.on false = true)
    (hK : ∀ a' w' β' p', Inv B n vars perm as ops F vals st S β0 w0 a0 (listed.setIfInBounds k true) a' w' β' p' → K a' w') : wpOp P ops Q k K a w := by
  obtain ⟨x, o, k', hx, hk', ho, hpl⟩ := D.pl j hj
  rw [hk] at hk'
  cases hk'
  obtain ⟨d1, d2, d3, d4, d5, d6, d7, d8⟩ := placeOK_spec hpl
  have hE := hedge o ho
  have hbef : ∀ i ∈ x.bef, Xd perm listed i := by
    intro i hi
    obtain ⟨_, e, he, hb, h | ⟨i', h1, h2, h3⟩⟩ := d5 i hi
    · exact ⟨e.on, h, hE e he hb⟩
    · exact I.cl i' (by omega) ⟨e.on, h2, hE e he hb⟩ i h3
  have hkA : kindAt as j = kindO x := kindAt_eq hx
  have hle : 2 ≤ kindO x → j ≤ p := by
    intro h
    rcases I.hp with hp | hp
    · omega
    · rcases Nat.lt_or_ge p j with hlt | hge
      · have h1 := hbef p (d7 h p hlt hp)
        have := (I.hc p (by omega) hp).1 h1
        omega
      · exact hge
  have hchain : kindO x = 2 → j = p := by
    intro h
    have h1 := hle (by omega)
    have h2 : ¬ j < p := fun h3 => hnX ((I.hc j hj (by omega)).2 h3)
    omega
  have hom := I.om hj hbef hnX
  have hwant : ∀ b, wantA (envFrom vals [] j) F x.guard = some b → Region.wanted o (yielded ops a.tmps) = b := fun b hb => want_sound' (I.known hj hbef hnX) d2 hb
  have hr := D.run j x hx
  -- the cut stays where it is
  have stay : ∀ (u : Value) (β' : Beta) (w' : World), kindO x ≠ 2 → VR β' (vals j) u → β.le β' → Mid B as.length as (fun i => Xd perm listed i ∨ i = j) S β0 w0 st p β' w' → K (a.put o.dst u) w' := by
    intro u β' w' hne hu hl hm
    refine hK _ _ β' p (I.next D hj hx hk ho hpl hbef hnX hu hl hm I.hpN I.hp fun i hi hki => ?_)
    constructor
    · rintro (h | rfl)
      · exact (I.hc i hi hki).1 h
      · omega
    · exact fun h => .inl ((I.hc i hi hki).2 h)
  -- the cut goes on
  have go_on : ∀ (u : Value) (β' : Beta) (w' : World), kindO x = 2 → VR β' (vals j) u → β.le β' → Mid B as.length as (fun i => Xd perm listed i ∨ i = j) S β0 w0 st (p + 1) β' w' → K (a.put o.dst u) w' := by
    intro u β' w' h2 hu hl hm
    have hjp := hchain h2
    subst hjp
    obtain ⟨p', p1, p2, p3, p4, p5⟩ := hm.advance D.hst (as.length - (j + 1)) (j + 1) (by omega)
    refine hK _ _ β' p' (I.next D hj hx hk ho hpl hbef hnX hu hl p5 p2 p3 fun i hi hki => ?_)
    constructor
    · rintro (h | rfl)
      · have := (I.hc i hi hki).1 h
        omega
      · omega
    · intro h
      by_cases e : i < j
      · exact .inl ((I.hc i hi hki).2 e)
      · by_cases e2 : i = j
        · exact .inr e2
        · exact absurd hki (p4 i (by omega) h)
  unfold wpOp
  simp only [ho]
  unfold dopA at hr
  split at hr
  · rename_i hw
    rw [hwant true hw]
    simp only [if_true]
    refine .inl ?_
    by_cases hk3 : kindO x = 3
    · have hm : makerX x.x = true := by
        rcases kindO_cases x with ⟨_, h⟩ | h
        · exact h
        · have := kindX_le x.x; omega
      have hjp : j < p := by
        have := hle (by omega)
        rcases I.hp with hp | hp
        · omega
        · have : j ≠ p := fun e => by subst e; omega
          omega
      obtain ⟨m1, blk, m2, h', m3, m4, m5⟩ := maker_free hm hr
      obtain ⟨f1, f2⟩ := I.mid.fl j hj (by omega) hjp hnX (by omega)
      rw [m2, if_pos rfl] at f2
      have hRf : Rel B ⟨(st j).next, .lf⟩ β w := by
        refine ⟨fun b hb => absurd (lf_none b) hb, I.mid.rel.bsz, fun b bk m hb _ => ?_, fun b b' m m' _ hb => absurd (lf_none b) hb, I.mid.rel.bB⟩
        rw [show (⟨(st j).next, .lf⟩ : St).heap.get b = none from lf_none b] at hb
        cases hb
      have hno : ∀ c, ¬ Owned ⟨(st j).next, .lf⟩ β c := by
        rintro c ⟨b, m, hb, _⟩
        exact hb (lf_none b)
      have hids := I.mid.mono (j + 1) p hjp (Nat.le_refl _)
      have hid0 := I.mid.mono 0 j (by omega) (by omega)
      rw [hs0] at hid0
      obtain ⟨β', u, w', q1, q2, q3, q4⟩ := aop_sound (P := P) hRf hom m3 (fun b h1 h2 => by
        have e : b = (st j).next := by
          have h1' : (st j).next ≤ b := h1
          have h2' : b < (st j).next + 1 := h2
          omega
        rw [e]; exact f1) d3 (fun f l e => by rw [e] at hm; cases hm) (fun y l e => by rw [e] at hm; cases hm)
      have hnw : ∀ b m, β' b = some m → β b = some m ∨ (b = (st j).next ∧ w.heap.size ≤ m.blk) := by
        intro b m hb
        rcases q4.nw b m hb with h | ⟨h1, h2, h3⟩
        · exact .inl h
        · have h1' : (st j).next ≤ b := h1
          have h2' : b < (st j).next + 1 := h2
          rcases h3 with h3 | h3
          · exact .inr ⟨by omega, h3⟩
          · exact absurd h3 (hno _)
      have hmid : Mid B as.length as (fun i => Xd perm listed i ∨ i = j) S β0 w0 st p β' w' := by
        refine ⟨⟨I.mid.rel.hlt, q3.bsz, ?_, ?_, q3.bB⟩, ?_, ?_, I.mid.mono, ?_⟩
        · intro b bk m hb hm'
          rcases hnw b m hm' with h | ⟨rfl, h⟩
          · obtain ⟨a1, a2⟩ := I.mid.rel.live b bk m hb h
            exact ⟨a1, (a2.mono q4.le).world (q4.kept _ (I.mid.rel.bsz b m h) (hno _))⟩
          · rw [f2] at hb
            cases hb
            exact q3.live _ blk m m4 hm'
        · intro b b' m m' hne l1 l2 e1 e2
          rcases hnw b m e1 with h | ⟨rfl, h⟩
          · rcases hnw b' m' e2 with g | ⟨rfl, g⟩
            · exact I.mid.rel.inj b b' m m' hne l1 l2 h g
            · have := I.mid.rel.bsz b m h; omega
          · rcases hnw b' m' e2 with g | ⟨rfl, g⟩
            · have := I.mid.rel.bsz b' m' g; omega
            · exact absurd rfl hne
        · intro b hb
          cases hm' : β' b with
          | none => rfl
          | some m =>
            rcases hnw b m hm' with h | ⟨rfl, h⟩
            · rw [I.mid.fu b hb] at h; cases h
            · omega
        · have hs := I.mid.step
          refine ⟨hs.nx, Beta.le_trans hs.le q4.le, ?_, hs.lv, hs.nt, q4.os.trans hs.os, q4.tape.trans hs.tape, q4.output.trans hs.output, Nat.le_trans hs.size q4.size, ?_⟩
          · intro b m hb
            rcases hnw b m hb with h | ⟨rfl, h⟩
            · exact hs.nw b m h
            · have := hs.size
              exact .inr ⟨hid0, by omega, .inl (by omega)⟩
          · intro c hc ho'
            have := hs.size
            exact (q4.kept c (by omega) (hno c)).trans (hs.kept c hc ho')
        · intro i hi hi3 hip hiX hin
          have hij : i ≠ j := fun e => hiX (.inr e)
          obtain ⟨g1, g2⟩ := I.mid.fl i hi hi3 hip (fun h => hiX (.inl h)) hin
          refine ⟨?_, g2⟩
          cases hm' : β' (st i).next with
          | none => rfl
          | some m =>
            rcases hnw _ m hm' with h | ⟨h, _⟩
            · rw [g1] at h; cases h
            · rcases Nat.lt_or_ge i j with hlt | hge
              · have := I.mid.mono (i + 1) j hlt (by omega); omega
              · have := I.mid.mono (j + 1) i (by omega) (by omega); omega
      have hfin := stay u β' w' (by omega) q2 q4.le hmid
      unfold Oper.wp
      rcases q1 with q1 | ⟨q1, rfl⟩
      · rw [q1]; exact hfin
      · rw [q1]; exact hfin
    · by_cases hk2 : kindO x = 2
      · have hjp := hchain hk2
        subst hjp
        refine op_sound D.hcl I.mid.rel hom hr I.mid.fu d3 fun β' u w' hv hR hS => ?_
        exact go_on u β' w' hk2 hv hS.le ((I.mid.after hf0 hS hR (.inr ⟨rfl, by omega⟩)).mono_X fun i hi => .inl hi)
      · have hk1 : kindO x ≤ 1 := by
          rcases kindO_cases x with ⟨h, _⟩ | h
          · omega
          · have := kindX_le x.x; omega
        have hs := I.stable D hj hx hbef hnX hk1 (fun i hi => (d5 i hi).1) d6 hw hr
        refine op_sound D.hcl I.mid.rel hom hs I.mid.fu d3 fun β' u w' hv hR hS => ?_
        exact stay u β' w' hk2 hv hS.le ((I.mid.after hf0 hS hR (.inl rfl)).mono_X fun i hi => .inl hi)
  · rename_i hw
    rw [hwant false hw]
    simp only [Bool.false_eq_true, if_false]
    injection hr with h1 h2
    have hu : VR β (vals j) undef := by rw [← h1]; exact undef_rel β
    by_cases hk2 : kindO x = 2
    · have hjp := hchain hk2
      subst hjp
      exact go_on undef β w hk2 hu β.le_refl ((I.mid.same h2.symm).mono_X fun i hi => .inl hi)
    · exact stay undef β w hk2 hu β.le_refl (I.mid.mono_X fun i hi => .inl hi)
  · cases hr

theorem Inv.all (D : DC P B cl n vars perm as ops F vals st) (hs0 : st 0 = S) (hf0 : FreeU β0 S.next) {Q : Exit → Act → World → Prop}
    (hQ : ∀ listed a w β p, Inv B n vars perm as ops F vals st S β0 w0 a0 listed a w β p → (∀ j, j < as.length → Xd perm listed j) → Q .normal a w) :
    ∀ (fuel : Nat) (R : List Nat) (listed : Array Bool) (a : Act) (w : World) (β : Beta) (p : Nat), R.length ≤ fuel → (∀ j, j < as.length → Xd perm listed j ∨ j ∈ R) →
      Inv B n vars perm as ops F vals st S β0 w0 a0 listed a w β p → wpAny P .any ops Q fuel listed a w := by
  intro fuel
  induction fuel with
  | zero =>
    intro R listed a w β p hR hX I
    have hR0 : R = [] := List.eq_nil_of_length_eq_zero (by omega)
    have hall : ∀ j, j < as.length → Xd perm listed j := by
      intro j hj
      rcases hX j hj with h | h
      · exact h
      · rw [hR0] at h; cases h
    refine ⟨?_, hQ _ _ _ _ _ I hall⟩
    cases hr : Region.ready .any ops listed with
    | nil => rfl
    | cons i l =>
      have hi : i ∈ Region.ready .any ops listed := by rw [hr]; exact List.mem_cons_self
      obtain ⟨h1, o, ho, _⟩ := mem_ready.1 hi
      have hlt : i < as.length := by rw [← D.hN]; exact (Array.getElem?_eq_some_iff.1 ho).1
      obtain ⟨j, hj, hj2⟩ := List.getElem_of_mem (D.sur i hlt)
      obtain ⟨k, k1, k2⟩ := hall j (by rw [← D.hp]; exact hj)
      rw [List.getElem?_eq_getElem hj, hj2] at k1
      cases k1
      have hls : i < listed.size := by rw [I.ls]; exact hlt
      simp [hls] at h1 k2
      rw [h1] at k2
      cases k2
  | succ fuel ih =>
    intro R listed a w β p hR hX I
    refine ⟨fun hr => hQ _ _ _ _ _ I ?_, fun i hi => ?_⟩
    · intro j
      induction j using Nat.strongRecOn with
      | _ j ihj =>
        intro hj
        apply Classical.byContradiction
        intro hn
        obtain ⟨x, o, k, hx, hk, ho, hpl⟩ := D.pl j hj
        obtain ⟨_, _, _, d4, _⟩ := placeOK_spec hpl
        have hlt : k < listed.size := by rw [I.ls, ← D.hN]; exact (Array.getElem?_eq_some_iff.1 ho).1
        have hmem : k ∈ Region.ready .any ops listed := by
          refine mem_ready.2 ⟨?_, o, ho, fun e he hb => ?_⟩
          · cases hc : listed.getD k false with
            | true => exact absurd ⟨k, hk, hc⟩ hn
            | false => simpa [hlt] using hc
          · obtain ⟨i, h1, h2⟩ := d4 e he hb
            obtain ⟨k', k1, k2⟩ := ihj i h1 (by omega)
            rw [h2] at k1
            cases k1
            exact k2
        rw [hr] at hmem
        cases hmem
    · obtain ⟨h1, o, ho, h2⟩ := mem_ready.1 hi
      have hlt : i < as.length := by rw [← D.hN]; exact (Array.getElem?_eq_some_iff.1 ho).1
      obtain ⟨j, hj, hj2⟩ := List.getElem_of_mem (D.sur i hlt)
      have hjN : j < as.length := by rw [← D.hp]; exact hj
      have hpj : perm[j]? = some i := by rw [List.getElem?_eq_getElem hj, hj2]
      have hnX : ¬ Xd perm listed j := by
        rintro ⟨k, k1, k2⟩
        rw [hpj] at k1
        cases k1
        have hls : i < listed.size := by rw [I.ls]; exact hlt
        simp [hls] at h1 k2
        rw [h1] at k2
        cases k2
      have hjR : j ∈ R := (hX j hjN).resolve_left hnX
      refine I.step D hs0 hf0 hjN hpj hnX (fun o' ho' e he hb => ?_) fun a' w' β' p' I' => ?_
      · rw [ho] at ho'
        cases ho'
        exact h2 e he hb
      · refine ih (R.erase j) _ a' w' β' p' ?_ (fun i' hi' => ?_) I'
        · have := List.length_erase_of_mem hjR; omega
        · rw [Xd_set D.nd hpj (by rw [I.ls]; exact hlt)]
          by_cases e : i' = j
          · exact .inl (.inr e)
          · rcases hX i' hi' with h | h
            · exact .inl (.inl h)
            · exact .inr ((List.mem_erase_of_ne e).2 h)

theorem draw_ok (hmix : P.follows .mixedOrders = true) : DrawOK P B (dmK P) drwX := by
  intro cl hcl n vars perm as ops id hdm F S e F' S' h β0 a0 w hR0 hf0 hF0 hn
  obtain ⟨k1, k2, k3, k4, k5⟩ := dmK_spec hdm
  unfold drwX at h
  cases hd : drun cl F as [] S [] with
  | no => rw [hd] at h; cases h
  | ok env sts =>
    rw [hd] at h
    obtain ⟨vals, st, hs0, hrun, rfl, rfl⟩ := drun_inv cl F as [] S [] env sts hd
    simp only [drwE] at h
    split at h
    · cases h
    · rename_i hchk
      have hlast : (stsFrom st [] as.length)[0]? = some (st as.length) := by
        have := stsFrom_get st as.length 0 (Nat.zero_le _)
        simpa using this
      split at h
      · rename_i S1 l hl
        rw [hl] at hlast
        cases hlast
        rw [PT.force_eq] at h
        cases h
        have hchk' := chkAll_inv cl (stsFrom st [] as.length) F vals as.reverse (by simpa using hchk)
        simp only [List.reverse_reverse] at hchk'
        have hasg := asgAll_inv vals as.reverse F
        simp only [List.reverse_reverse, List.length_reverse] at hasg
        have D : DC P B cl n vars perm as ops F vals st := ⟨hcl, k1, k2, k3, k4, k5, hrun, hchk'⟩
        refine wp_region_any hmix ?_
        have hw0 : Rel B S β0 { w with drawn := w.drawn + 1 } := hR0.drawn rfl
        have hmid0 : Mid B as.length as (Xd perm (Array.replicate ops.size false)) S β0 w st 0 β0 { w with drawn := w.drawn + 1 } := by
          refine ⟨by rw [hs0]; exact hw0, by rw [hs0]; exact hf0, by rw [hs0]; exact Step.drawn rfl rfl rfl rfl, fun i j h1 h2 => ?_, fun k _ _ hk => by omega⟩
          have : i = j := by omega
          subst this; exact Nat.le_refl _
        have hX0 : ∀ j, ¬ Xd perm (Array.replicate ops.size false) j := by
          rintro j ⟨k, h1, h2⟩
          by_cases hk : k < ops.size
          · simp [hk] at h2
          · simp [hk] at h2
        obtain ⟨p, p1, p2, p3, p4, p5⟩ := hmid0.advance D.hst as.length 0 (by omega)
        have I0 : Inv B n vars perm as ops F vals st S β0 w a0 (Array.replicate ops.size false) a0 { w with drawn := w.drawn + 1 } β0 p := by
          refine ⟨by simp [k1], p2, p3, fun i hi hki => ⟨fun h => absurd h (hX0 i), fun h => absurd hki (p4 i (Nat.zero_le _) h)⟩, fun j _ h => absurd h (hX0 j), p5, fun j _ h => absurd h (hX0 j), fun t ht _ v hv => hF0 t ht v hv, rfl, rfl, hn⟩
        refine Inv.all D hs0 hf0 ?_ ops.size (List.range as.length) _ a0 _ β0 p (by simp [k1]) (fun j hj => .inr (by simpa using hj)) I0
        intro listed a w' β p I hall
        have hpN : p = as.length := by
          rcases I.hp with h | h
          · exact h
          · rcases Nat.lt_or_ge p as.length with hlt | hge
            · have := (I.hc p hlt h).1 (hall p hlt); omega
            · have := I.hpN; omega
        subst hpN
        refine ⟨trivial, β, I.mid.rel, I.mid.step, fun t ht v hv => ?_, I.sz, I.df⟩
        rcases hasg t with ⟨j, x, h1, h2, h3⟩ | ⟨h1, h2⟩
        · rw [h3] at hv
          cases hv
          have hjN : j < as.length := (List.getElem?_eq_some_iff.1 h1).1
          obtain ⟨x', o, k, hx, hk, ho, hpl⟩ := k5 j hjN
          rw [h1] at hx
          cases hx
          obtain ⟨d1, _⟩ := placeOK_spec hpl
          rw [h2] at d1
          have : o.dst = some t := by
            cases hod : o.dst with
            | none => rw [hod] at d1; cases d1
            | some t' =>
              rw [hod] at d1
              simp only [ddmatch, Bool.and_eq_true, beq_iff_eq] at d1
              rw [d1.1.1]
          exact I.v1 j hjN (hall j hjN) t (by simp [dstAt, hk, ho, this])
        · rw [h2] at hv
          refine I.v2 t ht (fun j hj ha => ?_) v hv
          unfold asgAt at ha
          split at ha
          · rename_i x hx
            split at ha
            · rename_i t' hd'
              simp only [beq_iff_eq] at ha
              subst ha
              exact absurd hd' (h1 j x hx)
            · cases ha
          · cases ha
      · cases h

end
end Go.Av
