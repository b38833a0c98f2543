/- Drawn regions: the orders. -/
import Derived.Test.YtbfmjoheolgjeaaGreatDoorAvO
import Derived.Orders
namespace Go.Av
section
variable {P : Program} {B : Nat}

theorem kindX_le (x : AX) : kindX x ≤ 2 := by cases x <;> simp [kindX]

theorem kindO_cases (o : AOp) : (kindO o = 3 ∧ makerX o.x = true) ∨ kindO o = kindX o.x := by
  unfold kindO
  split
  · rename_i h
    simp only [Bool.and_eq_true] at h
    exact .inl ⟨rfl, h.2⟩
  · exact .inr rfl

theorem kindAt_eq {as : List AOp} {j : Nat} {o : AOp} (h : as[j]? = some o) : kindAt as j = kindO o := by simp [kindAt, h]
theorem befAt_eq {as : List AOp} {j : Nat} {o : AOp} (h : as[j]? = some o) : befAt as j = o.bef := by simp [befAt, h]

theorem placeOK_spec {n : Nat} {vars perm : List Nat} {as : List AOp} {ops : Array Oper} {j : Nat} {a : AOp} {o : Oper} (h : placeOK P n vars perm as ops j a o = true) :
    ddmatch n vars a.dst o.dst = true ∧ gmatch ops (omd ops vars perm as j a.bef) a.guard o.guard = true ∧ xmatch P (omd ops vars perm as j a.bef) o.op a.x = true ∧
    (∀ e ∈ o.after, Region.binds .any e = true → ∃ i, i < j ∧ perm[i]? = some e.on) ∧
    (∀ i ∈ a.bef, i < j ∧ ∃ e ∈ o.after, Region.binds .any e = true ∧ (perm[i]? = some e.on ∨ ∃ i', i' < j ∧ perm[i']? = some e.on ∧ i ∈ befAt as i')) ∧
    (kindO a = 1 → ∀ q, q ≤ as.length → (q = as.length ∨ kindAt as q = 2) → lookOK as j a q = true) ∧
    (2 ≤ kindO a → ∀ i, i < j → kindAt as i = 2 → i ∈ a.bef) ∧
    (∀ i, i < j → dstAt ops perm i = dstAt ops perm j → dstAt ops perm j = none) := by
  unfold placeOK at h
  simp only [Bool.and_eq_true] at h
  obtain ⟨⟨⟨⟨⟨⟨h1, h2⟩, h3⟩, h4⟩, h5⟩, h6⟩, h7⟩ := h
  refine ⟨h1, h2, h3, ?_, ?_, ?_, ?_, ?_⟩
  · intro e he hb
    have := List.all_eq_true.1 h4 e (by simpa using he)
    simp only [hb, Bool.not_true, Bool.false_or, List.any_eq_true, List.mem_range, beq_iff_eq] at this
    exact this
  · intro i hi
    have := List.all_eq_true.1 h5 i hi
    simp only [Bool.and_eq_true, decide_eq_true_eq, List.any_eq_true, Bool.or_eq_true, beq_iff_eq, List.mem_range, List.contains_iff_mem] at this
    obtain ⟨q1, e, q2, q3, q4⟩ := this
    exact ⟨q1, e, by simpa using q2, q3, q4⟩
  · intro hk q hq hq2
    rw [hk] at h6
    simp only [List.all_eq_true, List.mem_range] at h6
    have := h6 q (by omega)
    simp only [Bool.or_eq_true, Bool.not_eq_true', Bool.or_eq_false_iff, beq_eq_false_iff_ne, ne_eq] at this
    rcases this with ⟨q3, q4⟩ | q3
    · rcases hq2 with h | h
      · exact absurd h q3
      · exact absurd h q4
    · exact q3
  · intro hk i hi hki
    have : ((List.range j).all fun i => !(kindAt as i == 2) || a.bef.contains i) = true := by
      split at h6
      · omega
      · omega
      · exact h6
    simp only [List.all_eq_true, List.mem_range] at this
    have := this i hi
    simpa [hki] using this
  · intro i hi he
    simp only [List.all_eq_true, List.mem_range] at h7
    have := h7 i hi
    simpa [he] using this

structure DC (P : Program) (B : Nat) (cl : Nat → List AV → St → OR) (n : Nat) (vars perm : List Nat) (as : List AOp) (ops : Array Oper) (F : Fr) (vals : Nat → AV) (st : Nat → St) : Prop where
  hcl : ClOK P B cl
  hN : ops.size = as.length
  hp : perm.length = as.length
  nd : perm.Nodup
  sur : ∀ i, i < as.length → i ∈ perm
  pl : ∀ j, j < as.length → ∃ a o k, as[j]? = some a ∧ perm[j]? = some k ∧ ops[k]? = some o ∧ placeOK P n vars perm as ops j a o = true
  run : ∀ j o, as[j]? = some o → dopA cl F o (envFrom vals [] j) (st j) = .ok (vals j) (st (j + 1))
  chk : ∀ j o, as[j]? = some o → chkOp cl (stsFrom st [] as.length) F o (vals j :: envFrom vals [] j) = true

theorem dmK_spec {n : Nat} {vars perm : List Nat} {as : List AOp} {ops : Array Oper} (h : dmK P n vars perm as ops = true) : ops.size = as.length ∧ perm.length = as.length ∧ perm.Nodup ∧ (∀ i, i < as.length → i ∈ perm) ∧
    ∀ j, j < as.length → ∃ a o k, as[j]? = some a ∧ perm[j]? = some k ∧ ops[k]? = some o ∧ placeOK P n vars perm as ops j a o = true := by
  unfold dmK at h
  simp only [Bool.and_eq_true, beq_iff_eq, decide_eq_true_eq] at h
  obtain ⟨⟨⟨⟨h1, h2⟩, h3⟩, h4⟩, h5⟩ := h
  refine ⟨h1, h2, h3, fun i hi => ?_, fun j hj => ?_⟩
  · simp only [List.all_eq_true, List.mem_range] at h4
    simpa using h4 i hi
  · simp only [List.all_eq_true, List.mem_range] at h5
    have := h5 j hj
    split at this
    · rename_i a o ha ho
      rw [Option.bind_eq_some_iff] at ho
      obtain ⟨k, hk, ho⟩ := ho
      exact ⟨a, o, k, ha, hk, ho, this⟩
    · cases this

def Xd (perm : List Nat) (listed : Array Bool) (j : Nat) : Prop := ∃ k, perm[j]? = some k ∧ listed.getD k false = true

theorem Xd_set {perm : List Nat} {listed : Array Bool} (hnd : perm.Nodup) {j k : Nat} (hj : perm[j]? = some k) (hk : k < listed.size) (i : Nat) :
    Xd perm (listed.setIfInBounds k true) i ↔ Xd perm listed i ∨ i = j := by
  constructor
  · rintro ⟨k', h1, h2⟩
    by_cases e : k = k'
    · subst e
      refine .inr ?_
      have hlt : i < perm.length := (List.getElem?_eq_some_iff.1 h1).1
      exact (List.getElem?_inj hlt hnd).1 (h1.trans hj.symm)
    · rw [getD_set_ne false e] at h2
      exact .inl ⟨k', h1, h2⟩
  · rintro (⟨k', h1, h2⟩ | rfl)
    · exact ⟨k', h1, getD_set_true h2⟩
    · exact ⟨k, hj, by simp [hk]⟩

theorem want_sound' {β : Beta} {env : List AV} {F : Fr} {a : Act} {om : Opd → Operand → Bool} (hk : ∀ x t v, om x (.tmp t) = true → ov env F x = some v → (∀ c, x ≠ .cst c) → ∃ u, a.tmps[t]? = some u ∧ VR β v u)
    {ops : Array Oper} {g : Option (Opd × Bool)} {o : Oper} {b : Bool} (hg : gmatch ops om g o.guard = true) (h : wantA env F g = some b) : Region.wanted o (yielded ops a.tmps) = b := by
  unfold Region.wanted
  cases g with
  | none =>
    cases hog : o.guard with
    | some q => rw [hog] at hg; simp [gmatch] at hg
    | none => cases h; rfl
  | some q =>
    obtain ⟨x, t⟩ := q
    cases hog : o.guard with
    | none => rw [hog] at hg; simp [gmatch] at hg
    | some q' =>
      obtain ⟨j, t'⟩ := q'
      rw [hog] at hg
      simp only [gmatch, Bool.and_eq_true, beq_iff_eq] at hg
      obtain ⟨rfl, hg⟩ := hg
      split at hg
      · rename_i td htd
        simp only [Bool.and_eq_true] at hg
        have hx : ∀ c, x ≠ .cst c := fun c e => by subst e; simp at hg
        simp only [wantA] at h
        split at h
        · rename_i bb hv
          obtain ⟨u, u1, u2⟩ := hk _ _ _ hg.1 hv hx
          cases u2
          simp only [yielded, htd, Option.bind_some, u1]
          cases h
          cases bb <;> cases t <;> rfl
        · rename_i vv hnb hv
          obtain ⟨u, u1, u2⟩ := hk _ _ _ hg.1 hv hx
          cases h
          have hy : yielded ops a.tmps j = none := by
            simp only [yielded, htd, Option.bind_some, u1]
            cases u2 <;> first | rfl | exact absurd rfl (hnb _)
          simp [hy]
        · cases h
      · cases hg

structure Inv (B n : Nat) (vars perm : List Nat) (as : List AOp) (ops : Array Oper) (F : Fr) (vals : Nat → AV) (st : Nat → St) (S : St) (β0 : Beta) (w0 : World) (a0 : Act) (listed : Array Bool) (a : Act) (w : World) (β : Beta) (p : Nat) : Prop where
  ls : listed.size = as.length
  hpN : p ≤ as.length
  hp : p = as.length ∨ kindAt as p = 2
  hc : ∀ i, i < as.length → kindAt as i = 2 → (Xd perm listed i ↔ i < p)
  cl : ∀ j, j < as.length → Xd perm listed j → ∀ i ∈ befAt as j, Xd perm listed i
  mid : Mid B as.length as (Xd perm listed) S β0 w0 st p β w
  v1 : ∀ j, j < as.length → Xd perm listed j → ∀ t, dstAt ops perm j = some t → ∃ u, a.tmps[t]? = some u ∧ VR β (vals j) u
  v2 : ∀ t ∈ vars, (∀ j, j < as.length → asgAt as j t = true → ¬ Xd perm listed j) → ∀ v, F.get t = some v → ∃ u, a.tmps[t]? = some u ∧ VR β v u
  sz : a.tmps.size = a0.tmps.size
  df : a.defers = a0.defers
  hn : n ≤ a0.tmps.size

section
variable {cl : Nat → List AV → St → OR} {n : Nat} {vars perm : List Nat} {as : List AOp} {ops : Array Oper} {F : Fr} {vals : Nat → AV} {st : Nat → St} {S : St} {β0 : Beta} {w0 : World} {a0 : Act}

theorem DC.hst (D : DC P B cl n vars perm as ops F vals st) : ∀ k, k < as.length → kindAt as k ≠ 2 → st (k + 1) = st k ∨ (kindAt as k = 3 ∧ (st (k + 1)).next = (st k).next + 1 ∧ ∃ blk, ∀ b, (st (k + 1)).heap.get b = if b = (st k).next then some blk else (st k).heap.get b) := by
  intro k hk hk2
  obtain ⟨a, o, i, h1, _, _, _⟩ := D.pl k hk
  have hr := D.run k a h1
  rw [kindAt_eq h1] at hk2 ⊢
  unfold dopA at hr
  split at hr
  · rcases kindO_cases a with ⟨h3, hm⟩ | h3
    · obtain ⟨q1, blk, q2, _⟩ := maker_free hm hr
      exact .inr ⟨h3, q1, blk, q2⟩
    · have := kindX_le a.x
      exact .inl (kind_keep (by omega) hr)
  · injection hr with h1 h2
    exact .inl h2.symm
  · cases hr

theorem ddmatch_some {n : Nat} {vars : List Nat} {d : Dst} {t : Nat} (h : ddmatch n vars d (some t) = true) : t < n ∧ (t ∈ vars → d = .var t) := by
  cases d with
  | push =>
    simp only [ddmatch, Bool.and_eq_true, Bool.not_eq_true', List.contains_eq_mem, decide_eq_false_iff_not, decide_eq_true_eq] at h
    exact ⟨h.2, fun ht => absurd ht h.1⟩
  | var t' =>
    simp only [ddmatch, Bool.and_eq_true, beq_iff_eq, decide_eq_true_eq] at h
    obtain ⟨⟨rfl, _⟩, h2⟩ := h
    exact ⟨h2, fun _ => rfl⟩
  | drop => cases h

/-- What an operation has put. -/
theorem Inv.next (D : DC P B cl n vars perm as ops F vals st) {listed : Array Bool} {a : Act} {w w' : World} {β β' : Beta} {p p' j k : Nat} {x : AOp} {o : Oper} (I : Inv B n vars perm as ops F vals st S β0 w0 a0 listed a w β p)
    (hj : j < as.length) (hx : as[j]? = some x) (hk : perm[j]? = some k) (ho : ops[k]? = some o) (hpl : placeOK P n vars perm as ops j x o = true)
    (hbef : ∀ i ∈ x.bef, Xd perm listed i) (hnX : ¬ Xd perm listed j) {u : Value} (hu : VR β' (vals j) u) (hle : β.le β')
    (hmid : Mid B as.length as (fun i => Xd perm listed i ∨ i = j) S β0 w0 st p' β' w') (hpN : p' ≤ as.length) (hp : p' = as.length ∨ kindAt as p' = 2)
    (hc : ∀ i, i < as.length → kindAt as i = 2 → ((Xd perm listed i ∨ i = j) ↔ i < p')) :
    Inv B n vars perm as ops F vals st S β0 w0 a0 (listed.setIfInBounds k true) (a.put o.dst u) w' β' p' := by
  obtain ⟨d1, _, _, _, _, _, _, d8⟩ := placeOK_spec hpl
  have hkl : k < listed.size := by rw [I.ls, ← D.hN]; exact (Array.getElem?_eq_some_iff.1 ho).1
  have hX := Xd_set D.nd hk hkl
  have hdst : dstAt ops perm j = o.dst := by simp [dstAt, hk, ho]
  have hsz : (a.put o.dst u).tmps.size = a.tmps.size := put_size a o.dst u
  -- a temporary of another place
  have hdiff : ∀ i, i < as.length → i ≠ j → ∀ t, dstAt ops perm i = some t → o.dst ≠ some t := by
    intro i hi hij t ht e
    rcases Nat.lt_or_ge i j with h | h
    · have := d8 i h (by rw [ht, hdst, e])
      rw [hdst, e] at this
      cases this
    · obtain ⟨a', o', k', _, _, _, h4⟩ := D.pl i hi
      obtain ⟨_, _, _, _, _, _, _, d8'⟩ := placeOK_spec h4
      have := d8' j (by omega) (by rw [ht, hdst, e])
      rw [ht] at this
      cases this
  refine ⟨by simp [I.ls], hpN, hp, fun i hi hki => (hX i).trans (hc i hi hki), ?_, ?_, ?_, ?_, hsz.trans I.sz, (put_defers a o.dst u).trans I.df, I.hn⟩
  · intro i hi hXi b hb
    rw [hX] at hXi ⊢
    rcases hXi with h | rfl
    · exact .inl (I.cl i hi h b hb)
    · rw [befAt_eq hx] at hb
      exact .inl (hbef b hb)
  · exact hmid.mono_X (fun i hi => (hX i).2 hi)
  · intro i hi hXi t ht
    by_cases e : i = j
    · subst e
      rw [hdst] at ht
      have hlt : t < n := by
        rw [ht] at d1
        exact (ddmatch_some d1).1
      refine ⟨u, ?_, hu⟩
      rw [ht]
      exact put_self a t u (by have := I.sz; have := I.hn; omega)
    · rw [hX] at hXi
      rcases hXi with h | h
      · obtain ⟨u', u1, u2⟩ := I.v1 i hi h t ht
        exact ⟨u', by rw [put_get a _ u t (hdiff i hi e t ht)]; exact u1, u2.mono hle⟩
      · exact absurd h e
  · intro t ht hno v hv
    obtain ⟨u', u1, u2⟩ := I.v2 t ht (fun i hi ha hXi => hno i hi ha ((hX i).2 (.inl hXi))) v hv
    refine ⟨u', ?_, u2.mono hle⟩
    rw [put_get a _ u t ?_]
    · exact u1
    · intro e
      rw [e] at d1
      exact hno j hj (by simp [asgAt, hx, (ddmatch_some d1).2 ht]) ((hX j).2 (.inr rfl))

/-- What an operation may read is there. -/
theorem Inv.known {listed : Array Bool} {a : Act} {w : World} {β : Beta} {p j : Nat} {x : AOp} (I : Inv B n vars perm as ops F vals st S β0 w0 a0 listed a w β p)
    (hj : j < as.length) (hbef : ∀ i ∈ x.bef, Xd perm listed i) (hnX : ¬ Xd perm listed j) :
    ∀ y t v, omd ops vars perm as j x.bef y (.tmp t) = true → ov (envFrom vals [] j) F y = some v → (∀ c, y ≠ .cst c) → ∃ u, a.tmps[t]? = some u ∧ VR β v u := by
  intro y t v hm hv hc
  cases y with
  | loc i =>
    simp only [omd, Bool.and_eq_true, decide_eq_true_eq, List.contains_iff_mem, beq_iff_eq] at hm
    obtain ⟨⟨h1, h2⟩, h3⟩ := hm
    simp only [ov, nthO_eq, envFrom_get, if_pos h1, Option.some.injEq] at hv
    subst hv
    exact I.v1 _ (by omega) (hbef _ h2) t h3
  | var t' =>
    simp only [omd, Bool.and_eq_true, beq_iff_eq, List.contains_iff_mem] at hm
    obtain ⟨⟨rfl, h2⟩, h3⟩ := hm
    refine I.v2 t' h2 (fun i hi ha hXi => ?_) v hv
    simp only [asgOK, List.all_eq_true, List.mem_range] at h3
    have := h3 i hi
    simp only [ha, Bool.not_true, Bool.false_or, Bool.or_eq_true, beq_iff_eq, List.contains_iff_mem] at this
    rcases this with h | h
    · subst h; exact hnX hXi
    · exact hnX (I.cl i hi hXi j h)
  | cst c => exact absurd rfl (hc c)

theorem Inv.om {listed : Array Bool} {a : Act} {w : World} {β : Beta} {p j : Nat} {x : AOp} (I : Inv B n vars perm as ops F vals st S β0 w0 a0 listed a w β p)
    (hj : j < as.length) (hbef : ∀ i ∈ x.bef, Xd perm listed i) (hnX : ¬ Xd perm listed j) : OM β (envFrom vals [] j) F a.eval (omd ops vars perm as j x.bef) := by
  intro y o v hm hv
  cases y with
  | cst c =>
    simp only [ov, Option.some.injEq] at hv
    subst hv
    cases o <;> try (simp [omd] at hm; done)
    · exact vmatch_sound β _ _ hm
    · exact vmatch_sound β _ _ hm
  | loc i =>
    cases o <;> try (simp [omd] at hm; done)
    obtain ⟨u, u1, u2⟩ := I.known hj hbef hnX _ _ v hm hv (fun c => by simp)
    simp only [Act.eval]
    rw [Array.getD_eq_getD_getElem?, u1]
    exact u2
  | var i =>
    cases o <;> try (simp [omd] at hm; done)
    obtain ⟨u, u1, u2⟩ := I.known hj hbef hnX _ _ v hm hv (fun c => by simp)
    simp only [Act.eval]
    rw [Array.getD_eq_getD_getElem?, u1]
    exact u2
end
end
end Go.Av
