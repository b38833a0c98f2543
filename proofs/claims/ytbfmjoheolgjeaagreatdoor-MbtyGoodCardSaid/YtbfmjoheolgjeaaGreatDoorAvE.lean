/- The operations that touch no memory, or read it. -/
import Derived.Test.YtbfmjoheolgjeaaGreatDoorAvD
namespace Go.Av
section
variable {P : Program} {B : Nat} {S : St} {β : Beta} {w : World}

theorem add_none (b o n : Nat) : (⟨b, o, none⟩ : Addr).add n = ⟨b, o + n, none⟩ := by unfold Addr.add; split <;> simp_all

theorem oneCell_eq {v : AV} {u : Value} (h : VR β v u) : u.oneCell' = oneCell v := by cases h <;> rfl

/-- A cell that is known. -/
theorem Rel.cell (hR : Rel B S β w) {b : Nat} {esz size : Nat} {c : PT AV} (hb : S.heap.get b = some (.cells esz size c)) {m : BM} (hm : β b = some m) {i : Nat} {v : AV}
    (hv : c.get i = some v) : ∃ u, w.cell? ⟨m.blk, m.off + i, none⟩ = some u ∧ VR β v u := by
  obtain ⟨_, C, e, h1, h2, h3, h4, h5⟩ := hR.live b _ m hb hm
  obtain ⟨_, u, h6, h7⟩ := h5 i v hv
  exact ⟨u, by simp [World.cell?, h1, h6], h7⟩

theorem Rel.cellsAt (hR : Rel B S β w) {b : Nat} {esz size : Nat} {c : PT AV} (hb : S.heap.get b = some (.cells esz size c)) {m : BM} (hm : β b = some m) {n off : Nat} {l : List AV}
    (hl : loadN c n off = some l) : ∃ L : List Value, L.length = n ∧ LR β l L.toArray ∧ (∀ j v, L[j]? = some v → w.cell? ((⟨m.blk, m.off + off, none⟩ : Addr).add j) = some v) := by
  obtain ⟨h1, h2⟩ := loadN_some hl
  have hex : ∀ j, ∃ u, ∀ (h : j < l.length), w.cell? ⟨m.blk, m.off + (off + j), none⟩ = some u ∧ VR β l[j] u := by
    intro j
    by_cases h : j < l.length
    · obtain ⟨u, a, b'⟩ := hR.cell hb hm (h2 j h)
      exact ⟨u, fun _ => ⟨a, b'⟩⟩
    · exact ⟨undef, fun h' => absurd h' h⟩
  refine ⟨(List.range n).map fun j => (hex j).choose, by simp, ⟨by simp [h1], fun i a b' => ?_⟩, fun j v hj => ?_⟩
  · have := ((hex i).choose_spec a).2
    simpa using this
  · have hlt : j < n := by
      have := (List.getElem?_eq_some_iff.1 hj).1
      simpa using this
    have := ((hex j).choose_spec (by omega)).1
    rw [add_none, Nat.add_assoc, this]
    simp [hlt] at hj
    rw [hj]

theorem run_loadN (hR : Rel B S β w) {b : Nat} {esz size : Nat} {c : PT AV} (hb : S.heap.get b = some (.cells esz size c)) {m : BM} (hm : β b = some m) {n off : Nat} {l : List AV}
    (hl : loadN c n off = some l) : ∃ L : Array Value, (loadCells ⟨m.blk, m.off + off, none⟩ n).run P w = .ok L w ∧ LR β l L := by
  obtain ⟨L, h1, h2, h3⟩ := hR.cellsAt hb hm hl
  refine ⟨L.toArray, ?_, h2⟩
  have := run_loadCells_list (P := P) w ⟨m.blk, m.off + off, none⟩ L h3
  rw [h1] at this
  exact this

theorem loadOK_spec {t : TypeId} {n : Option Nat} (h : loadOK P t n = true) : ∃ d i, P.underlying t = some d ∧ P.info? t = some i ∧
    ((n = none ∧ ∀ w, (isAgg t).run P w = .ok false w) ∨ (n = some i.size ∧ ∀ w, (isAgg t).run P w = .ok true w)) := by
  unfold loadOK at h
  simp only [Bool.and_eq_true, beq_iff_eq] at h
  obtain ⟨⟨h1, h2⟩, h3⟩ := h
  obtain ⟨d, hd⟩ := Option.isSome_iff_exists.1 h1
  obtain ⟨i, hi⟩ := Option.isSome_iff_exists.1 h2
  refine ⟨d, i, hd, hi, ?_⟩
  unfold aggN at h3
  rw [hd] at h3
  have hc : P.cellsOf t = i.size := by simp [Program.cellsOf, hi]
  cases d <;> first
    | (refine .inr ⟨by simpa [hc] using h3, fun w => ?_⟩; simp [isAgg, run_underlying hd]; done)
    | (refine .inl ⟨by simpa using h3, fun w => ?_⟩; simp [isAgg, run_underlying hd]; done)

theorem doLoad_sound (hR : Rel B S β w) {n : Option Nat} {a v : AV} {p : Value} {t : TypeId} (h : doLoad S n a = some v) (hp : VR β a p) (hk : loadOK P t n = true) :
    ∃ ad u, p = .pointer (some ad) ∧ (loadVar t ad).run P w = .ok u w ∧ VR β v u := by
  cases a <;> try (simp [doLoad] at h; done)
  rename_i b off
  cases hp with
  | ptr _ _ m hm =>
    obtain ⟨d, i, hd, hi, hcase⟩ := loadOK_spec hk
    simp only [doLoad] at h
    split at h
    · rename_i esz size c hb
      rcases hcase with ⟨rfl, ha⟩ | ⟨rfl, ha⟩
      · obtain ⟨u, h1, h2⟩ := hR.cell hb hm h
        exact ⟨_, u, rfl, by simp [loadVar, ha, h1], h2⟩
      · simp only at h
        split at h
        · rename_i l hl
          cases h
          obtain ⟨L, h1, h2⟩ := run_loadN (P := P) hR hb hm hl
          exact ⟨_, .agg L, rfl, by simp [loadVar, ha, sizeOf, typeInfo, hi, h1], .agg _ _ h2.size h2.at_⟩
        · cases h
    · cases h

/-- What an operation's run gives. -/
def ResN (r : Result Next) (u : Value) (w' : World) : Prop := r = .ok (.value u) w' ∨ (r = .ok .skip w' ∧ u = undef)

/-- An operation does what the evaluator's does. -/
def OpOK (P : Program) (B : Nat) (S : St) (β : Beta) (w : World) (o : Oper) (ρ : Operand → Value) (v : AV) (S' : St) : Prop :=
  ∃ β' u w', ResN ((execOp ρ o).run P w) u w' ∧ VR β' v u ∧ Rel B S' β' w' ∧ Step S β w S' β' w'

theorem OpOK.pure {o : Oper} {ρ : Operand → Value} {v : AV} (hR : Rel B S β w) (u : Value) (h : (execOp ρ o).run P w = .ok (.value u) w) (hv : VR β v u) : OpOK P B S β w o ρ v S :=
  ⟨β, u, w, .inl h, hv, hR, Step.refl S β w⟩

theorem okS_inv {S S' : St} {x : Option AV} {v : AV} (h : okS S x = .ok v S') : x = some v ∧ S' = S := by
  cases x with
  | none => simp [okS] at h
  | some y => simp only [okS, OR.ok.injEq] at h; exact ⟨by rw [h.1], h.2.symm⟩

/-- Operands stand for each other. -/
def OM (β : Beta) (env : List AV) (F : Fr) (ρ : Operand → Value) (om : Opd → Operand → Bool) : Prop :=
  ∀ x o v, om x o = true → ov env F x = some v → VR β v (ρ o)

variable {env : List AV} {F : Fr} {ρ : Operand → Value} {om : Opd → Operand → Bool} {cl : Nat → List AV → St → OR} {v : AV} {S' : St} {o : Oper}

theorem ovs_sound (hE : OM β env F ρ om) : ∀ (l : List Opd) (r : List Operand) (vs : List AV), osmatch om l r = true → ovs env F l = some vs → LR β vs (r.map ρ).toArray := by
  intro l
  induction l with
  | nil =>
    intro r vs h1 h2
    cases r with
    | nil => cases h2; exact LR.nil β
    | cons o r => simp [osmatch] at h1
  | cons x l ih =>
    intro r vs h1 h2
    cases r with
    | nil => simp [osmatch] at h1
    | cons o r =>
      simp only [osmatch, Bool.and_eq_true] at h1
      have h2' : (match ov env F x, ovs env F l with | some v, some r => some (v :: r) | _, _ => none) = some vs := h2
      split at h2'
      · rename_i v vs' hv hvs
        cases h2'
        exact LR.cons (hE x o v h1.1 hv) (ih r vs' h1.2 hvs)
      · cases h2'

theorem array_map_toList (x : Array Operand) (ρ : Operand → Value) : (x.toList.map ρ).toArray = x.map ρ := by
  apply Array.ext'
  simp

theorem ovs_sound' (hE : OM β env F ρ om) {l : List Opd} {x : Array Operand} {vs : List AV} (h : osmatch om l x.toList = true) (h2 : ovs env F l = some vs) : LR β vs (x.map ρ) := by
  rw [← array_map_toList]
  exact ovs_sound hE l _ vs h h2

theorem ok_mov (hR : Rel B S β w) (hE : OM β env F ρ om) {x : Opd} (h : aop cl env F S (.mov x) = .ok v S') (hx : xmatch P om o.op (.mov x) = true) : OpOK P B S β w o ρ v S' := by
  simp only [aop] at h
  obtain ⟨hv, rfl⟩ := okS_inv h
  simp only [xmatch] at hx
  split at hx
  · rename_i y e
    exact .pure hR _ (by simp only [execOp, e]; rfl) (hE _ _ _ hx hv)
  · rename_i y e
    exact .pure hR _ (by simp only [execOp, e]; rfl) (hE _ _ _ hx hv)
  · cases hx

theorem ok_pick (hR : Rel B S β w) (hE : OM β env F ρ om) {c a b : Opd} (h : aop cl env F S (.pick c a b) = .ok v S') (hx : xmatch P om o.op (.pick c a b) = true) : OpOK P B S β w o ρ v S' := by
  simp only [aop] at h
  simp only [xmatch] at hx
  split at hx
  · rename_i c' a' b' e
    simp only [Bool.and_eq_true] at hx
    split at h
    · rename_i t hc
      have hc' := hE _ _ _ hx.1.1 hc
      cases t <;> simp only at h <;> obtain ⟨hv, rfl⟩ := okS_inv h
      · generalize hu : ρ c' = u at hc'
        cases hc'
        exact .pure hR _ (by simp [execOp, e, hu, asBool]) (hE _ _ _ hx.2 hv)
      · generalize hu : ρ c' = u at hc'
        cases hc'
        exact .pure hR _ (by simp [execOp, e, hu, asBool]) (hE _ _ _ hx.1.2 hv)
    · cases h
  · cases hx

theorem run_ibin {op : BinOp} {k : IntKind} {a b : Int} (h : ibin op k a b = some v) (t : TypeId) : (binOp op t (.int k a) (.int k b)).run P w = .ok (match v with | .int k n => .int k n | .bool b => .bool b | _ => undef) w ∧ VR β v (match v with | .int k n => .int k n | .bool b => .bool b | _ => undef) := by
  cases op <;> simp only [ibin] at h
  case shl => cases h
  case shr => cases h
  case quo =>
    split at h
    · cases h
    · rename_i hb
      cases h
      rw [eqI_eq, decide_eq_false_iff_not] at hb
      exact ⟨by simp [binOp, Op.intDiv, hb, wrapF_eq], .int _ _⟩
  case rem =>
    split at h
    · cases h
    · rename_i hb
      cases h
      rw [eqI_eq, decide_eq_false_iff_not] at hb
      exact ⟨by simp [binOp, Op.intDiv, hb], .int _ _⟩
  all_goals
    cases h
    refine ⟨?_, ?_⟩
    · simp only [binOp, ne_eq, not_true_eq_false, if_false, Op.intArith, Op.intBits, Op.intCmp, Sem.run_pure, wrapF_eq, eqI_eq, ltI_eq]
      first
        | rfl
        | (congr 2; rw [Bool.eq_iff_iff]; simp; done)
        | (congr 2; rw [Bool.eq_iff_iff]; simp; omega)
        | skip
    · first | exact .int _ _ | exact .bool _

theorem run_ishift {op : BinOp} {k k' : IntKind} {a b : Int} (h : ishift op k a b = some v) (t : TypeId) : (binOp op t (.int k a) (.int k' b)).run P w = .ok (match v with | .int k n => .int k n | _ => undef) w ∧ VR β v (match v with | .int k n => .int k n | _ => undef) := by
  unfold ishift at h
  split at h
  · cases h
  · rename_i hb
    rw [ltI_eq, decide_eq_false_iff_not] at hb
    cases op <;> simp only at h <;> first | cases h | skip
    · exact ⟨by simp [binOp, Op.shift, hb, wrapF_eq, Nat.min_def], .int _ _⟩
    · exact ⟨by simp [binOp, Op.shift, hb, Nat.min_def], .int _ _⟩


theorem guard_int (op : BinOp) (t : TypeId) (x y : Operand) (k k' : IntKind) (a b : Int) (w : World) : (eqGuard op t x y (.int k a) (.int k' b)).run P w = .ok () w := by
  unfold eqGuard; split <;> rfl
theorem guard_str (op : BinOp) (t : TypeId) (x y : Operand) (a b : ByteArray) (w : World) : (eqGuard op t x y (.string a) (.string b)).run P w = .ok () w := by
  unfold eqGuard; split <;> rfl

theorem ok_bin (hR : Rel B S β w) (hE : OM β env F ρ om) {op : BinOp} {x y : Opd} (h : aop cl env F S (.bin op x y) = .ok v S') (hx : xmatch P om o.op (.bin op x y) = true) : OpOK P B S β w o ρ v S' := by
  simp only [aop] at h
  simp only [xmatch] at hx
  split at hx
  · rename_i op' t x' y' yt e
    simp only [Bool.and_eq_true, beq_iff_eq] at hx
    obtain ⟨⟨rfl, h1⟩, h2⟩ := hx
    split at h
    · rename_i a b ha hb
      obtain ⟨hv, rfl⟩ := okS_inv h
      have ha' := hE _ _ _ h1 ha
      have hb' := hE _ _ _ h2 hb
      cases a <;> try (simp [doBin] at hv; done)
      rename_i k n
      cases b <;> try (simp [doBin] at hv; done)
      rename_i k' n'
      generalize hu : ρ x' = u at ha'
      generalize hu' : ρ y' = u' at hb'
      cases ha'
      cases hb'
      simp only [doBin] at hv
      split at hv
      · obtain ⟨r1, r2⟩ := run_ishift (P := P) (w := w) (β := β) (k' := k') hv t
        exact .pure hR _ (by simp [execOp, e, hu, hu', guard_int, r1]) r2
      · split at hv
        · rename_i hk
          cases kEq_eq hk
          obtain ⟨r1, r2⟩ := run_ibin (P := P) (w := w) (β := β) hv t
          exact .pure hR _ (by simp [execOp, e, hu, hu', guard_int, r1]) r2
        · cases hv
    · cases h
  · cases hx

theorem str_form (s : ByteArray) : ∃ l : List UInt8, s = ⟨l.toArray⟩ := ⟨s.data.toList, by cases s; simp⟩

theorem VR.str' (β : Beta) (l : List UInt8) : VR β (.str l.length (pack l)) (.string ⟨l.toArray⟩) := .str _ _ _ (by simp) (by simp)

/-- A text by its bytes. -/
theorem VR.str_inv {β : Beta} {len n : Nat} {u : Value} (h : VR β (.str len n) u) : ∃ l : List UInt8, u = .string ⟨l.toArray⟩ ∧ l.length = len ∧ pack l = n := by
  cases h with
  | str s _ _ h1 h2 =>
    obtain ⟨l, rfl⟩ := str_form s
    exact ⟨l, rfl, by simpa using h1, by simpa using h2⟩

theorem str_beq (l l' : List UInt8) : (Nat.beq l.length l'.length && Nat.beq (pack l) (pack l')) = (l == l') := by
  rw [Bool.eq_iff_iff]
  simp only [Bool.and_eq_true, Nat.beq_eq, beq_iff_eq]
  constructor
  · rintro ⟨a, b⟩; exact pack_inj l l' a b
  · rintro rfl; exact ⟨rfl, rfl⟩

theorem ok_sbin (hR : Rel B S β w) (hE : OM β env F ρ om) {op : BinOp} {x y : Opd} (h : aop cl env F S (.sbin op x y) = .ok v S') (hx : xmatch P om o.op (.sbin op x y) = true) : OpOK P B S β w o ρ v S' := by
  simp only [aop] at h
  simp only [xmatch] at hx
  split at hx
  · rename_i op' t x' y' yt e
    simp only [Bool.and_eq_true, beq_iff_eq] at hx
    obtain ⟨⟨rfl, h1⟩, h2⟩ := hx
    split at h
    · rename_i a b ha hb
      obtain ⟨hv, rfl⟩ := okS_inv h
      have ha' := hE _ _ _ h1 ha
      have hb' := hE _ _ _ h2 hb
      cases a <;> try (simp [doSBin] at hv; done)
      rename_i k n
      cases b <;> try (simp [doSBin] at hv; done)
      rename_i k' n'
      generalize hu : ρ x' = u at ha'
      generalize hu' : ρ y' = u' at hb'
      obtain ⟨l, rfl, rfl, rfl⟩ := ha'.str_inv
      obtain ⟨l', rfl, rfl, rfl⟩ := hb'.str_inv
      cases op <;> simp only [doSBin] at hv <;> try (cases hv; done)
      · split at hv
        · rename_i hle
          cases hv
          have hle' := Nat.le_of_ble_eq_true hle
          refine .pure hR (.string ⟨(l ++ l').toArray⟩) ?_ ?_
          · have hn : ¬ (9223372036854775807 < (l.length : Int) + (l'.length : Int)) := by omega
            have hs : (ByteArray.mk l.toArray).size = l.length := by simp [ByteArray.size]
            have hs' : (ByteArray.mk l'.toArray).size = l'.length := by simp [ByteArray.size]
            simp [execOp, e, hu, hu', guard_str, binOp, Op.stringOp, hs, hs', hn, ByteArray.mk_append_mk, IntKind.max, IntKind.signed, IntKind.bits]
          · have := VR.str' β (l ++ l')
            rw [pack_append, List.length_append] at this
            exact this
        · cases hv
      · cases hv
        rw [str_beq]
        exact .pure hR _ (by simp [execOp, e, hu, hu', guard_str, binOp, Op.stringOp]) (.bool _)
      · cases hv
        rw [str_beq]
        exact .pure hR _ (by simp [execOp, e, hu, hu', guard_str, binOp, Op.stringOp]) (.bool _)
    · cases h
  · cases hx

theorem guard_eqv {a b : AV} {u u' : Value} {tag : Nat} {r : Bool} (h : doEq tag a b = some r) (ha : VR β a u) (hb : VR β b u') (op : BinOp) (t : TypeId) (x y : Operand) (w : World) :
    (eqGuard op t x y u u').run P w = .ok () w := by
  unfold doEq at h
  split at h <;> first
    | (cases h; done)
    | (split at h <;> first | (cases h; done) | (cases ha; cases hb; unfold eqGuard; split <;> rfl))

theorem form_eqv {a b : AV} {u u' : Value} {tag : Nat} {r : Bool} (h : doEq tag a b = some r) (ha : VR β a u) (hb : VR β b u') (t : TypeId) :
    binOp .eql t u u' = (do pure (.bool (← Op.equal t u u'))) ∧ binOp .neq t u u' = (do pure (.bool (!(← Op.equal t u u')))) := by
  unfold doEq at h
  split at h <;> first
    | (cases h; done)
    | (split at h <;> first | (cases h; done) | (cases ha; cases hb; exact ⟨rfl, rfl⟩))

theorem equal_unf (t : TypeId) (x y : Value) : Op.equal t x y = Op.equalIn (9999 + 1) t x y := rfl

theorem run_eqv {a b : AV} {u u' : Value} {tag : Nat} {r : Bool} {t : TypeId} (h : doEq tag a b = some r) (ht : eqTag P t tag = true) (ha : VR β a u) (hb : VR β b u') (w : World) :
    (Op.equal t u u').run P w = .ok r w := by
  unfold doEq at h
  split at h <;> first
    | (cases h; done)
    | (unfold eqTag at ht; simp only at ht; split at ht <;> first
        | (cases ht; done)
        | (rename_i hd
           split at h <;> first
            | (cases h; done)
            | (cases h; cases ha; cases hb
               rw [equal_unf, Op.equalIn, Sem.run_bind, run_underlying hd, Result.andThen_ok]
               first
               | rfl
               | (rename_i p q; cases p <;> cases q <;> rfl))))

theorem ok_eqv (hR : Rel B S β w) (hE : OM β env F ρ om) {tag : Nat} {neg : Bool} {x y : Opd} (h : aop cl env F S (.eqv tag neg x y) = .ok v S') (hx : xmatch P om o.op (.eqv tag neg x y) = true) : OpOK P B S β w o ρ v S' := by
  simp only [aop] at h
  simp only [xmatch] at hx
  split at hx
  · rename_i op' t x' y' yt e
    simp only [Bool.and_eq_true, beq_iff_eq] at hx
    obtain ⟨⟨⟨h0, h1⟩, h2⟩, h3⟩ := hx
    split at h
    · rename_i a b ha hb
      split at h
      · rename_i r hr
        cases h
        have ha' := hE _ _ _ h1 ha
        have hb' := hE _ _ _ h2 hb
        have hg := fun op w => guard_eqv (P := P) hr ha' hb' op t x' y' w
        have hq := run_eqv (P := P) hr h3 ha' hb' w
        obtain ⟨f1, f2⟩ := form_eqv hr ha' hb' t
        cases neg
        · simp only [Bool.false_eq_true, if_false] at h0
          subst h0
          exact .pure hR (.bool r) (by simp [execOp, e, hg, f1, hq]) (.bool _)
        · simp only [if_true] at h0
          subst h0
          exact .pure hR (.bool (!r)) (by simp [execOp, e, hg, f2, hq]) (.bool _)
      · cases h
    · cases h
  · cases hx

theorem ok_not (hR : Rel B S β w) (hE : OM β env F ρ om) {x : Opd} (h : aop cl env F S (.not x) = .ok v S') (hx : xmatch P om o.op (.not x) = true) : OpOK P B S β w o ρ v S' := by
  simp only [aop] at h
  simp only [xmatch] at hx
  split at hx
  · rename_i t y e
    split at h
    · rename_i b hb
      cases h
      have hb' := hE _ _ _ hx hb
      generalize hu : ρ y = u at hb'
      cases hb'
      exact .pure hR (.bool (!b)) (by simp [execOp, e, hu, Op.unary]) (.bool _)
    · cases h
  · cases hx

theorem ok_neg (hR : Rel B S β w) (hE : OM β env F ρ om) {x : Opd} (h : aop cl env F S (.neg x) = .ok v S') (hx : xmatch P om o.op (.neg x) = true) : OpOK P B S β w o ρ v S' := by
  simp only [aop] at h
  simp only [xmatch] at hx
  split at hx
  · rename_i t y e
    split at h
    · rename_i k n hb
      cases h
      have hb' := hE _ _ _ hx hb
      generalize hu : ρ y = u at hb'
      cases hb'
      rw [wrapF_eq]
      exact .pure hR (.int k (k.wrap (0 - n))) (by simp [execOp, e, hu, Op.unary, Op.intArith]) (.int _ _)
    · cases h
  · cases hx

theorem ok_conv (hR : Rel B S β w) (hE : OM β env F ρ om) {k : IntKind} {x : Opd} (h : aop cl env F S (.conv k x) = .ok v S') (hx : xmatch P om o.op (.conv k x) = true) : OpOK P B S β w o ρ v S' := by
  simp only [aop] at h
  simp only [xmatch] at hx
  split at hx
  · rename_i s d y e
    simp only [Bool.and_eq_true] at hx
    obtain ⟨⟨h1, h2⟩, h3⟩ := hx
    obtain ⟨sd, hs⟩ := Option.isSome_iff_exists.1 h2
    split at h3
    · rename_i k' hd
      simp only [beq_iff_eq] at h3
      subst h3
      split at h
      · rename_i k0 n hb
        cases h
        have hb' := hE _ _ _ h1 hb
        generalize hu : ρ y = u at hb'
        cases hb'
        rw [wrapF_eq]
        exact .pure hR (.int k (k.wrap n)) (by simp [execOp, e, hu, convert, run_underlying hs, run_underlying hd, Conv.intToInt]) (.int _ _)
      · cases h
    · cases h3
  · cases hx

theorem isStr_spec {t : TypeId} (h : isStr P t = true) : P.underlying t = some .string := by
  unfold isStr at h
  split at h
  · assumption
  · cases h

theorem ok_s2s (hR : Rel B S β w) (hE : OM β env F ρ om) {x : Opd} (h : aop cl env F S (.s2s x) = .ok v S') (hx : xmatch P om o.op (.s2s x) = true) : OpOK P B S β w o ρ v S' := by
  simp only [aop] at h
  simp only [xmatch] at hx
  split at hx
  · rename_i s d y e
    simp only [Bool.and_eq_true] at hx
    obtain ⟨⟨h1, h2⟩, h3⟩ := hx
    obtain ⟨sd, hs⟩ := Option.isSome_iff_exists.1 h2
    have hd := isStr_spec h3
    split at h
    · rename_i l n hb
      cases h
      have hb' := hE _ _ _ h1 hb
      obtain ⟨l, hu, rfl, rfl⟩ := hb'.str_inv
      exact .pure hR (.string ⟨l.toArray⟩) (by simp [execOp, e, hu, convert, run_underlying hs, run_underlying hd]) (VR.str' β l)
    · cases h
  · cases hx

theorem ok_nilc (hR : Rel B S β w) (hE : OM β env F ρ om) {x : Opd} (h : aop cl env F S (.nilc x) = .ok v S') (hx : xmatch P om o.op (.nilc x) = true) : OpOK P B S β w o ρ v S' := by
  simp only [aop] at h
  simp only [xmatch] at hx
  split at hx
  · rename_i y e
    split at h
    · rename_i b off hb
      cases h
      have hb' := hE _ _ _ hx hb
      generalize hu : ρ y = u at hb'
      cases hb'
      rename_i m hm
      exact .pure hR _ (by simp only [execOp, e, hu]; rfl) (.ptr _ _ m hm)
    · rename_i f a b hb
      cases h
      have hb' := hE _ _ _ hx hb
      generalize hu : ρ y = u at hb'
      have hb'' := hb'
      cases hb'
      exact .pure hR _ (by simp only [execOp, e, hu]; rfl) hb''
    · cases h
  · cases hx

theorem ok_faddr (hR : Rel B S β w) (hE : OM β env F ρ om) {off : Nat} {x : Opd} (h : aop cl env F S (.faddr off x) = .ok v S') (hx : xmatch P om o.op (.faddr off x) = true) : OpOK P B S β w o ρ v S' := by
  simp only [aop] at h
  simp only [xmatch] at hx
  split at hx
  · rename_i s y f e
    simp only [Bool.and_eq_true] at hx
    obtain ⟨h1, h2⟩ := hx
    split at h2
    · rename_i fields hs
      split at h2
      · rename_i fd hfd
        simp only [Bool.and_eq_true, beq_iff_eq] at h2
        obtain ⟨rfl, h3⟩ := h2
        split at h3
        · rename_i i hi
          have hz : i.size ≠ 0 := by simpa using h3
          split at h
          · rename_i b o' hb
            cases h
            have hb' := hE _ _ _ h1 hb
            generalize hu : ρ y = u at hb'
            cases hb'
            rename_i m hm
            refine .pure hR (.pointer (some ⟨m.blk, m.off + (o' + fd.offset), none⟩)) ?_ (.ptr _ _ m hm)
            simp [execOp, e, hu, Instr.fieldAt, run_underlying hs, hfd, Instr.sureAddr, fieldPlace, sizeOf, typeInfo, hi, hz, add_none, Nat.add_assoc]
          · cases h
        · cases h3
      · cases h2
    · cases h2
  · cases hx

end
end Go.Av
