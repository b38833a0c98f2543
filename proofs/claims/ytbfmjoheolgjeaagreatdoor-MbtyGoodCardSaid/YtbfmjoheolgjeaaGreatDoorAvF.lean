/- More operations that write nothing. -/
import Derived.Test.YtbfmjoheolgjeaaGreatDoorAvE
namespace Go.Av
section
variable {P : Program} {B : Nat} {S : St} {β : Beta} {w : World}
variable {env : List AV} {F : Fr} {ρ : Operand → Value} {om : Opd → Operand → Bool} {cl : Nat → List AV → St → OR} {v : AV} {S' : St} {o : Oper}

theorem ok_load (hR : Rel B S β w) (hE : OM β env F ρ om) {n : Option Nat} {x : Opd} (h : aop cl env F S (.load n x) = .ok v S') (hx : xmatch P om o.op (.load n x) = true) : OpOK P B S β w o ρ v S' := by
  simp only [aop] at h
  simp only [xmatch] at hx
  split at hx
  · rename_i t y e
    simp only [Bool.and_eq_true] at hx
    split at h
    · rename_i a ha
      obtain ⟨hv, rfl⟩ := okS_inv h
      obtain ⟨ad, u, h1, h2, h3⟩ := doLoad_sound (P := P) hR hv (hE _ _ _ hx.1 ha) hx.2
      exact .pure hR u (by simp [execOp, e, h1, Instr.loadAt, Instr.sureAddr, h2]) h3
    · cases h
  · cases hx

theorem part_sound {t : TypeId} {n : Option Nat} {l : List AV} {x : Array Value} {off : Nat} (hk : loadOK P t n = true) (hl : LR β l x)
    (h : partA l off n = some v) :
    ∃ u, (∀ w, (part t x off).run P w = .ok u w) ∧ VR β v u := by
  obtain ⟨d, i, hd, hi, hcase⟩ := loadOK_spec hk
  rcases hcase with ⟨rfl, ha⟩ | ⟨rfl, ha⟩
  · simp only [partA, nthO_eq] at h
    obtain ⟨u, h1, h2⟩ := hl.get h
    exact ⟨u, fun w => by simp [part, ha, h1], h2⟩
  · simp only [partA] at h
    split at h
    · rename_i hle
      cases h
      have hle' := Nat.le_of_ble_eq_true hle
      have hs := hl.size
      refine ⟨.agg (x.extract off (off + i.size)), fun w => by simp [part, ha, sizeOf, typeInfo, hi], .agg _ _ (by simp; omega) (fun j a b => ?_)⟩
      simp at a b
      have := hl.at_ (off + j) (by omega) (by omega)
      simpa using this
    · cases h

theorem ok_fld (hR : Rel B S β w) (hE : OM β env F ρ om) {off : Nat} {n : Option Nat} {x : Opd} (h : aop cl env F S (.fld off n x) = .ok v S') (hx : xmatch P om o.op (.fld off n x) = true) : OpOK P B S β w o ρ v S' := by
  simp only [aop] at h
  simp only [xmatch] at hx
  split at hx
  · rename_i s y f e
    simp only [Bool.and_eq_true] at hx
    obtain ⟨h1, h2⟩ := hx
    split at h2
    · rename_i fields hs
      split at h2
      · rename_i fd hfd
        simp only [Bool.and_eq_true, beq_iff_eq] at h2
        obtain ⟨rfl, h3⟩ := h2
        split at h
        · rename_i l hb
          have hb' := hE _ _ _ h1 hb
          generalize hu : ρ y = u at hb'
          cases hb'
          rename_i x' hx1 hx2
          obtain ⟨hp, rfl⟩ := okS_inv h
          obtain ⟨u, h4, h5⟩ := part_sound (P := P) h3 ⟨hx1, hx2⟩ hp
          exact .pure hR u (by simp [execOp, e, hu, Instr.field, run_underlying hs, hfd, asAgg, h4]) h5
        · cases h
      · cases h2
    · cases h2
  · cases hx

theorem ok_iaddr (hR : Rel B S β w) (hE : OM β env F ρ om) {esz : Nat} {x i : Opd} (h : aop cl env F S (.iaddr esz x i) = .ok v S') (hx : xmatch P om o.op (.iaddr esz x i) = true) : OpOK P B S β w o ρ v S' := by
  simp only [aop] at h
  simp only [xmatch] at hx
  split at hx
  · rename_i t y y' e
    simp only [Bool.and_eq_true] at hx
    obtain ⟨⟨h1, h2⟩, h3⟩ := hx
    split at h3
    · rename_i el ht
      split at h3
      · rename_i inf hi
        simp only [beq_iff_eq] at h3
        subst h3
        split at h
        · rename_i b off len cap k n ha hb
          split at h
          · rename_i hle
            cases h
            have hle' := Nat.le_of_ble_eq_true hle
            have ha' := hE _ _ _ h1 ha
            have hb' := hE _ _ _ h2 hb
            generalize hu : ρ y = u at ha'
            generalize hu' : ρ y' = u' at hb'
            cases ha'
            rename_i m hm
            cases hb'
            refine .pure hR (.pointer (some ⟨m.blk, m.off + (off + n * inf.size), none⟩)) ?_ (.ptr _ _ m hm)
            simp [execOp, e, hu, hu', Instr.indexAt, asIntOf, run_underlying ht, sizeOf, typeInfo, hi, add_none, Nat.add_assoc]
            intro hc
            omega
          · cases h
        · cases h
      · cases h3
    · cases h3
  · cases hx

theorem ok_idxS (hR : Rel B S β w) (hE : OM β env F ρ om) {x i : Opd} (h : aop cl env F S (.idxS x i) = .ok v S') (hx : xmatch P om o.op (.idxS x i) = true) : OpOK P B S β w o ρ v S' := by
  simp only [aop] at h
  simp only [xmatch] at hx
  split at hx
  · rename_i t y y' e
    simp only [Bool.and_eq_true] at hx
    obtain ⟨⟨h1, h2⟩, h3⟩ := hx
    have ht := isStr_spec h3
    split at h
    · rename_i l0 m0 k n ha hb
      split at h
      · rename_i hle
        cases h
        have hle' := Nat.le_of_ble_eq_true hle
        obtain ⟨l, hu, rfl, rfl⟩ := (hE _ _ _ h1 ha).str_inv
        have hb' := hE _ _ _ h2 hb
        generalize hu' : ρ y' = u' at hb'
        cases hb'
        have hlt : n < l.length := by omega
        have hv : Int.ofNat (Nat.mod (Nat.div (pack l) (Nat.pow 256 n)) 256) = (((l[n]).toNat : Nat) : Int) := by
          have := pack_head l n hlt
          exact congrArg Int.ofNat this
        have hg : (ByteArray.mk l.toArray)[n]? = some l[n] := by
          have : n < (ByteArray.mk l.toArray).size := by simpa [ByteArray.size] using hlt
          rw [getElem?_pos (ByteArray.mk l.toArray) n this]
          rfl
        rw [hv]
        refine .pure hR (.int .u8 ((l[n]).toNat : Nat)) ?_ (.int _ _)
        simp [execOp, e, hu, hu', Instr.index, asIntOf, run_underlying ht, hg]
      · cases h
    · cases h
  · cases hx

/-- A bound that may be there. -/
def NatIs (ρ : Operand → Value) (y : Option Operand) : Option Nat → Prop
  | none => y = none
  | some n => ∃ k z, y = some z ∧ ρ z = .int k n

theorem optNat_sound (hE : OM β env F ρ om) {x : Option Opd} {y : Option Operand} {n : Option Nat} (h : optNat env F x = some n) (hm : oomatch om x y = true) : NatIs ρ y n := by
  cases x with
  | none =>
    cases y with
    | none => cases h; rfl
    | some z => simp [oomatch] at hm
  | some x =>
    cases y with
    | none => simp [oomatch] at hm
    | some z =>
      simp only [optNat] at h
      split at h
      · rename_i v hv
        split at h
        · rename_i n' hn
          cases h
          have hv' := hE _ _ _ (by simpa [oomatch] using hm) hv
          cases v <;> try (simp [natOf] at hn; done)
          rename_i k i
          cases i <;> simp only [natOf] at hn <;> cases hn
          generalize hu : ρ z = u at hv'
          cases hv'
          exact ⟨k, z, rfl, hu⟩
        · cases h
      · cases h

theorem run_sliceBound {k : IntKind} {n y : Nat} (h : n ≤ y) (code : BoundsCode) (w : World) : (Instr.sliceBound (.int k n) y code).run P w = .ok n w := by
  have h' : (n : Int) ≤ y := by omega
  simp [Instr.sliceBound, asIntOf, h']

theorem run_sliceBounds {isS : Bool} {len cap : Nat} {lo hi mx : Option Nat} {ylo yhi ymx : Option Operand} (hlo : NatIs ρ ylo lo) (hhi : NatIs ρ yhi hi) (hmx : NatIs ρ ymx mx)
    (h1 : mx.getD cap ≤ cap) (h2 : hi.getD len ≤ mx.getD cap) (h3 : lo.getD 0 ≤ hi.getD len) (h4 : mx.isNone ∨ hi.isSome) (w : World) :
    (Instr.sliceBounds isS len cap (ylo.map ρ) (yhi.map ρ) (ymx.map ρ)).run P w = .ok (lo.getD 0, hi.getD len, mx.getD cap) w := by
  unfold Instr.sliceBounds
  cases mx with
  | none =>
    simp only [NatIs] at hmx
    subst hmx
    simp only [Option.getD_none] at h1 h2 ⊢
    cases hi with
    | none =>
      simp only [NatIs] at hhi
      subst hhi
      simp only [Option.getD_none] at h2 h3 ⊢
      cases lo with
      | none => simp only [NatIs] at hlo; subst hlo; simp
      | some l =>
        obtain ⟨k, z, rfl, hz⟩ := hlo
        simp only [Option.getD_some] at h3
        simp [hz, run_sliceBound h3]
    | some hh =>
      obtain ⟨k, z, rfl, hz⟩ := hhi
      simp only [Option.getD_some] at h2 h3 ⊢
      cases lo with
      | none => simp only [NatIs] at hlo; subst hlo; simp [hz, run_sliceBound h2]
      | some l =>
        obtain ⟨k', z', rfl, hz'⟩ := hlo
        simp only [Option.getD_some] at h3
        simp [hz, hz', run_sliceBound h2, run_sliceBound h3]
  | some mm =>
    obtain ⟨k0, z0, rfl, hz0⟩ := hmx
    simp only [Option.getD_some] at h1 h2 ⊢
    cases hi with
    | none => simp at h4
    | some hh =>
      obtain ⟨k, z, rfl, hz⟩ := hhi
      simp only [Option.getD_some] at h2 h3 ⊢
      cases lo with
      | none => simp only [NatIs] at hlo; subst hlo; simp [hz, hz0, run_sliceBound h1, run_sliceBound h2]
      | some l =>
        obtain ⟨k', z', rfl, hz'⟩ := hlo
        simp only [Option.getD_some] at h3
        simp [hz, hz', hz0, run_sliceBound h1, run_sliceBound h2, run_sliceBound h3]

theorem ok_slcS (hR : Rel B S β w) (hE : OM β env F ρ om) {x : Opd} {lo hi : Option Opd} (h : aop cl env F S (.slcS x lo hi) = .ok v S') (hx : xmatch P om o.op (.slcS x lo hi) = true) : OpOK P B S β w o ρ v S' := by
  simp only [aop] at h
  simp only [xmatch] at hx
  split at hx
  · rename_i t y yl yh ym e
    simp only [Bool.and_eq_true] at hx
    obtain ⟨⟨⟨⟨h1, h2⟩, h3⟩, h4⟩, h5⟩ := hx
    have ht := isStr_spec h5
    have hym : ym = none := by simpa using h4
    subst hym
    split at h
    · rename_i l0 n0 lo' hi' ha hl hh
      obtain ⟨hv, rfl⟩ := okS_inv h
      obtain ⟨l, hu, rfl, rfl⟩ := (hE _ _ _ h1 ha).str_inv
      have hl' := optNat_sound hE hl h2
      have hh' := optNat_sound hE hh h3
      unfold doSlcS at hv
      split at hv
      · rename_i g1 g2
        cases hv
        have g1' := Nat.le_of_ble_eq_true g1
        have g2' := Nat.le_of_ble_eq_true g2
        have hs : (ByteArray.mk l.toArray).size = l.length := by simp [ByteArray.size]
        have hb := run_sliceBounds (P := P) (isS := false) (len := l.length) (cap := l.length) (mx := none) (ymx := none) hl' hh' rfl (Nat.le_refl _) g1' g2' (.inl rfl)
        simp only [Option.map_none] at hb
        refine .pure hR (.string ⟨((l.drop (lo'.getD 0)).take (hi'.getD l.length - lo'.getD 0)).toArray⟩) ?_ ?_
        · simp [execOp, e, hu, Instr.sliceAt, run_underlying ht, Instr.slice, hs, hb, ByteArray.extract_mk]
        · have := VR.str' β ((l.drop (lo'.getD 0)).take (hi'.getD l.length - lo'.getD 0))
          rw [pack_take, pack_drop, List.length_take, List.length_drop, Nat.min_eq_left (by omega)] at this
          exact this
      · cases hv
    · cases h
  · cases hx

theorem ok_mkI (hR : Rel B S β w) (hE : OM β env F ρ om) {t : Nat} {x : Opd} (h : aop cl env F S (.mkI t x) = .ok v S') (hx : xmatch P om o.op (.mkI t x) = true) : OpOK P B S β w o ρ v S' := by
  simp only [aop] at h
  simp only [xmatch] at hx
  split at hx
  · rename_i t' y e
    simp only [Bool.and_eq_true, beq_iff_eq] at hx
    obtain ⟨⟨rfl, h1⟩, h2⟩ := hx
    split at h
    · rename_i a ha
      cases h
      have ha' := hE _ _ _ h1 ha
      split at h2
      · cases h2
      · rename_i d hne hd
        refine .pure hR (.iface t (ρ y)) ?_ (.ifc _ _ _ ha')
        simp only [execOp, e, Instr.makeInterface, Sem.run_bind, run_underlying hd, Result.andThen_ok]
        cases d <;> first | rfl | exact absurd hd (hne _)
      · cases h2
    · cases h
  · cases hx

theorem ok_mkF (hR : Rel B S β w) (hE : OM β env F ρ om) {f : Nat} {a b : List Opd} (h : aop cl env F S (.mkF f a b) = .ok v S') (hx : xmatch P om o.op (.mkF f a b) = true) : OpOK P B S β w o ρ v S' := by
  simp only [aop] at h
  simp only [xmatch] at hx
  split at hx
  · rename_i f' x y e
    simp only [Bool.and_eq_true, beq_iff_eq] at hx
    obtain ⟨⟨rfl, h1⟩, h2⟩ := hx
    split at h
    · rename_i a' b' ha hb
      cases h
      have ha' := ovs_sound' hE h1 ha
      have hb' := ovs_sound' hE h2 hb
      exact .pure hR (.func (.func f) (x.map ρ) (y.map ρ)) (by simp [execOp, e, Instr.makeFunc]) (.fn _ _ _ _ _ ha'.size hb'.size ha'.at_ hb'.at_)
    · cases h
  · cases hx

theorem ok_ext (hR : Rel B S β w) (hE : OM β env F ρ om) {i : Nat} {x : Opd} (h : aop cl env F S (.ext i x) = .ok v S') (hx : xmatch P om o.op (.ext i x) = true) : OpOK P B S β w o ρ v S' := by
  simp only [aop] at h
  simp only [xmatch] at hx
  split at hx
  · rename_i y i' e
    simp only [Bool.and_eq_true, beq_iff_eq] at hx
    obtain ⟨rfl, h1⟩ := hx
    split at h
    · rename_i l ha
      obtain ⟨hv, rfl⟩ := okS_inv h
      have ha' := hE _ _ _ h1 ha
      generalize hu : ρ y = u at ha'
      cases ha'
      rename_i x' hx1 hx2
      rw [nthO_eq] at hv
      obtain ⟨u, h2, h3⟩ := (LR.mk hx1 hx2).get hv
      exact .pure hR u (by simp [execOp, e, hu, Instr.extract, h2]) h3
    · cases h
  · cases hx

theorem args_one {c : Call} {x : Opd} {str : Bool} (h : lenArg P om x c str = true) : ∃ y t, c.args = #[y] ∧ c.argTypes[0]? = some t ∧ om x y = true ∧
    lenKind P t str = true := by
  unfold lenArg at h
  split at h
  · rename_i y t h1 h2
    simp only [Bool.and_eq_true] at h
    exact ⟨y, t, by rw [← Array.toArray_toList (xs := c.args), h1], h2, h.1, h.2⟩
  · cases h

theorem ok_lenS (hR : Rel B S β w) (hE : OM β env F ρ om) {x : Opd} (h : aop cl env F S (.lenS x) = .ok v S') (hx : xmatch P om o.op (.lenS x) = true) : OpOK P B S β w o ρ v S' := by
  simp only [aop] at h
  simp only [xmatch] at hx
  split at hx
  · rename_i c e
    split at hx
    · rename_i hc
      obtain ⟨y, t, h1, h2, h3, h4⟩ := args_one hx
      split at h
      · rename_i l0 n0 ha
        cases h
        obtain ⟨l, hu, rfl, rfl⟩ := (hE _ _ _ h3 ha).str_inv
        unfold lenKind at h4
        split at h4 <;> first | cases h4 | skip
        · rename_i ht _
          have hs : (ByteArray.mk l.toArray).size = l.length := by simp [ByteArray.size]
          refine .pure hR (.int .i64 (l.length : Nat)) ?_ (.int _ _)
          simp [execOp, e, resolve, hc, h1, hu, invoke, builtin, Builtin.len_, h2, run_underlying ht, goInt, hs]
        · simp at *
      · cases h
    · cases hx
  · cases hx

theorem ok_lenL (hR : Rel B S β w) (hE : OM β env F ρ om) {x : Opd} (h : aop cl env F S (.lenL x) = .ok v S') (hx : xmatch P om o.op (.lenL x) = true) : OpOK P B S β w o ρ v S' := by
  simp only [aop] at h
  simp only [xmatch] at hx
  split at hx
  · rename_i c e
    split at hx
    · rename_i hc
      obtain ⟨y, t, h1, h2, h3, h4⟩ := args_one hx
      unfold lenKind at h4
      split at h4 <;> first | cases h4 | skip
      · simp at *
      · rename_i el ht _
        split at h
        · rename_i ha
          cases h
          have ha' := hE _ _ _ h3 ha
          generalize hu : ρ y = u at ha'
          cases ha'
          refine .pure hR (.int .i64 (0 : Nat)) ?_ (.int _ _)
          simp [execOp, e, resolve, hc, h1, hu, invoke, builtin, Builtin.len_, h2, run_underlying ht, goInt]
        · rename_i b off len cap ha
          cases h
          have ha' := hE _ _ _ h3 ha
          generalize hu : ρ y = u at ha'
          cases ha'
          refine .pure hR (.int .i64 (len : Nat)) ?_ (.int _ _)
          simp [execOp, e, resolve, hc, h1, hu, invoke, builtin, Builtin.len_, h2, run_underlying ht, goInt]
        · cases h
    · cases hx
  · cases hx

end
end Go.Av
