/- Cuts, 'append', 'copy', and the rest. -/
import Derived.Test.YtbfmjoheolgjeaaGreatDoorAvH
import Derived.Deep.AppendSrc
import Derived.Laws.BytesString
namespace Go.Av
section
variable {P : Program} {B : Nat} {S : St} {β : Beta} {w : World}
variable {env : List AV} {F : Fr} {ρ : Operand → Value} {om : Opd → Operand → Bool} {cl : Nat → List AV → St → OR} {v : AV} {S' : St} {o : Oper}

theorem sub_div (lim off lo sz : Nat) : (lim - off) / sz - lo = (lim - (off + lo * sz)) / sz := by
  rw [← Nat.sub_sub, Nat.mul_comm, Nat.sub_mul_div]

/-- How far a slice reaches. -/
theorem reach_le (hR : Rel B S β w) {b off esz : Nat} {cap : Option Nat} {r : Nat} {m : BM} (hm : β b = some m) (h : reach S b off esz cap = some r) :
    r ≤ cap.getD ((m.lim - off) / m.sz) ∧ (cap = none → m.sz = esz) := by
  unfold reach at h
  cases cap with
  | some c => cases h; exact ⟨Nat.le_refl _, fun h => by cases h⟩
  | none =>
    simp only at h
    split at h
    · rename_i e size c hb
      split at h
      · rename_i he
        cases h
        have he' := Nat.eq_of_beq_eq_true he
        obtain ⟨_, C, e', g1, g2, g3, g4, g5⟩ := hR.live b _ m hb hm
        subst he'
        refine ⟨?_, fun _ => g4⟩
        show (size - off) / e ≤ (m.lim - off) / m.sz
        rw [g4]
        exact Nat.div_le_div_right (by omega)
      · cases h
    · cases h

theorem ok_slcL (hR : Rel B S β w) (hE : OM β env F ρ om) {esz : Nat} {x : Opd} {lo hi mx : Option Opd} (h : aop cl env F S (.slcL esz x lo hi mx) = .ok v S') (hx : xmatch P om o.op (.slcL esz x lo hi mx) = true) : OpOK P B S β w o ρ v S' := by
  simp only [aop] at h
  simp only [xmatch] at hx
  split at hx
  · rename_i t y yl yh ym e
    simp only [Bool.and_eq_true] at hx
    obtain ⟨⟨⟨⟨⟨h1, h2⟩, h3⟩, h4⟩, h5⟩, h6⟩ := hx
    split at h6
    · rename_i el hu
      split at h6
      · rename_i i hinf
        simp only [Bool.and_eq_true, beq_iff_eq, decide_eq_true_eq] at h6
        obtain ⟨rfl, _⟩ := h6
        split at h
        · rename_i a lo' hi' mx' ha hl hh hmx
          obtain ⟨hv, rfl⟩ := okS_inv h
          have ha' := hE _ _ _ h1 ha
          have hl' := optNat_sound hE hl h2
          have hh' := optNat_sound hE hh h3
          have hm' := optNat_sound hE hmx h4
          have h5' : mx'.isNone ∨ hi'.isSome := by
            cases mx with
            | none => cases hmx; exact .inl rfl
            | some q =>
              cases hi with
              | none => simp at h5
              | some q' =>
                right
                simp only [optNat] at hh
                split at hh
                · split at hh
                  · cases hh; rfl
                  · cases hh
                · cases hh
          unfold doSlcL at hv
          generalize hum : ρ y = um at ha'
          split at hv
          · split at hv
            · rename_i g1 g2 g3
              cases hv
              have g1' := Nat.eq_of_beq_eq_true g1
              have g2' := Nat.eq_of_beq_eq_true g2
              have g3' := Nat.eq_of_beq_eq_true g3
              cases ha'
              have hmx0 : mx'.getD 0 ≤ 0 := by omega
              have hb := run_sliceBounds (P := P) (isS := true) (len := 0) (cap := 0) hl' hh' hm' hmx0 (by omega) (by omega) h5' w
              refine .pure hR (.slice none 0 0) ?_ .nils
              simp [execOp, e, hum, Instr.sliceAt, run_underlying hu, Instr.slice, hb, sizeOf, typeInfo, hinf, g1', g2', g3']
            · cases hv
          · rename_i b off len cap
            split at hv
            · rename_i r hr
              cases ha'
              rename_i m hm
              obtain ⟨q1, q2⟩ := reach_le hR hm hr
              split at hv
              · split at hv
                · rename_i g1 g2 g3
                  cases hv
                  have g1' := Nat.le_of_ble_eq_true g1
                  have g2' := Nat.le_of_ble_eq_true g2
                  have g3' := Nat.le_of_ble_eq_true g3
                  have hb := run_sliceBounds (P := P) (isS := true) (len := len) (cap := cap.getD ((m.lim - off) / m.sz)) hl' hh' hm' (Nat.le_refl _) (by simp only [Option.getD_none]; omega) g2' h5' w
                  simp only [Option.getD_none] at hb
                  have hne : ¬ (cap.getD ((m.lim - off) / m.sz) = lo'.getD 0) := by omega
                  refine .pure hR (.slice (some ⟨m.blk, m.off + (off + lo'.getD 0 * i.size), none⟩) (hi'.getD len - lo'.getD 0) (cap.getD ((m.lim - off) / m.sz) - lo'.getD 0)) ?_ ?_
                  · simp [execOp, e, hum, Instr.sliceAt, run_underlying hu, Instr.slice, hb, sizeOf, typeInfo, hinf, hne, add_none, Nat.add_assoc]
                  · cases cap with
                    | some c => exact VR.slc b _ _ (some (c - lo'.getD 0)) m hm
                    | none =>
                      have := VR.slc b (off + lo'.getD 0 * i.size) (hi'.getD len - lo'.getD 0) none m hm
                      simp only [Option.getD_none] at this ⊢
                      rw [sub_div, q2 rfl]
                      rw [q2 rfl] at this
                      exact this
                · rename_i g1 g2 g3
                  have g1' := Nat.le_of_ble_eq_true g1
                  have g2' := Nat.le_of_ble_eq_true g2
                  split at hv
                  · rename_i c
                    split at hv
                    · rename_i g4
                      cases hv
                      have g4' : c = lo'.getD 0 := Nat.eq_of_beq_eq_true g4
                      simp only [Option.getD_some] at q1
                      have hb := run_sliceBounds (P := P) (isS := true) (len := len) (cap := c) hl' hh' hm' (Nat.le_refl _) (by simp only [Option.getD_none]; omega) g2' h5' w
                      simp only [Option.getD_none] at hb
                      refine .pure hR (.slice (some ⟨m.blk, m.off + off, none⟩) (hi'.getD len - lo'.getD 0) 0) ?_ (VR.slc b off _ (some 0) m hm)
                      simp [execOp, e, hum, Instr.sliceAt, run_underlying hu, Instr.slice, hb, sizeOf, typeInfo, hinf, ← g4']
                    · cases hv
                  · cases hv
                · cases hv
              · rename_i mm
                split at hv
                · rename_i g1 g2 g3
                  have g1' := Nat.le_of_ble_eq_true g1
                  have g2' := Nat.le_of_ble_eq_true g2
                  have g3' := Nat.le_of_ble_eq_true g3
                  have hb := run_sliceBounds (P := P) (isS := true) (len := len) (cap := cap.getD ((m.lim - off) / m.sz)) hl' hh' hm' (by simp only [Option.getD_some]; omega) (by simp only [Option.getD_some]; omega) g3' h5' w
                  simp only [Option.getD_some] at hb
                  split at hv
                  · rename_i g4
                    cases hv
                    have g4' : mm = lo'.getD 0 := Nat.eq_of_beq_eq_true g4
                    refine .pure hR (.slice (some ⟨m.blk, m.off + off, none⟩) (hi'.getD len - lo'.getD 0) 0) ?_ (VR.slc b off _ (some 0) m hm)
                    simp [execOp, e, hum, Instr.sliceAt, run_underlying hu, Instr.slice, hb, sizeOf, typeInfo, hinf, ← g4']
                  · rename_i g4
                    cases hv
                    have g4' : mm ≠ lo'.getD 0 := fun h => by rw [h] at g4; simp at g4
                    refine .pure hR (.slice (some ⟨m.blk, m.off + (off + lo'.getD 0 * i.size), none⟩) (hi'.getD len - lo'.getD 0) (mm - lo'.getD 0)) ?_ (VR.slc b _ _ (some (mm - lo'.getD 0)) m hm)
                    simp [execOp, e, hum, Instr.sliceAt, run_underlying hu, Instr.slice, hb, sizeOf, typeInfo, hinf, g4', add_none, Nat.add_assoc]
                · cases hv
            · cases hv
          · cases hv
        · cases h
      · cases h6
    · cases h6
  · cases hx

theorem ok_b2s (hR : Rel B S β w) (hE : OM β env F ρ om) {x : Opd} (h : aop cl env F S (.b2s x) = .ok v S') (hx : xmatch P om o.op (.b2s x) = true) : OpOK P B S β w o ρ v S' := by
  simp only [aop] at h
  simp only [xmatch] at hx
  split at hx
  · rename_i s d y e
    simp only [Bool.and_eq_true] at hx
    obtain ⟨⟨h1, h2⟩, h3⟩ := hx
    have hd := isStr_spec h2
    split at h3
    · rename_i el hs
      split at h3
      · rename_i hel
        split at h
        · rename_i ha
          cases h
          have ha' := hE _ _ _ h1 ha
          generalize hu : ρ y = u at ha'
          cases ha'
          refine .pure hR (.string ⟨([] : List UInt8).toArray⟩) ?_ (VR.str' β [])
          simp [execOp, e, hu, convert, run_underlying hs, run_underlying hd, run_underlying hel, Conv.bytesToString]
          rfl
        · rename_i b off len cap ha
          split at h
          · rename_i l hl
            split at h
            · rename_i n hn
              cases h
              have ha' := hE _ _ _ h1 ha
              generalize hu : ρ y = u at ha'
              cases ha'
              rename_i m hm
              simp only [sliceCells] at hl
              split at hl
              · rename_i esz size c hb
                obtain ⟨L, q1, q2, q3⟩ := hR.cellsAt hb hm hl
                obtain ⟨q, a1, a2, a3⟩ := packA_sound l L n q2 hn
                have hlen : l.length = len := by have := (loadN_some hl).1; rw [this]; exact Nat.mul_one len
                have hrun : (loadCells ⟨m.blk, m.off + off, none⟩ len).run P w = .ok ((q.map fun b => ((b.toNat : Nat) : Int)).map (Value.int .u8)).toArray w := by
                  have := run_loadCells_list (P := P) w ⟨m.blk, m.off + off, none⟩ L q3
                  rw [show L.length = len by rw [q1]; exact Nat.mul_one len] at this
                  rw [this, a3, List.map_map]
                  rfl
                have hc := run_bytesToString (P := P) w ⟨m.blk, m.off + off, none⟩ len (cap.getD ((m.lim - off) / m.sz)) _ hrun
                have hfold : ∀ (l : List UInt8) (r : ByteArray), (l.map fun b => ((b.toNat : Nat) : Int)).foldl (fun r n => r.push (UInt8.ofNat n.toNat)) r = ⟨(r.data.toList ++ l).toArray⟩ := by
                  intro l
                  induction l with
                  | nil => intro r; cases r; simp
                  | cons x l ih =>
                    intro r
                    rw [List.map_cons, List.foldl_cons, ih]
                    congr 1
                    apply Array.ext'
                    simp [ByteArray.push]
                rw [hfold] at hc
                refine .pure hR (.string ⟨q.toArray⟩) ?_ ?_
                · simp only [execOp, e, hu, convert, Sem.run_bind, run_underlying hs, run_underlying hd, Result.andThen_ok, run_underlying hel, hc]
                  rfl
                · have := VR.str' β q
                  rw [a2, a1, hlen] at this
                  exact this
              · cases hl
            · cases h
          · cases h
        · cases h
      · cases h3
    · cases h3
  · cases hx

end
end Go.Av
