/- 'append', 'copy', and the rest. -/
import Derived.Test.YtbfmjoheolgjeaaGreatDoorAvI
import Derived.Laws.StructEq
namespace Go.Av
section
variable {P : Program} {B : Nat} {S : St} {β : Beta} {w : World}
variable {env : List AV} {F : Fr} {ρ : Operand → Value} {om : Opd → Operand → Bool} {cl : Nat → List AV → St → OR} {v : AV} {S' : St} {o : Oper}

/-- What is laid into the world by an append: where there is room, and where there is none. -/
structure Apd (P : Program) (w : World) (size : Nat) (t tx ty e : TypeId) (z : Value) (x : Value) (n : Nat) (news : List Value) : Prop where
  len : news.length = n * size
  zero : n = 0 → (Builtin.append_ #[t, tx] ty #[.slice none 0 0, x]).run P w = .ok (.slice none 0 0) w
  room : ∀ b sLen sCap w', sLen + n ≤ sCap → (storeCells (b.add (sLen * size)) news).run P w = .ok () w' → (Builtin.append_ #[t, tx] ty #[.slice (some b) sLen sCap, x]).run P w = .ok (.slice (some b) (sLen + n) sCap) w'
  grow : ∀ base sLen sCap (olds : List Value), (Builtin.firstCells size sLen (.slice base sLen sCap)).run P w.drew = .ok olds.toArray w.drew → sCap < sLen + n → 0 < n → sLen + n ≤ 2000000 →
    ∃ r, (Builtin.append_ #[t, tx] ty #[.slice base sLen sCap, x]).run P w = .ok (.slice (some ⟨w.heap.size, 0, none⟩) (sLen + n) (grownCap w (sLen + n) sCap e))
        (w.drew.alloc (.cells ((olds ++ news).toArray ++ r) e)) ∧ r.size = (grownCap w (sLen + n) sCap e - (sLen + n)) * size

theorem Apd.ofSrc {size : Nat} {t tx ty e : TypeId} {i : TypeInfo} {z : Value} {x : Value} {n : Nat} {news : List Value} (ht : P.underlying t = some (.slice e)) (hi : P.info? e = some i) (hsz : i.size = size) (hz : i.zero = some z)
    (hzs : z.cells.size = size) (hby : i.bytes ≤ 65536) (hs : Src P size tx x n news w) : Apd P w size t tx ty e z x n news := by
  subst hsz
  refine ⟨hs.newsLen, ?_, ?_, ?_⟩
  · intro h0
    subst h0
    rcases hs.kind with ⟨e', hk⟩ | hk <;> simp [Builtin.append_, run_underlying ht, run_underlying hk, sizeOf, typeInfo, hi, hs.len, hs.cells]
  · intro b sLen sCap w' hroom hst
    rcases hs.kind with ⟨e', hk⟩ | hk <;> simp [Builtin.append_, run_underlying ht, run_underlying hk, sizeOf, typeInfo, hi, hs.len, hroom, hs.cells, hst]
  · intro base sLen sCap olds hold hg _ hle
    have hfit : Builtin.nextslicecap (sLen + n) sCap * i.bytes ≤ 281474976710656 := growslice_fits (by omega) (by
      have : (sLen + n) * i.bytes ≤ 2000000 * 65536 := Nat.mul_le_mul hle hby
      omega)
    refine ⟨_, run_append_grow_src w t tx ty e i z ht hi hz base sLen sCap olds hold x n news hs hg (by omega) hfit, ?_⟩
    rw [size_zeroCells, hzs]

theorem Apd.ofZeros {size : Nat} {t tx ty e : TypeId} {i : TypeInfo} {z : Value} {kn k : IntKind} {n : Nat} (ht : P.underlying t = some (.slice e)) (htn : P.underlying tx = some (.int kn)) (hi : P.info? e = some i) (hsz : i.size = size) (hz : i.zero = some z)
    (hzs : z.cells.size = size) (hpos : 0 < size) (hby : i.bytes ≤ 65536) (hn : n ≤ 1000000) : Apd P w size t tx ty e z (.int k n) n (Builtin.zeroCells z.cells n).toList := by
  subst hsz
  have hw : IntKind.i64.wrap (n : Int) = n := by rw [IntKind.wrap_i64]; omega
  have hw0 : IntKind.i64.wrap 0 = 0 := by rw [IntKind.wrap_i64]; omega
  have hneg : ¬ ((n : Int) < 0) := by omega
  have hb : n * i.bytes ≤ 1000000 * 65536 := Nat.mul_le_mul hn hby
  have h48i : ¬ (281474976710656 < (n : Int) * (i.bytes : Int)) := by
    rw [← Int.natCast_mul]
    omega
  refine ⟨by rw [Array.length_toList, size_zeroCells, hzs], ?_, ?_, ?_⟩
  · intro h0
    subst h0
    simp [Builtin.append_, run_underlying ht, run_underlying htn, sizeOf, typeInfo, hi, asInt, asIntOf, hw0]
  · intro b sLen sCap w' hroom hst
    by_cases h0 : n = 0
    · subst h0
      have e1 : Builtin.zeroCells z.cells 0 = #[] := by simp [Builtin.zeroCells]
      rw [e1] at hst
      have hst' : w' = w := by simpa [storeCells] using hst.symm
      subst hst'
      simp only [Nat.add_zero] at hroom
      simp [Builtin.append_, run_underlying ht, run_underlying htn, sizeOf, typeInfo, hi, asInt, asIntOf, hw0, storeCells, hroom]
    · have hns : ¬ (n * i.size = 0) := Nat.mul_ne_zero h0 (by omega)
      simp [Builtin.append_, run_underlying ht, run_underlying htn, sizeOf, typeInfo, zeroValue, hi, hz, asInt, asIntOf, hw, hneg, h48i, hns, hroom, hst]
  · intro base sLen sCap olds hold hg h0 hle
    have hfit : Builtin.nextslicecap (sLen + n) sCap * i.bytes ≤ 281474976710656 := growslice_fits (by omega) (by
      have : (sLen + n) * i.bytes ≤ 2000000 * 65536 := Nat.mul_le_mul hle hby
      omega)
    refine ⟨Builtin.zeroCells z.cells (grownCap w (sLen + n) sCap e - (sLen + n)), ?_, by rw [size_zeroCells, hzs]⟩
    rw [Lib.run_append_grow_zeros w t tx ty e i z k kn ht htn hi hz base sLen sCap olds hold n h0 (by omega) hg (by omega) (by omega) hfit]
    congr 3
    apply Array.ext'
    simp

theorem doApp_sound (hR : Rel B S β w) {esz : Nat} {s : AV} {n : Nat} {news : List AV} (h : doApp S esz s n news = .ok v S') (hf : Free β S.next S'.next) {p x : Value} (hp : VR β s p)
    {t tx ty e : TypeId} {z : Value} {N : List Value} (hpos : 0 < esz) (hN : LR β news N.toArray) (hA : Apd P w esz t tx ty e z x n N) :
    ∃ β' u w', (Builtin.append_ #[t, tx] ty #[p, x]).run P w = .ok u w' ∧ VR β' v u ∧ Rel B S' β' w' ∧ Step S β w S' β' w' := by
  have hlen : news.length = n * esz := by
    have := hN.size
    have h2 := hA.len
    simp at this
    omega
  unfold doApp at h
  split at h
  · rename_i g1 g2
    have g1' := Nat.le_of_ble_eq_true g1
    -- a new row of old and new cells
    have freshC : ∀ (S0 : St) (base : Option Addr) (sLen sCap : Nat) (cn : PT AV) (O : List Value), S0.next = S.next → Rel B S0 β w → Step S β w S0 β w → O.length = sLen * esz →
        (∀ i v, cn.get i = some v → ∃ u, (O ++ N)[i]? = some u ∧ VR β v u) →
        (∀ w0 : World, w0.heap = w.heap → (Builtin.firstCells esz sLen (.slice base sLen sCap)).run P w0 = .ok O.toArray w0) → sCap < sLen + n → 0 < n → sLen + n ≤ 2000000 →
        newB S0 (.cells esz (Nat.mul (Nat.add sLen n) esz) cn) (fun b' => .slc b' 0 (Nat.add sLen n) none) = .ok v S' →
        ∃ β' u w', (Builtin.append_ #[t, tx] ty #[.slice base sLen sCap, x]).run P w = .ok u w' ∧ VR β' v u ∧ Rel B S' β' w' ∧ Step S β w S' β' w' := by
      intro S0 base sLen sCap cn O hn0 hR0 hSt hOl hcn hold hg h0 hle hb
      obtain ⟨rfl, rfl⟩ := newB_inv hb
      obtain ⟨r, hrun, hr⟩ := hA.grow base sLen sCap O (hold w.drew rfl) hg h0 hle
      have hge := grownCap_ge w (sLen + n) sCap e
      have hnone : β S0.next = none := hf S0.next (by omega) (Nat.lt_succ_self _)
      have hcap : (O ++ N).length = (sLen + n) * esz := by
        rw [List.length_append, hOl, hA.len, Nat.add_mul]
      have hbig : (sLen + n) * esz ≤ grownCap w (sLen + n) sCap e * esz := Nat.mul_le_mul_right _ hge
      have hsz : ((O ++ N).toArray ++ r).size = grownCap w (sLen + n) sCap e * esz := by
        rw [Array.size_append, List.size_toArray, hcap, hr, ← Nat.add_mul]
        congr 1
        omega
      obtain ⟨r1, r2⟩ := alloc_step (w1 := w.drew.alloc (.cells ((O ++ N).toArray ++ r) e)) hR0 hnone (.cells esz (Nat.mul (Nat.add sLen n) esz) cn) ⟨w.heap.size, 0, grownCap w (sLen + n) sCap e * esz, esz⟩ (.cells ((O ++ N).toArray ++ r) e)
        rfl rfl rfl rfl rfl
        ⟨(O ++ N).toArray ++ r, e, push_new w _, hbig, by show 0 + _ ≤ _; rw [hsz, Nat.zero_add]; exact Nat.le_refl _, rfl, fun j vv hj => by
            obtain ⟨u, u1, u2⟩ := hcn j vv hj
            have hj' : j < (O ++ N).length := (List.getElem?_eq_some_iff.1 u1).1
            refine ⟨by show j < (sLen + n) * esz; omega, u, ?_, u2.mono (Beta.le_put hnone _)⟩
            show ((O ++ N).toArray ++ r)[0 + j]? = some u
            rw [Nat.zero_add, Array.getElem?_append_left (by simpa using hj')]
            simpa using u1⟩
        _ (fun k => PT.get_set _ _ _ _)
      refine ⟨_, _, _, hrun, ?_, r1, ?_⟩
      · have := VR.slc (β := β.put S0.next ⟨w.heap.size, 0, grownCap w (sLen + n) sCap e * esz, esz⟩) S0.next 0 (Nat.add sLen n) none _ (Beta.put_self _ _ _)
        simp only [Option.getD_none, Nat.sub_zero, Nat.add_zero] at this
        rw [Nat.mul_div_cancel _ hpos] at this
        exact this
      · exact Step.trans (by
          intro b h1 h2
          exact hf b h1 h2) hR0.hlt hSt r2
    have fresh : ∀ (S0 : St) (base : Option Addr) (sLen sCap : Nat) (old : List AV) (O : List Value), S0.next = S.next → Rel B S0 β w → Step S β w S0 β w → LR β old O.toArray → O.length = sLen * esz →
        (∀ w0 : World, w0.heap = w.heap → (Builtin.firstCells esz sLen (.slice base sLen sCap)).run P w0 = .ok O.toArray w0) → sCap < sLen + n → 0 < n → sLen + n ≤ 2000000 →
        newB S0 (.cells esz (Nat.mul (Nat.add sLen n) esz) (ofList (old ++ news))) (fun b' => .slc b' 0 (Nat.add sLen n) none) = .ok v S' →
        ∃ β' u w', (Builtin.append_ #[t, tx] ty #[.slice base sLen sCap, x]).run P w = .ok u w' ∧ VR β' v u ∧ Rel B S' β' w' ∧ Step S β w S' β' w' := by
      intro S0 base sLen sCap old O hn0 hR0 hSt hO hOl hold hg h0 hle hb
      refine freshC S0 base sLen sCap _ O hn0 hR0 hSt hOl (fun i vv hv => ?_) hold hg h0 hle hb
      rw [get_ofList] at hv
      have hON : LR β (old ++ news) (O ++ N).toArray := by
        have := hO.append hN
        simpa using this
      obtain ⟨u, u1, u2⟩ := hON.get hv
      exact ⟨u, by simpa using u1, u2⟩
    split at h
    · cases hp
      split at h
      · cases h
        exact ⟨β, _, w, hA.zero rfl, .nils, hR, Step.refl S β w⟩
      · rename_i hn
        have h0 : 0 < n := by
          rcases Nat.eq_zero_or_pos n with e | e
          · exact absurd e hn
          · exact e
        have := fresh S none 0 0 [] [] rfl hR (Step.refl S β w) (LR.nil β) (by simp) (fun w0 _ => run_firstCells_none w0 esz 0 0 0) (by omega) h0 (by omega)
        simp only [Nat.add_eq, Nat.zero_add, List.nil_append] at this
        exact this h
    · rename_i b off len cap
      cases hp
      rename_i m hm
      split at h
      · rename_i e0 size c hb hle
        have hle' := Nat.le_of_ble_eq_true hle
        obtain ⟨_, C, e1, q1, q2, q3, q4, q5⟩ := hR.live b _ m hb hm
        simp only at h
        -- in place
        have place : ∀ (cp : Nat), Nat.add len n ≤ cp → Nat.ble (Nat.add off (Nat.mul (Nat.add len n) esz)) size = true →
            (PT.force (fun h => OR.ok (.slc b off (Nat.add len n) cap) ⟨S.next, h⟩) (PT.set (some (.cells e0 size (storeN news c (Nat.add off (Nat.mul len esz))))) S.heap b)) = .ok v S' → cap.getD ((m.lim - off) / m.sz) = cp →
            ∃ β' u w', (Builtin.append_ #[t, tx] ty #[.slice (some ⟨m.blk, m.off + off, none⟩) len cp, x]).run P w = .ok u w' ∧ VR β' v u ∧ Rel B S' β' w' ∧ Step S β w S' β' w' := by
          intro cp hcp hfit hout hcap
          rw [PT.force_eq] at hout
          cases hout
          have hfit' := Nat.le_of_ble_eq_true hfit
          simp only [Nat.add_eq, Nat.mul_eq, Nat.add_mul] at hfit'
          obtain ⟨w', s1, s2, s3⟩ := store_cells (P := P) hR hb hm hN g2 (off := off + len * esz) (by omega) _ (fun k => PT.get_set _ _ _ _)
          have hst : (storeCells ((⟨m.blk, m.off + off, none⟩ : Addr).add (len * esz)) N).run P w = .ok () w' := by
            rw [add_none, Nat.add_assoc]
            exact s1
          have hrun := hA.room ⟨m.blk, m.off + off, none⟩ len cp w' hcp hst
          refine ⟨β, _, w', hrun, ?_, s2, s3⟩
          have := VR.slc (β := β) b off (Nat.add len n) cap m hm
          rw [hcap] at this
          exact this
        split at h
        · rename_i k
          split at h
          · rename_i hk
            have hk' := Nat.le_of_ble_eq_true hk
            split at h
            · rename_i hfit
              exact place k hk' hfit h rfl
            · cases h
          · rename_i hk
            have hk' : k < len + n := by
              rcases Nat.lt_or_ge k (len + n) with hh | hh
              · exact hh
              · exact absurd (Nat.ble_eq_true_of_le hh) (by rw [show len + n = Nat.add len n from rfl, hk]; simp)
            split at h
            · rename_i old hold h0
              have h0' := Nat.le_of_ble_eq_true h0
              obtain ⟨O, o1, o2, o3⟩ := hR.cellsAt hb hm hold
              exact fresh S (some ⟨m.blk, m.off + off, none⟩) len k old O rfl hR (Step.refl S β w) o2 o1 (fun w0 hw => run_firstCells_some w0 esz len _ len k O o1 (fun j u hj => by
                have := o3 j u hj
                rw [← this]
                exact World.cell?_of_block (by rw [hw]))) hk' (by omega) (by omega) h
            · cases h
        · split at h
          · rename_i he
            have he' := Nat.eq_of_beq_eq_true he
            subst he'
            split at h
            · rename_i hfit
              have hfit' := Nat.le_of_ble_eq_true hfit
              simp only [Nat.add_eq, Nat.mul_eq] at hfit'
              refine place _ ?_ hfit h rfl
              simp only [Option.getD_none]
              rw [q4, Nat.le_div_iff_mul_le hpos]
              show (len + n) * e0 ≤ m.lim - off
              omega
            · rename_i hnfit
              split at h
              · rename_i hoff
                have hoff' : off = 0 := Nat.eq_of_beq_eq_true hoff
                subst hoff'
                split at h
                · rename_i hin
                  have hin2 : len * e0 ≤ size := Nat.le_of_ble_eq_true hin
                  have hnf : ¬ ((len + n) * e0 ≤ size) := fun hh => by
                    exact absurd (Nat.ble_eq_true_of_le hh) (by rw [show (len + n) * e0 = Nat.add 0 (Nat.mul (Nat.add len n) e0) from (Nat.zero_add _).symm, hnfit]; simp)
                  have h0 : 0 < n := by
                    rcases Nat.eq_zero_or_pos n with h0 | h0
                    · subst h0; exact absurd hin2 hnf
                    · exact h0
                  have hNl : N.length = n * e0 := hA.len
                  have hmul : (len + n) * e0 = len * e0 + n * e0 := Nat.add_mul _ _ _
                  have hnl := hN.size
                  simp only [List.size_toArray] at hnl
                  -- what lies in the new block
                  have hget : ∀ i vv, (storeN news c (Nat.mul len e0)).get i = some vv → i < (len + n) * e0 ∧ ((i < len * e0 ∧ ∃ u, C[m.off + i]? = some u ∧ VR β vv u) ∨ (len * e0 ≤ i ∧ ∃ u, N[i - len * e0]? = some u ∧ VR β vv u)) := by
                    intro i vv hv
                    rw [get_storeN, show Nat.mul len e0 = len * e0 from rfl] at hv
                    by_cases hc : len * e0 ≤ i ∧ i < len * e0 + news.length
                    · rw [if_pos hc] at hv
                      obtain ⟨u, u1, u2⟩ := hN.get hv
                      exact ⟨by omega, .inr ⟨hc.1, u, by simpa using u1, u2⟩⟩
                    · rw [if_neg hc] at hv
                      obtain ⟨a1, u, a2, a3⟩ := q5 i vv hv
                      exact ⟨by omega, .inl ⟨by omega, u, a2, a3⟩⟩
                  by_cases hroom : len + n ≤ (m.lim - 0) / m.sz
                  · have hroom' : (len + n) * e0 ≤ m.lim - 0 := by
                      rw [q4, Nat.le_div_iff_mul_le hpos] at hroom
                      exact hroom
                    obtain ⟨rfl, rfl⟩ := newB_inv h
                    have hnone : β S.next = none := hf S.next (Nat.le_refl _) (Nat.lt_succ_self _)
                    have hsrun := run_storeCells_at P m.blk (m.off + 0 + len * e0) e1 N 0 C w q1 (by omega) (oneAll hN g2)
                    have hst : (storeCells ((⟨m.blk, m.off + 0, none⟩ : Addr).add (len * e0)) N).run P w = .ok () (w.setRow m.blk (C.toList.take (m.off + 0 + len * e0 + 0) ++ N ++ C.toList.drop (m.off + 0 + len * e0 + 0 + N.length)).toArray) := by
                      rw [add_none]
                      exact hsrun
                    have hrun := hA.room ⟨m.blk, m.off + 0, none⟩ len ((m.lim - 0) / m.sz) _ hroom hst
                    obtain ⟨r1, r2⟩ := move_step (w1 := w.setRow m.blk (C.toList.take (m.off + 0 + len * e0 + 0) ++ N ++ C.toList.drop (m.off + 0 + len * e0 + 0 + N.length)).toArray) hR hnone b m ⟨m.blk, m.off + 0, m.lim - 0, e0⟩ (.cells e0 (Nat.mul (Nat.add len n) e0) (storeN news c (Nat.mul len e0))) (by rw [hb]; simp) hm rfl (by simp)
                      (fun k hk => setRow_other w m.blk k _ hk) rfl rfl rfl
                      ⟨_, e1, setRow_heap w m.blk C _ e1 _ q1, by show (len + n) * e0 ≤ m.lim - 0; omega, by simp; omega, rfl, fun i vv hv => by
                        obtain ⟨hi, hv⟩ := hget i vv hv
                        refine ⟨hi, ?_⟩
                        simp only [List.getElem?_toArray, Nat.add_zero]
                        rcases hv with ⟨c1, u, u1, u2⟩ | ⟨c1, u, u1, u2⟩
                        · refine ⟨u, ?_, u2.mono (Beta.le_put hnone _)⟩
                          rw [List.append_assoc, List.getElem?_append_left (by simp; omega), List.getElem?_take_of_lt (by omega)]
                          simpa using u1
                        · refine ⟨u, ?_, u2.mono (Beta.le_put hnone _)⟩
                          rw [List.append_assoc, List.getElem?_append_right (by simp; omega), List.getElem?_append_left (by simp; omega)]
                          simp only [List.length_take, Array.length_toList, Nat.min_eq_left (show m.off + len * e0 ≤ C.size by omega)]
                          rw [show m.off + i - (m.off + len * e0) = i - len * e0 by omega]
                          exact u1⟩
                      _ (fun k => by rw [PT.get_set, PT.get_set])
                    refine ⟨_, _, _, hrun, ?_, r1, r2⟩
                    have := VR.slc (β := β.put S.next ⟨m.blk, m.off + 0, m.lim - 0, e0⟩) S.next 0 (Nat.add len n) none _ (Beta.put_self _ _ _)
                    simp only [Option.getD_none, Nat.sub_zero, Nat.add_zero] at this
                    simp only [Nat.sub_zero, Nat.add_zero]
                    rw [q4]
                    exact this
                  · obtain ⟨d1, d2⟩ := drop_block hR b (by rw [hm]; simp)
                    have hOl : ((C.toList.drop m.off).take (len * e0)).length = len * e0 := by simp; omega
                    have hO : ∀ j, j < len * e0 → ((C.toList.drop m.off).take (len * e0))[j]? = C[m.off + j]? := by
                      intro j hj
                      rw [List.getElem?_take_of_lt hj, List.getElem?_drop, Array.getElem?_toList]
                    exact freshC ⟨S.next, PT.set none S.heap b⟩ (some ⟨m.blk, m.off + 0, none⟩) len ((m.lim - 0) / m.sz) _ ((C.toList.drop m.off).take (len * e0)) rfl d1 d2 hOl
                      (fun i vv hv => by
                        obtain ⟨hi, hv⟩ := hget i vv hv
                        rcases hv with ⟨c1, u, u1, u2⟩ | ⟨c1, u, u1, u2⟩
                        · exact ⟨u, by rw [List.getElem?_append_left (by omega), hO i c1]; exact u1, u2⟩
                        · exact ⟨u, by rw [List.getElem?_append_right (by omega), hOl]; exact u1, u2⟩)
                      (fun w0 hw => run_firstCells_some w0 e0 len _ len _ _ hOl (fun j u hj => by
                        have hjl : j < len * e0 := by
                          have := (List.getElem?_eq_some_iff.1 hj).1
                          omega
                        rw [hO j hjl] at hj
                        rw [add_none]
                        simp only [World.cell?, hw, q1, Option.isSome_none, Bool.false_eq_true, if_false, Nat.add_zero]
                        exact hj)) (by omega) h0 (by omega) h
                · cases h
              split at h
              · rename_i old hold hin
                have hin' := Nat.le_of_ble_eq_true hin
                simp only [Nat.add_eq, Nat.mul_eq] at hin'
                obtain ⟨O, o1', o2, o3⟩ := hR.cellsAt hb hm hold
                have o1 : O.length = len * e0 := o1'
                have hin2 : off + len * e0 ≤ size := hin'
                have hnf : ¬ (off + (len + n) * e0 ≤ size) := fun hh => by
                  exact absurd (Nat.ble_eq_true_of_le hh) (by rw [show off + (len + n) * e0 = Nat.add off (Nat.mul (Nat.add len n) e0) from rfl, hnfit]; simp)
                have h0 : 0 < n := by
                  rcases Nat.eq_zero_or_pos n with h0 | h0
                  · subst h0; exact absurd hin2 hnf
                  · exact h0
                by_cases hroom : len + n ≤ (m.lim - off) / m.sz
                · have hroom' : (len + n) * e0 ≤ m.lim - off := by
                    rw [q4, Nat.le_div_iff_mul_le hpos] at hroom
                    exact hroom
                  obtain ⟨rfl, rfl⟩ := newB_inv h
                  have hnone : β S.next = none := hf S.next (Nat.le_refl _) (Nat.lt_succ_self _)
                  have hNl : N.length = n * e0 := hA.len
                  rw [Nat.add_mul] at hroom'
                  have hsrun := run_storeCells_at P m.blk (m.off + off + len * e0) e1 N 0 C w q1 (by omega) (oneAll hN g2)
                  have hst : (storeCells ((⟨m.blk, m.off + off, none⟩ : Addr).add (len * e0)) N).run P w = .ok () (w.setRow m.blk (C.toList.take (m.off + off + len * e0 + 0) ++ N ++ C.toList.drop (m.off + off + len * e0 + 0 + N.length)).toArray) := by
                    rw [add_none]
                    exact hsrun
                  have hrun := hA.room ⟨m.blk, m.off + off, none⟩ len ((m.lim - off) / m.sz) _ hroom hst
                  have hol := o2.size
                  have hnl := hN.size
                  simp only [List.size_toArray] at hol hnl
                  obtain ⟨r1, r2⟩ := move_step (w1 := w.setRow m.blk (C.toList.take (m.off + off + len * e0 + 0) ++ N ++ C.toList.drop (m.off + off + len * e0 + 0 + N.length)).toArray) hR hnone b m ⟨m.blk, m.off + off, m.lim - off, e0⟩ (.cells e0 (Nat.mul (Nat.add len n) e0) (ofList (old ++ news))) (by rw [hb]; simp) hm rfl (by simp)
                    (fun k hk => setRow_other w m.blk k _ hk) rfl rfl rfl
                    ⟨_, e1, setRow_heap w m.blk C _ e1 _ q1, by show (len + n) * e0 ≤ m.lim - off; rw [Nat.add_mul]; omega, by simp; omega, rfl, fun i vv hv => by
                      rw [get_ofList] at hv
                      have hil := (List.getElem?_eq_some_iff.1 hv).1
                      rw [List.length_append] at hil
                      refine ⟨by show i < (len + n) * e0; rw [Nat.add_mul]; omega, ?_⟩
                      simp only [List.getElem?_toArray, Nat.add_zero]
                      by_cases c1 : i < old.length
                      · rw [List.getElem?_append_left c1] at hv
                        obtain ⟨u, u1, u2⟩ := o2.get hv
                        refine ⟨u, ?_, u2.mono (Beta.le_put hnone _)⟩
                        have := o3 i u (by simpa using u1)
                        rw [add_none] at this
                        simp only [World.cell?, q1, Option.isSome_none, Bool.false_eq_true, if_false] at this
                        rw [List.append_assoc, List.getElem?_append_left (by simp; omega), List.getElem?_take_of_lt (by omega)]
                        simpa using this
                      · rw [List.getElem?_append_right (by omega)] at hv
                        obtain ⟨u, u1, u2⟩ := hN.get hv
                        refine ⟨u, ?_, u2.mono (Beta.le_put hnone _)⟩
                        rw [List.append_assoc, List.getElem?_append_right (by simp; omega), List.getElem?_append_left (by simp; omega)]
                        simp only [List.length_take, Array.length_toList, Nat.min_eq_left (show m.off + off + len * e0 ≤ C.size by omega)]
                        rw [show m.off + off + i - (m.off + off + len * e0) = i - old.length by omega]
                        simpa using u1⟩
                    _ (fun k => by rw [PT.get_set, PT.get_set])
                  refine ⟨_, _, _, hrun, ?_, r1, r2⟩
                  have := VR.slc (β := β.put S.next ⟨m.blk, m.off + off, m.lim - off, e0⟩) S.next 0 (Nat.add len n) none _ (Beta.put_self _ _ _)
                  simp only [Option.getD_none, Nat.sub_zero, Nat.add_zero] at this
                  rw [q4]
                  exact this
                · obtain ⟨d1, d2⟩ := drop_block hR b (by rw [hm]; simp)
                  exact fresh ⟨S.next, PT.set none S.heap b⟩ (some ⟨m.blk, m.off + off, none⟩) len ((m.lim - off) / m.sz) old O rfl d1 d2 o2 o1 (fun w0 hw => run_firstCells_some w0 e0 len _ len _ O o1 (fun j u hj => by
                    have := o3 j u hj
                    rw [← this]
                    exact World.cell?_of_block (by rw [hw]))) (by omega) h0 (by omega) h
              · cases h
          · cases h
      · cases h
    · cases h
  · cases h

theorem args_two {c : Call} {o o' : Operand} {t t' : TypeId} (h1 : c.args.toList = [o, o']) (h2 : c.argTypes.toList = [t, t']) : c.args = #[o, o'] ∧ c.argTypes = #[t, t'] :=
  ⟨by rw [← Array.toArray_toList (xs := c.args), h1], by rw [← Array.toArray_toList (xs := c.argTypes), h2]⟩

theorem sliceCells_sound (hR : Rel B S β w) {esz n : Nat} {x : AV} {u : Value} {news : List AV} (hl : lenOf x = some n) (h : sliceCells S esz n x = some news) (hx : VR β x u) (h1 : allOne news = true) {tx e' : TypeId}
    (hk : P.underlying tx = some (.slice e')) : ∃ N : List Value, LR β news N.toArray ∧ Src P esz tx u n N w := by
  unfold sliceCells at h
  split at h
  · cases hx
    cases hl
    split at h
    · cases h
      exact ⟨[], LR.nil β, Src.ofNil w hk 0⟩
    · cases h
  · cases hx
    rename_i m hm
    cases hl
    split at h
    · rename_i e0 size c hb
      obtain ⟨N, a1, a2, a3⟩ := hR.cellsAt hb hm h
      exact ⟨N, a2, Src.ofSlice w hk _ _ _ N a1 a3 (fun u hu => oneAll a2 h1 u (by simpa using hu))⟩
    · cases h
  · cases h

theorem ok_app (hR : Rel B S β w) (hE : OM β env F ρ om) {esz : Nat} {s x : Opd} (h : aop cl env F S (.app esz s x) = .ok v S') (hf : Free β S.next S'.next) (hx : xmatch P om o.op (.app esz s x) = true) : OpOK P B S β w o ρ v S' := by
  simp only [aop] at h
  simp only [xmatch] at hx
  split at hx
  · rename_i c e
    split at hx
    · rename_i hc
      split at hx
      · rename_i y y' t t' ha ht
        simp only [Bool.and_eq_true] at hx
        obtain ⟨⟨⟨h1, h2⟩, h3⟩, h4⟩ := hx
        obtain ⟨a1, a2⟩ := args_two ha ht
        obtain ⟨el, i, z, hu, hi, hsz, hpos, hby, hz, hzs⟩ := elemOK_spec h3
        split at h4
        · rename_i e' hk
          split at h
          · rename_i sv xv hsv hxv
            split at h
            · rename_i n hn
              split at h
              · rename_i news hnews
                have hone : allOne news = true := by
                  unfold doApp at h
                  split at h
                  · assumption
                  · cases h
                obtain ⟨N, n1, n2⟩ := sliceCells_sound (P := P) hR hn hnews (hE _ _ _ h2 hxv) hone hk
                obtain ⟨β', u, w', r1, r2, r3, r4⟩ := doApp_sound (P := P) hR h hf (hE _ _ _ h1 hsv) (ty := o.type) hpos n1 (Apd.ofSrc hu hi hsz hz hzs hby n2)
                exact ⟨β', u, w', .inl (by simp [execOp, e, resolve, hc, a1, a2, invoke, builtin, r1]), r2, r3, r4⟩
              · cases h
            · cases h
          · cases h
        · cases h4
      · cases hx
    · cases hx
  · cases hx

theorem bytesOf_eq : ∀ (l : List UInt8), bytesOf l.length (pack l) = l.map fun b => AV.int .u8 ((b.toNat : Nat) : Int) := by
  intro l
  induction l with
  | nil => rfl
  | cons b l ih =>
    have hb := b.toNat_lt
    show AV.int .u8 (.ofNat (Nat.mod (pack (b :: l)) 256)) :: bytesOf l.length (Nat.div (pack (b :: l)) 256) = _
    have e1 : Nat.mod (pack (b :: l)) 256 = b.toNat := by show (b.toNat + 256 * pack l) % 256 = _; omega
    have e2 : Nat.div (pack (b :: l)) 256 = pack l := by show (b.toNat + 256 * pack l) / 256 = _; omega
    rw [e1, e2, ih]
    rfl

theorem ok_appS (hR : Rel B S β w) (hE : OM β env F ρ om) {s x : Opd} (h : aop cl env F S (.appS s x) = .ok v S') (hf : Free β S.next S'.next) (hx : xmatch P om o.op (.appS s x) = true) : OpOK P B S β w o ρ v S' := by
  simp only [aop] at h
  simp only [xmatch] at hx
  split at hx
  · rename_i c e
    split at hx
    · rename_i hc
      split at hx
      · rename_i y y' t t' ha ht
        simp only [Bool.and_eq_true] at hx
        obtain ⟨⟨⟨h1, h2⟩, h3⟩, h4⟩ := hx
        obtain ⟨a1, a2⟩ := args_two ha ht
        obtain ⟨el, i, z, hu, hi, hsz, hpos, hby, hz, hzs⟩ := elemOK_spec h3
        have hk := isStr_spec h4
        split at h
        · rename_i sv l0 n0 hsv hxv
          obtain ⟨l, hul, rfl, rfl⟩ := (hE _ _ _ h2 hxv).str_inv
          rw [bytesOf_eq] at h
          have hsrc := Src.ofString (P := P) (w := w) hk ⟨l.toArray⟩
          have hs : (ByteArray.mk l.toArray).size = l.length := by simp [ByteArray.size]
          rw [hs] at hsrc
          have hN : LR β (l.map fun b => AV.int .u8 ((b.toNat : Nat) : Int)) (byteCells ⟨l.toArray⟩).toArray := by
            refine LR.of_get (by simp [byteCells]) (fun j v u hv hu => ?_)
            simp [byteCells] at hv hu
            obtain ⟨b, b1, rfl⟩ := hv
            obtain ⟨b', b2, rfl⟩ := hu
            rw [b1] at b2
            cases b2
            exact .int _ _
          obtain ⟨β', u, w', r1, r2, r3, r4⟩ := doApp_sound (P := P) hR h hf (hE _ _ _ h1 hsv) (ty := o.type) (by omega) hN (Apd.ofSrc hu hi hsz hz hzs hby hsrc)
          exact ⟨β', u, w', .inl (by simp [execOp, e, resolve, hc, a1, a2, invoke, builtin, hul, r1]), r2, r3, r4⟩
        · cases h
      · cases hx
    · cases hx
  · cases hx

theorem ok_appZ (hR : Rel B S β w) (hE : OM β env F ρ om) {esz : Nat} {z : List AV} {s n : Opd} (h : aop cl env F S (.appZ esz z s n) = .ok v S') (hf : Free β S.next S'.next) (hx : xmatch P om o.op (.appZ esz z s n) = true) : OpOK P B S β w o ρ v S' := by
  simp only [aop] at h
  simp only [xmatch] at hx
  split at hx
  · rename_i c e
    split at hx
    · rename_i hc
      split at hx
      · rename_i y y' t t' ha ht
        simp only [Bool.and_eq_true] at hx
        obtain ⟨⟨⟨⟨h1, h2⟩, h3⟩, h4⟩, h5⟩ := hx
        obtain ⟨a1, a2⟩ := args_two ha ht
        obtain ⟨el, i, zv, hu, hi, hsz, hpos, hby, hz, hzs⟩ := elemOK_spec h3
        have he : elemOf? P t = some el := by simp [elemOf?, hu]
        rw [he] at h5
        simp only at h5
        obtain ⟨i', zv', hi', hz', hl⟩ := zeroIs_spec h5
        rw [hi] at hi'
        cases hi'
        rw [hz] at hz'
        cases hz'
        unfold isInt at h4
        split at h4
        · rename_i kn hk
          split at h
          · rename_i sv k hsv hxv
            have hx' := hE _ _ _ h2 hxv
            generalize hu2 : ρ y' = u2 at hx'
            cases hx'
            have hk1 : k ≤ 1000000 := by
              unfold doApp at h
              split at h
              · rename_i g1 _
                exact Nat.le_of_ble_eq_true g1
              · cases h
            have hN : LR β (repl z k) ((Builtin.zeroCells zv.cells k).toList.toArray) := by
              rw [Array.toArray_toList]
              have := LR.repl (hl β) k
              simpa [Builtin.zeroCells] using this
            obtain ⟨β', u, w', r1, r2, r3, r4⟩ := doApp_sound (P := P) hR h hf (hE _ _ _ h1 hsv) (ty := o.type) hpos hN (Apd.ofZeros (k := .i64) hu hk hi hsz hz hzs hpos hby hk1)
            exact ⟨β', u, w', .inl (by simp [execOp, e, resolve, hc, a1, a2, invoke, builtin, hu2, r1]), r2, r3, r4⟩
          · cases h
        · cases h4
      · cases hx
    · cases hx
  · cases hx

theorem args_two' {c : Call} {x y : Opd} (h : osmatch om [x, y] c.args.toList = true) : ∃ p q, c.args = #[p, q] ∧ om x p = true ∧ om y q = true := by
  generalize hl : c.args.toList = l at h
  cases l with
  | nil => simp [osmatch] at h
  | cons p l => cases l with
    | nil => simp [osmatch] at h
    | cons q l => cases l with
      | nil =>
        simp only [osmatch, Bool.and_eq_true, Bool.and_true] at h
        exact ⟨p, q, by rw [← Array.toArray_toList (xs := c.args), hl], h.1, h.2⟩
      | cons r l => simp [osmatch] at h

theorem ok_max (hR : Rel B S β w) (hE : OM β env F ρ om) {x y : Opd} (h : aop cl env F S (.max x y) = .ok v S') (hx : xmatch P om o.op (.max x y) = true) : OpOK P B S β w o ρ v S' := by
  simp only [aop] at h
  simp only [xmatch] at hx
  split at hx
  · rename_i c e
    split at hx
    · rename_i hc
      obtain ⟨p, q, a1, h1, h2⟩ := args_two' hx
      split at h
      · rename_i k a k' b ha hb
        cases h
        have ha' := hE _ _ _ h1 ha
        have hb' := hE _ _ _ h2 hb
        generalize hu : ρ p = u at ha'
        generalize hu' : ρ q = u' at hb'
        cases ha'
        cases hb'
        refine .pure hR (.int k (if b > a then b else a)) ?_ ?_
        · simp [execOp, e, resolve, hc, a1, hu, hu', invoke, builtin, Builtin.max_, Builtin.max2]
        · rw [ltI_eq]
          by_cases hab : a < b <;> simp [hab] <;> exact .int _ _
      · cases h
    · cases hx
  · cases hx

theorem ok_min (hR : Rel B S β w) (hE : OM β env F ρ om) {x y : Opd} (h : aop cl env F S (.min x y) = .ok v S') (hx : xmatch P om o.op (.min x y) = true) : OpOK P B S β w o ρ v S' := by
  simp only [aop] at h
  simp only [xmatch] at hx
  split at hx
  · rename_i c e
    split at hx
    · rename_i hc
      obtain ⟨p, q, a1, h1, h2⟩ := args_two' hx
      split at h
      · rename_i k a k' b ha hb
        cases h
        have ha' := hE _ _ _ h1 ha
        have hb' := hE _ _ _ h2 hb
        generalize hu : ρ p = u at ha'
        generalize hu' : ρ q = u' at hb'
        cases ha'
        cases hb'
        refine .pure hR (.int k (if b < a then b else a)) ?_ ?_
        · simp [execOp, e, resolve, hc, a1, hu, hu', invoke, builtin, Builtin.min_, Builtin.min2]
        · rw [ltI_eq]
          by_cases hab : b < a <;> simp [hab] <;> exact .int _ _
      · cases h
    · cases hx
  · cases hx

theorem ok_cpy (hR : Rel B S β w) (hE : OM β env F ρ om) {esz : Nat} {d s : Opd} (h : aop cl env F S (.cpy esz d s) = .ok v S') (hx : xmatch P om o.op (.cpy esz d s) = true) : OpOK P B S β w o ρ v S' := by
  simp only [aop] at h
  simp only [xmatch] at hx
  split at hx
  · rename_i c e
    split at hx
    · rename_i hc
      split at hx
      · rename_i y y' t ts ha ht
        simp only [Bool.and_eq_true] at hx
        obtain ⟨⟨h1, h2⟩, h3⟩ := hx
        have a1 : c.args = #[y, y'] := by rw [← Array.toArray_toList (xs := c.args), ha]
        have a2 : c.argTypes[0]? = some t := by rw [← Array.getElem?_toList, ht]; rfl
        obtain ⟨el, i, z, hu, hi, rfl, hpos, hby, hz, hzs⟩ := elemOK_spec h3
        split at h
        · rename_i dv sv hdv hsv
          split at h
          · rename_i dn sn hdn hsn
            split at h
            · rename_i l hl
              have hd' := hE _ _ _ h1 hdv
              have hs' := hE _ _ _ h2 hsv
              generalize hu1 : ρ y = u1 at hd'
              generalize hu2 : ρ y' = u2 at hs'
              -- what is read
              have hread : ∃ L : List Value, LR β l L.toArray ∧ (Builtin.lenOf u2).run P w = .ok sn w ∧ (Builtin.firstCells i.size (Nat.min sn dn) u2).run P w = .ok L.toArray w := by
                unfold sliceCells at hl
                split at hl
                · cases hs'
                  cases hsn
                  split at hl
                  · rename_i hz0
                    cases hl
                    exact ⟨[], LR.nil β, rfl, run_firstCells_none w _ _ _ _⟩
                  · cases hl
                · cases hs'
                  rename_i m hm
                  cases hsn
                  split at hl
                  · rename_i e0 size c0 hb
                    obtain ⟨N, b1, b2, b3⟩ := hR.cellsAt hb hm hl
                    exact ⟨N, b2, rfl, run_firstCells_some w i.size _ _ _ _ N b1 b3⟩
                  · cases hl
                · cases hl
              obtain ⟨L, l1, l2, l3⟩ := hread
              split at h
              · cases h
                cases hd'
                cases hdn
                have e0 : Nat.min sn 0 = 0 := Nat.min_zero sn
                rw [e0] at l3 ⊢
                refine .pure hR (.int .i64 (0 : Nat)) ?_ (.int _ _)
                simp [execOp, e, resolve, hc, a1, hu1, hu2, invoke, builtin, Builtin.copy_, a2, run_underlying hu, l2, sizeOf, typeInfo, hi, l3, goInt]
              · rename_i b off len cap
                split at h
                · rename_i e0 size c0 hb
                  split at h
                  · rename_i g1 g2
                    rw [PT.force_eq] at h
                    cases h
                    have g1' := Nat.le_of_ble_eq_true g1
                    cases hd'
                    rename_i m hm
                    cases hdn
                    obtain ⟨w', s1, s2, s3⟩ := store_cells (P := P) hR hb hm l1 g2 (off := off) g1' _ (fun k => PT.get_set _ _ _ _)
                    refine ⟨β, .int .i64 (Nat.min sn dn : Nat), w', .inl ?_, .int _ _, s2, s3⟩
                    simp [execOp, e, resolve, hc, a1, hu1, hu2, invoke, builtin, Builtin.copy_, a2, run_underlying hu, l2, sizeOf, typeInfo, hi, l3, s1, goInt]
                  · cases h
                · cases h
              · cases h
            · cases h
          · cases h
        · cases h
      · cases hx
    · cases hx
  · cases hx

theorem feq_sound {tag : Nat} {a b : AV} {u u' : Value} {r : Bool} {t : TypeId} (h : feq tag a b = some r) (ht : tagOK P t tag = true) (ha : VR β a u) (hb : VR β b u') (d : Nat) (w : World) :
    (Op.equalIn (d + 1) t u u').run P w = .ok r w := by
  unfold feq at h
  split at h
  · split at h
    · rename_i k x k' y
      split at h
      · rename_i hk
        cases h
        cases kEq_eq hk
        cases ha
        cases hb
        simp only [tagOK, isInt] at ht
        split at ht
        · rename_i kk hu
          rw [run_equalIn_int w d t k kk x y hu, eqI_eq]
          rfl
        · cases ht
      · cases h
    · cases h
  · split at h
    · rename_i x y
      cases h
      cases ha
      cases hb
      simp only [tagOK] at ht
      split at ht
      · rename_i hu
        rw [run_equalIn_bool' w d t x y hu]
        cases x <;> cases y <;> rfl
      · cases ht
    · cases h
  · rename_i h0 h1
    split at h
    · cases h
      obtain ⟨l, rfl, rfl, rfl⟩ := ha.str_inv
      obtain ⟨l', rfl, rfl, rfl⟩ := hb.str_inv
      have hs : isStr P t = true := by
        unfold tagOK at ht
        split at ht
        · exact absurd rfl (h0)
        · exact absurd rfl (h1)
        · exact ht
      rw [run_equalIn_string w d t _ _ (isStr_spec hs), str_beq]
      simp
    · cases h

theorem eqs_sound {l r : List AV} {x y : Array Value} (hl : LR β l x) (hr : LR β r y) (d : Nat) (w : World) : ∀ (fields : List Field) (fs : List (Nat × Nat)) (t : Bool), fieldsOK P fs fields = true → eqsA l r fs = some t →
    (Op.eqFields (d + 1) x y fields).run P w = .ok t w := by
  intro fields
  induction fields with
  | nil =>
    intro fs t h1 h2
    cases fs with
    | nil => cases h2; rfl
    | cons p fs => simp [fieldsOK] at h1
  | cons f fields ih =>
    intro fs t h1 h2
    by_cases hn : f.name = "_"
    · have h1' : fieldsOK P fs fields = true := by
        cases fs <;> simpa [fieldsOK, hn] using h1
      simp [Op.eqFields, hn, ih fs t h1' h2]
    · cases fs with
      | nil => simp [fieldsOK, hn] at h1
      | cons p fs =>
        obtain ⟨off, tag⟩ := p
        simp only [fieldsOK, hn, if_false, Bool.and_eq_true, beq_iff_eq] at h1
        obtain ⟨⟨rfl, h3⟩, h4⟩ := h1
        have h2' : eqsS l r (f.offset, tag) (eqsA l r fs) = some t := h2
        unfold eqsS at h2'
        simp only [nthO_eq] at h2'
        split at h2'
        · rename_i a b ha hb
          obtain ⟨u, u1, u2⟩ := hl.get ha
          obtain ⟨u', u3, u4⟩ := hr.get hb
          have hagg : ∀ w, (isAgg f.type).run P w = .ok false w := by
            intro w
            unfold tagOK at h3
            split at h3
            · unfold isInt at h3
              split at h3
              · rename_i hu; simp [isAgg, run_underlying hu]
              · cases h3
            · split at h3
              · rename_i hu; simp [isAgg, run_underlying hu]
              · cases h3
            · simp [isAgg, run_underlying (isStr_spec h3)]
          have hp1 : (part f.type x f.offset).run P w = .ok u w := by simp [part, hagg, u1]
          have hp2 : (part f.type y f.offset).run P w = .ok u' w := by simp [part, hagg, u3]
          split at h2'
          · rename_i hq
            have he := feq_sound (P := P) hq h3 u2 u4 d w
            simp [Op.eqFields, hn, hp1, hp2, he, ih fs t h4 h2']
          · rename_i hq
            cases h2'
            have he := feq_sound (P := P) hq h3 u2 u4 d w
            simp [Op.eqFields, hn, hp1, hp2, he]
          · cases h2'
        · cases h2'

theorem ok_eqs (hR : Rel B S β w) (hE : OM β env F ρ om) {neg : Bool} {fs : List (Nat × Nat)} {x y : Opd} (h : aop cl env F S (.eqs neg fs x y) = .ok v S') (hx : xmatch P om o.op (.eqs neg fs x y) = true) : OpOK P B S β w o ρ v S' := by
  simp only [aop] at h
  simp only [xmatch] at hx
  split at hx
  · rename_i op' t x' y' yt e
    simp only [Bool.and_eq_true, beq_iff_eq] at hx
    obtain ⟨⟨⟨h0, h1⟩, h2⟩, h3⟩ := hx
    split at h3
    · rename_i fields hu
      simp only [Bool.and_eq_true, Bool.not_eq_true'] at h3
      obtain ⟨⟨h4, h5⟩, h6⟩ := h3
      split at h
      · rename_i l r ha hb
        split at h
        · rename_i tt ht
          cases h
          have ha' := hE _ _ _ h1 ha
          have hb' := hE _ _ _ h2 hb
          generalize hu1 : ρ x' = u1 at ha'
          generalize hu2 : ρ y' = u2 at hb'
          cases ha'
          rename_i xs hxs hx1
          cases hb'
          rename_i ys hys hy1
          have hfo : P.fieldsOf t = fields := by simp [Program.fieldsOf, hu]
          have hrun : (Op.equalIn 10000 t (.agg xs) (.agg ys)).run P w = .ok tt w := by
            have := run_equalIn_struct (P := P) w 9999 t xs ys (by rw [hfo]; exact hu) h4
            rw [this, hfo]
            exact eqs_sound (P := P) ⟨hxs, hx1⟩ ⟨hys, hy1⟩ 9998 w fields.toList fs tt h6 ht
          have hg := run_eqGuard_agg (P := P) w op' t x' y' xs ys h5
          cases neg
          · simp only [Bool.false_eq_true, if_false] at h0
            subst h0
            refine .pure hR (.bool tt) ?_ (.bool _)
            simp only [execOp, e, hu1, hu2, Sem.run_bind, hg, Result.andThen_ok, run_eql_struct, hrun]
            rfl
          · simp only [if_true] at h0
            subst h0
            refine .pure hR (.bool (!tt)) ?_ (.bool _)
            simp only [execOp, e, hu1, hu2, Sem.run_bind, hg, Result.andThen_ok, run_neq_struct, hrun]
            rfl
        · cases h
      · cases h
    · cases h3
  · cases hx

theorem undef_rel' (β : Beta) : VR β (.tup []) (.tuple #[]) := .tup [] #[] rfl (fun i a => by simp at a)

theorem ok_capL (hR : Rel B S β w) (hE : OM β env F ρ om) {x : Opd} (h : aop cl env F S (.capL x) = .ok v S') (hx : xmatch P om o.op (.capL x) = true) : OpOK P B S β w o ρ v S' := by
  simp only [aop] at h
  simp only [xmatch] at hx
  split at hx
  · rename_i c e
    split at hx
    · rename_i hc
      obtain ⟨y, t, h1, h2, h3, h4⟩ := args_one hx
      unfold lenKind at h4
      split at h4 <;> first | cases h4 | skip
      · simp at *
      · rename_i el ht _
        split at h
        · rename_i ha
          cases h
          have ha' := hE _ _ _ h3 ha
          generalize hu : ρ y = u at ha'
          cases ha'
          refine .pure hR (.int .i64 (0 : Nat)) ?_ (.int _ _)
          simp [execOp, e, resolve, hc, h1, hu, invoke, builtin, Builtin.cap_, h2, run_underlying ht, goInt]
        · rename_i b off len k ha
          cases h
          have ha' := hE _ _ _ h3 ha
          generalize hu : ρ y = u at ha'
          cases ha'
          refine .pure hR (.int .i64 (k : Nat)) ?_ (.int _ _)
          simp [execOp, e, resolve, hc, h1, hu, invoke, builtin, Builtin.cap_, h2, run_underlying ht, goInt]
        · cases h
    · cases hx
  · cases hx

theorem ok_iaddrA (hR : Rel B S β w) (hE : OM β env F ρ om) {len esz : Nat} {x i : Opd} (h : aop cl env F S (.iaddrA len esz x i) = .ok v S') (hx : xmatch P om o.op (.iaddrA len esz x i) = true) : OpOK P B S β w o ρ v S' := by
  simp only [aop] at h
  simp only [xmatch] at hx
  split at hx
  · rename_i t y y' e
    simp only [Bool.and_eq_true] at hx
    obtain ⟨⟨h1, h2⟩, h3⟩ := hx
    split at h3
    · rename_i len' el ht
      simp only [Bool.and_eq_true, beq_iff_eq] at h3
      obtain ⟨rfl, h3⟩ := h3
      split at h3
      · rename_i inf hi
        simp only [beq_iff_eq] at h3
        subst h3
        split at h
        · rename_i b off k n ha hb
          split at h
          · rename_i hle
            cases h
            have hle' := Nat.le_of_ble_eq_true hle
            have ha' := hE _ _ _ h1 ha
            have hb' := hE _ _ _ h2 hb
            generalize hu : ρ y = u at ha'
            generalize hu' : ρ y' = u' at hb'
            cases ha'
            rename_i m hm
            cases hb'
            refine .pure hR (.pointer (some ⟨m.blk, m.off + (off + n * inf.size), none⟩)) ?_ (.ptr _ _ m hm)
            simp [execOp, e, hu, hu', Instr.indexAt, asIntOf, run_underlying ht, Instr.sureAddr, sizeOf, typeInfo, hi, add_none, Nat.add_assoc]
            intro hc
            omega
          · cases h
        · cases h
      · cases h3
    · cases h3
  · cases hx

theorem ok_clr (hR : Rel B S β w) (hE : OM β env F ρ om) {esz : Nat} {z : List AV} {x : Opd} (h : aop cl env F S (.clr esz z x) = .ok v S') (hx : xmatch P om o.op (.clr esz z x) = true) : OpOK P B S β w o ρ v S' := by
  simp only [aop] at h
  simp only [xmatch] at hx
  split at hx
  · rename_i c e
    split at hx
    · rename_i hc
      split at hx
      · rename_i y t ha ht
        simp only [Bool.and_eq_true] at hx
        obtain ⟨⟨h1, h2⟩, h3⟩ := hx
        have a1 : c.args = #[y] := by rw [← Array.toArray_toList (xs := c.args), ha]
        obtain ⟨el, i, zv, hu, hi, hsz, hpos, hby, hz, hzs⟩ := elemOK_spec h2
        have he : elemOf? P t = some el := by simp [elemOf?, hu]
        rw [he] at h3
        simp only at h3
        obtain ⟨i', zv', hi', hz', hl⟩ := zeroIs_spec h3
        rw [hi] at hi'
        cases hi'
        rw [hz] at hz'
        cases hz'
        split at h
        · rename_i hv
          cases h
          have hv' := hE _ _ _ h1 hv
          generalize hu1 : ρ y = u at hv'
          cases hv'
          refine .pure hR (.tuple #[]) ?_ (undef_rel' β)
          simp [execOp, e, resolve, hc, a1, hu1, invoke, builtin, Builtin.clear_, ht, run_underlying hu]
        · rename_i b off len cap hv
          have hv' := hE _ _ _ h1 hv
          generalize hu1 : ρ y = u at hv'
          cases hv'
          rename_i m hm
          split at h
          · cases h
            refine .pure hR (.tuple #[]) ?_ (undef_rel' β)
            simp [execOp, e, resolve, hc, a1, hu1, invoke, builtin, Builtin.clear_, ht, run_underlying hu]
          · rename_i hlen
            split at h
            · rename_i e0 size c0 hb
              split at h
              · rename_i g1 g2 g3
                rw [PT.force_eq] at h
                cases h
                have g1' := Nat.le_of_ble_eq_true g1
                have hL : LR β (repl z len) (Builtin.zeroCells zv.cells len) := by
                  have := LR.repl (hl β) len
                  simpa [Builtin.zeroCells] using this
                obtain ⟨w', s1, s2, s3⟩ := store_cells (P := P) hR hb hm hL g2 (off := off) g1' _ (fun k => PT.get_set _ _ _ _)
                refine ⟨β, .tuple #[], w', .inl ?_, undef_rel' β, s2, s3⟩
                cases len with
                | zero => exact absurd rfl hlen
                | succ len =>
                  simp [execOp, e, resolve, hc, a1, hu1, invoke, builtin, Builtin.clear_, ht, run_underlying hu, zeroValue, typeInfo, hi, hz, s1]
              · cases h
            · cases h
        · cases h
      · cases hx
    · cases hx
  · cases hx

theorem ok_slcA (hR : Rel B S β w) (hE : OM β env F ρ om) {n esz : Nat} {x : Opd} {lo hi mx : Option Opd} (h : aop cl env F S (.slcA n esz x lo hi mx) = .ok v S') (hx : xmatch P om o.op (.slcA n esz x lo hi mx) = true) : OpOK P B S β w o ρ v S' := by
  simp only [aop] at h
  simp only [xmatch] at hx
  split at hx
  · rename_i t y yl yh ym e
    simp only [Bool.and_eq_true] at hx
    obtain ⟨⟨⟨⟨⟨h1, h2⟩, h3⟩, h4⟩, h5⟩, h6⟩ := hx
    split at h6
    · rename_i n' el hu
      simp only [Bool.and_eq_true, beq_iff_eq] at h6
      obtain ⟨rfl, h6⟩ := h6
      split at h6
      · rename_i i hinf
        simp only [beq_iff_eq] at h6
        subst h6
        split at h
        · rename_i b off lo' hi' mx' ha hl hh hmx
          obtain ⟨hv, rfl⟩ := okS_inv h
          have ha' := hE _ _ _ h1 ha
          have hl' := optNat_sound hE hl h2
          have hh' := optNat_sound hE hh h3
          have hm' := optNat_sound hE hmx h4
          have h5' : mx'.isNone ∨ hi'.isSome := by
            cases mx with
            | none => cases hmx; exact .inl rfl
            | some q =>
              cases hi with
              | none => simp at h5
              | some q' =>
                right
                simp only [optNat] at hh
                split at hh
                · split at hh
                  · cases hh; rfl
                  · cases hh
                · cases hh
          generalize hum : ρ y = um at ha'
          cases ha'
          rename_i m hm
          simp only [doSlcL, reach] at hv
          split at hv
          · split at hv
            · rename_i g1 g2 g3
              cases hv
              have g1' := Nat.le_of_ble_eq_true g1
              have g2' := Nat.le_of_ble_eq_true g2
              have g3' := Nat.le_of_ble_eq_true g3
              have hb := run_sliceBounds (P := P) (isS := false) (len := n) (cap := n) hl' hh' hm' (Nat.le_refl _) g1' g2' h5' w
              simp only [Option.getD_none] at hb
              have hne : ¬ (n = lo'.getD 0) := by omega
              refine .pure hR (.slice (some ⟨m.blk, m.off + (off + lo'.getD 0 * i.size), none⟩) (hi'.getD n - lo'.getD 0) (n - lo'.getD 0)) ?_ (VR.slc b _ _ (some (n - lo'.getD 0)) m hm)
              simp [execOp, e, hum, Instr.sliceAt, run_underlying hu, Instr.sureAddr, hb, sizeOf, typeInfo, hinf, hne, add_none, Nat.add_assoc]
            · rename_i g1 g2 g3
              have g1' := Nat.le_of_ble_eq_true g1
              have g2' := Nat.le_of_ble_eq_true g2
              split at hv
              · rename_i g4
                cases hv
                have g4' : n = lo'.getD 0 := Nat.eq_of_beq_eq_true g4
                have hb := run_sliceBounds (P := P) (isS := false) (len := n) (cap := n) hl' hh' hm' (Nat.le_refl _) g1' g2' h5' w
                simp only [Option.getD_none] at hb
                refine .pure hR (.slice (some ⟨m.blk, m.off + off, none⟩) (hi'.getD n - lo'.getD 0) 0) ?_ (VR.slc b off _ (some 0) m hm)
                simp [execOp, e, hum, Instr.sliceAt, run_underlying hu, Instr.sureAddr, hb, sizeOf, typeInfo, hinf, ← g4']
              · cases hv
            · cases hv
          · rename_i mm
            split at hv
            · rename_i g1 g2 g3
              have g1' := Nat.le_of_ble_eq_true g1
              have g2' := Nat.le_of_ble_eq_true g2
              have g3' := Nat.le_of_ble_eq_true g3
              have hb := run_sliceBounds (P := P) (isS := false) (len := n) (cap := n) hl' hh' hm' g1' g2' g3' h5' w
              simp only [Option.getD_some] at hb
              split at hv
              · rename_i g4
                cases hv
                have g4' : mm = lo'.getD 0 := Nat.eq_of_beq_eq_true g4
                refine .pure hR (.slice (some ⟨m.blk, m.off + off, none⟩) (hi'.getD n - lo'.getD 0) 0) ?_ (VR.slc b off _ (some 0) m hm)
                simp [execOp, e, hum, Instr.sliceAt, run_underlying hu, Instr.sureAddr, hb, sizeOf, typeInfo, hinf, ← g4']
              · rename_i g4
                cases hv
                have g4' : mm ≠ lo'.getD 0 := fun h => by rw [h] at g4; simp at g4
                refine .pure hR (.slice (some ⟨m.blk, m.off + (off + lo'.getD 0 * i.size), none⟩) (hi'.getD n - lo'.getD 0) (mm - lo'.getD 0)) ?_ (VR.slc b _ _ (some (mm - lo'.getD 0)) m hm)
                simp [execOp, e, hum, Instr.sliceAt, run_underlying hu, Instr.sureAddr, hb, sizeOf, typeInfo, hinf, g4', add_none, Nat.add_assoc]
            · cases hv
        · cases h
      · cases h6
    · cases h6
  · cases hx

theorem ok_bnil (hR : Rel B S β w) {esz : Nat} (h : aop cl env F S (.bnil esz) = .ok v S') (hf : Free β S.next S'.next) (hx : xmatch P om o.op (.bnil esz) = true) : OpOK P B S β w o ρ v S' := by
  simp only [aop, doAlloc] at h
  simp only [xmatch] at hx
  split at hx
  · rename_i t len parts e
    simp only [Bool.and_eq_true, beq_iff_eq] at hx
    obtain ⟨⟨rfl, h2⟩, h3⟩ := hx
    obtain ⟨el, i, zv, hu, hi, rfl, hpos, hby, hz, hzs⟩ := elemOK_spec h3
    obtain ⟨rfl, rfl⟩ := newB_inv h
    have hp : parts = #[] := by simpa using h2
    subst hp
    obtain ⟨r1, r2⟩ := row_new hR hf (LR.nil β) el i.size
    refine ⟨_, .slice (some ⟨w.heap.size, 0, none⟩) 0 0, w.alloc (.cells #[] el), .inl ?_, .slc _ 0 0 (some 0) _ (Beta.put_self _ _ _), r1, r2⟩
    simp [execOp, e, Instr.buildSlice, run_underlying hu, sizeOf, typeInfo, hi, newRow, Instr.fill]
    have hr : Array.range 0 = #[] := by simp [Array.range]
    rw [hr, Array.map_empty]
  · cases hx

end
end Go.Av
