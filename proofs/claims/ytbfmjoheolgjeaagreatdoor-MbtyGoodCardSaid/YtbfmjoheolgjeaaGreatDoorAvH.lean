/- Rows of zeros, maps, bytes, cuts. -/
import Derived.Test.YtbfmjoheolgjeaaGreatDoorAvG
namespace Go.Av
section
variable {P : Program} {B : Nat} {S : St} {β : Beta} {w : World}
variable {env : List AV} {F : Fr} {ρ : Operand → Value} {om : Opd → Operand → Bool} {cl : Nat → List AV → St → OR} {v : AV} {S' : St} {o : Oper}

theorem repl_zero (z : List AV) : repl z 0 = [] := rfl
theorem repl_succ (z : List AV) (n : Nat) : repl z (n + 1) = z ++ repl z n := rfl

theorem repl_length (z : List AV) : ∀ n, (repl z n).length = n * z.length := by
  intro n
  induction n with
  | zero => simp [repl_zero]
  | succ n ih => rw [repl_succ, List.length_append, ih, Nat.succ_mul]; omega

theorem repl_get (z : List AV) : ∀ n i, i < n * z.length → (repl z n)[i]? = z[i % z.length]? := by
  intro n
  induction n with
  | zero => intro i h; simp at h
  | succ n ih =>
    intro i h
    rw [repl_succ]
    by_cases c : i < z.length
    · rw [List.getElem?_append_left c, Nat.mod_eq_of_lt c]
    · rw [List.getElem?_append_right (by omega), ih (i - z.length) (by rw [Nat.succ_mul] at h; omega)]
      congr 1
      rw [← Nat.mod_eq_sub_mod (by omega)]

theorem LR.repl {z : List AV} {zc : Array Value} (hz : LR β z zc) (n : Nat) : LR β (repl z n) ((Array.range (n * zc.size)).map fun i => zc[i % zc.size]!) := by
  have hs := hz.size
  refine LR.of_get (by simp [repl_length, hs]) (fun i v u hv hu => ?_)
  have hi : i < n * z.length := by
    obtain ⟨q, _⟩ := List.getElem?_eq_some_iff.1 hv
    rwa [repl_length] at q
  rw [repl_get z n i hi] at hv
  have hpos : 0 < z.length := by
    rcases Nat.eq_zero_or_pos z.length with h | h
    · rw [h] at hi; omega
    · exact h
  have hlt : i % zc.size < zc.size := Nat.mod_lt _ (by omega)
  have hu' : u = zc[i % zc.size]! := by
    rw [Array.getElem?_map, Array.getElem?_range, if_pos (by rw [hs]; exact hi)] at hu
    simpa using hu.symm
  rw [getElem!_pos zc _ hlt] at hu'
  subst hu'
  refine hz.get2 hv ?_
  rw [← hs]
  exact Array.getElem?_eq_getElem hlt

theorem elemOK_spec {t : TypeId} {esz : Nat} (h : elemOK P t esz = true) : ∃ e i z, P.underlying t = some (.slice e) ∧ P.info? e = some i ∧ i.size = esz ∧ 0 < esz ∧ i.bytes ≤ 65536 ∧ i.zero = some z ∧ z.cells.size = esz := by
  unfold elemOK at h
  split at h
  · rename_i e hu
    split at h
    · rename_i i hi
      simp only [Bool.and_eq_true, beq_iff_eq, decide_eq_true_eq] at h
      obtain ⟨⟨⟨h1, h2⟩, h3⟩, h4⟩ := h
      split at h4
      · rename_i z hz
        exact ⟨e, i, z, hu, hi, h1, h2, h3, hz, by simpa using h4⟩
      · cases h4
    · cases h
  · cases h

theorem ok_mkS (hR : Rel B S β w) (hE : OM β env F ρ om) {esz : Nat} {z : List AV} {len cap : Opd} (h : aop cl env F S (.mkS esz z len cap) = .ok v S') (hf : Free β S.next S'.next) (hx : xmatch P om o.op (.mkS esz z len cap) = true) : OpOK P B S β w o ρ v S' := by
  simp only [aop] at h
  simp only [xmatch] at hx
  split at hx
  · rename_i t yl yc e
    simp only [Bool.and_eq_true] at hx
    obtain ⟨⟨⟨h1, h2⟩, h3⟩, h4⟩ := hx
    obtain ⟨el, i, zv, hu, hi, rfl, hpos, hby, hz, hzs⟩ := elemOK_spec h3
    have he : elemOf? P t = some el := by simp [elemOf?, hu]
    rw [he] at h4
    simp only at h4
    obtain ⟨i', zv', hi', hz', hl⟩ := zeroIs_spec h4
    rw [hi] at hi'
    cases hi'
    rw [hz] at hz'
    cases hz'
    split at h
    · rename_i n c hn hc
      split at h
      · rename_i g1 g2
        obtain ⟨rfl, rfl⟩ := newB_inv h
        have g1' := Nat.le_of_ble_eq_true g1
        have g2' := Nat.le_of_ble_eq_true g2
        have a1 := hE _ _ _ h1 hn
        have a2 := hE _ _ _ h2 hc
        generalize hu1 : ρ yl = u1 at a1
        generalize hu2 : ρ yc = u2 at a2
        cases a1
        cases a2
        have hzl := (hl β).size
        have hL := LR.repl (hl β) c
        have hlen : (repl z c).length = c * i.size := by rw [repl_length, ← hzl, hzs]
        obtain ⟨r1, r2⟩ := row_new hR hf hL el i.size
        rw [hlen] at r1 r2
        have hbytes : (i.bytes : Int) * (c : Int) ≤ 281474976710656 := by
          have : i.bytes * c ≤ 65536 * 1000000 := Nat.mul_le_mul hby g2'
          have h' : ((i.bytes * c : Nat) : Int) ≤ 281474976710656 := by omega
          rwa [Int.natCast_mul] at h'
        have hrun := run_make (P := P) w t el i zv hu hi hz .i64 .i64 (n : Int) (c : Int) (by omega) (by omega) hbytes (by omega)
        simp only [Int.toNat_natCast] at hrun
        have hmc : madeCells zv.cells (c * i.size) = (Array.range (c * zv.cells.size)).map fun i => zv.cells[i % zv.cells.size]! := by
          rw [hzs]; simp [madeCells, hzs]
        rw [hmc] at hrun
        refine ⟨_, .slice (some ⟨w.heap.size, 0, none⟩) n c, _, .inl ?_, .slc _ 0 n (some c) _ (Beta.put_self _ _ _), r1, r2⟩
        have e1 : Value.int .i64 (Int.ofNat n) = .int .i64 (n : Int) := rfl
        have e2 : Value.int .i64 (Int.ofNat c) = .int .i64 (c : Int) := rfl
        simp only [execOp, e, hu1, hu2, e1, e2, Sem.run_bind, hrun, Result.andThen_ok]
        rfl
      · cases h
    · cases h
  · cases hx

theorem findM_sound : ∀ (es : List (AV × AV)) (E : List MapEntry) (l : List UInt8) (k : Nat) (r : Option AV), (E.length = es.length) → (∀ i (h : i < es.length) (h' : i < E.length), VR β (es[i]).1 (E[i]).key ∧ VR β (es[i]).2 (E[i]).val) →
    findM l.length (pack l) es = some r → ∃ a, Instr.findNow .string (.string ⟨l.toArray⟩) E k = some a ∧ (match r with | none => a = none | some v => ∃ j u, a = some (j, u) ∧ VR β v u) := by
  intro es
  induction es with
  | nil =>
    intro E l k r h1 h2 h3
    cases h3
    cases E with
    | nil => exact ⟨none, rfl, rfl⟩
    | cons a E => simp at h1
  | cons x es ih =>
    intro E l k r h1 h2 h3
    cases E with
    | nil => simp at h1
    | cons a E =>
      obtain ⟨k1, k2⟩ := h2 0 (by simp) (by simp)
      simp only [List.getElem_cons_zero] at k1 k2
      have h3' : (match x.1 with
        | .str l' n' => match Nat.beq l.length l', Nat.beq (pack l) n' with
          | true, true => some (some x.2)
          | _, _ => findM l.length (pack l) es
        | _ => none) = some r := h3
      split at h3'
      · rename_i l' n' hxk
        rw [hxk] at k1
        obtain ⟨q, hq, rfl, rfl⟩ := k1.str_inv
        split at h3'
        · rename_i g1 g2
          cases h3'
          have e1 := Nat.eq_of_beq_eq_true g1
          have e2 := Nat.eq_of_beq_eq_true g2
          have : l = q := pack_inj l q e1 e2
          subst this
          refine ⟨some (k, a.val), ?_, k, a.val, rfl, k2⟩
          simp only [Instr.findNow, hq, Instr.sameNow]
          rw [show ((ByteArray.mk l.toArray) == (ByteArray.mk l.toArray)) = true from by rw [beq_toListBytes]; simp]
        · rename_i g
          have hne : (l == q) = false := by
            rw [← str_beq]
            cases c1 : Nat.beq l.length q.length with
            | false => rfl
            | true => cases c2 : Nat.beq (pack l) (pack q) with
              | false => rfl
              | true => exact absurd c2 (g c1)
          obtain ⟨r', a1, a2⟩ := ih E l (k + 1) r (by simpa using h1) (fun i p p' => by have := h2 (i + 1) (by simp; omega) (by simp; omega); simpa using this) h3'
          refine ⟨r', ?_, a2⟩
          have hne' : ((ByteArray.mk l.toArray) == (ByteArray.mk q.toArray)) = false := by
            rw [beq_toListBytes]
            simpa using hne
          simp only [Instr.findNow, hq, Instr.sameNow, hne']
          exact a1
      · cases h3'

theorem ok_look (hR : Rel B S β w) (hE : OM β env F ρ om) {k : Bool} {z : AV} {m x : Opd} (h : aop cl env F S (.look k z m x) = .ok v S') (hx : xmatch P om o.op (.look k z m x) = true) : OpOK P B S β w o ρ v S' := by
  simp only [aop] at h
  simp only [xmatch] at hx
  split at hx
  · rename_i t ym yk k' e
    simp only [Bool.and_eq_true, beq_iff_eq] at hx
    obtain ⟨⟨⟨rfl, h1⟩, h2⟩, h3⟩ := hx
    split at h3
    · rename_i key el hu
      simp only [Bool.and_eq_true] at h3
      obtain ⟨h4, h5⟩ := h3
      have hk := isStr_spec h4
      split at h5
      · rename_i i hi
        split at h5
        · rename_i zv hz
          have hzz := vmatch_sound β z zv h5
          split at h
          · rename_i b l0 n0 hm hkk
            split at h
            · rename_i es hb
              have hm' := hE _ _ _ h1 hm
              obtain ⟨l, hul, rfl, rfl⟩ := (hE _ _ _ h2 hkk).str_inv
              generalize hum : ρ ym = um at hm'
              cases hm'
              rename_i bm hbm
              obtain ⟨_, E, clock, g1, g2, g3⟩ := hR.live b _ bm hb hbm
              have hck : ∀ em, (Instr.checkKey em 10000 key (.string ⟨l.toArray⟩)).run P w = .ok () w := fun em => MapKept.run_checkKey (k := .string ⟨l.toArray⟩) hk (by simp [MapKept.IsKey]) em 9999
              have hgo := MapKept.run_getObj_map (P := P) g1
              split at h
              · rename_i r hr
                cases h
                obtain ⟨a, a1, a2⟩ := findM_sound es E.toList l 0 _ (by simpa using g2) (fun i p p' => by have := g3 i p (by simpa using p'); simpa using this) hr
                obtain ⟨j, u, rfl, hu2⟩ := a2
                have hfk := MapKept.run_findKey (P := P) (w := w) hk a1
                cases k
                · exact .pure hR u (by simp [execOp, e, hum, hul, Instr.lookup, run_underlying hu, hgo, hck, hfk]) hu2
                · refine .pure hR (.tuple #[u, .bool true]) (by simp [execOp, e, hum, hul, Instr.lookup, run_underlying hu, hgo, hck, hfk]) ?_
                  exact (VR.tup _ _ rfl (LR.push (LR.push (LR.nil β) hu2) (.bool true)).at_)
              · rename_i hr
                cases h
                obtain ⟨a, a1, a2⟩ := findM_sound es E.toList l 0 _ (by simpa using g2) (fun i p p' => by have := g3 i p (by simpa using p'); simpa using this) hr
                simp only at a2
                subst a2
                have hfk := MapKept.run_findKey (P := P) (w := w) hk a1
                cases k
                · exact .pure hR zv (by simp [execOp, e, hum, hul, Instr.lookup, run_underlying hu, hgo, hck, hfk, zeroValue, typeInfo, hi, hz]) hzz
                · refine .pure hR (.tuple #[zv, .bool false]) (by simp [execOp, e, hum, hul, Instr.lookup, run_underlying hu, hgo, hck, hfk, zeroValue, typeInfo, hi, hz]) ?_
                  exact (VR.tup _ _ rfl (LR.push (LR.push (LR.nil β) hzz) (.bool false)).at_)
              · cases h
            · cases h
          · cases h
        · cases h5
      · cases h5
    · cases h3
  · cases hx

theorem ok_upd (hR : Rel B S β w) (hE : OM β env F ρ om) {m x y : Opd} (h : aop cl env F S (.upd m x y) = .ok v S') (hx : xmatch P om o.op (.upd m x y) = true) : OpOK P B S β w o ρ v S' := by
  simp only [aop] at h
  simp only [xmatch] at hx
  split at hx
  · rename_i t ym yk yv e
    simp only [Bool.and_eq_true] at hx
    obtain ⟨⟨⟨h1, h2⟩, h3⟩, h4⟩ := hx
    split at h4
    · rename_i key el hu
      have hk := isStr_spec h4
      split at h
      · rename_i b l0 n0 vv hm hkk hv
        split at h
        · rename_i es hb
          split at h
          · rename_i hr
            rw [PT.force_eq] at h
            cases h
            have hm' := hE _ _ _ h1 hm
            obtain ⟨l, hul, rfl, rfl⟩ := (hE _ _ _ h2 hkk).str_inv
            have hv' := hE _ _ _ h3 hv
            generalize hum : ρ ym = um at hm'
            cases hm'
            rename_i bm hbm
            obtain ⟨_, E, clock, g1, g2, g3⟩ := hR.live b _ bm hb hbm
            have hck : ∀ em, (Instr.checkKey em 10000 key (.string ⟨l.toArray⟩)).run P w = .ok () w := fun em => MapKept.run_checkKey (k := .string ⟨l.toArray⟩) hk (by simp [MapKept.IsKey]) em 9999
            have hgo := MapKept.run_getObj_map (P := P) g1
            obtain ⟨a, a1, a2⟩ := findM_sound es E.toList l 0 _ (by simpa using g2) (fun i p p' => by have := g3 i p (by simpa using p'); simpa using this) hr
            simp only at a2
            subst a2
            have hfk := MapKept.run_findKey (P := P) (w := w) hk a1
            have hso := MapKept.run_setObj_map (P := P) (.map (E.push { key := .string ⟨l.toArray⟩, val := ρ yv, born := clock }) (clock + 1)) g1
            have hlt : bm.blk < w.heap.size := hR.bsz _ _ hbm
            obtain ⟨r1, r2⟩ := write_step (w1 := { w with heap := w.heap.setIfInBounds bm.blk (.map (E.push { key := .string ⟨l.toArray⟩, val := ρ yv, born := clock }) (clock + 1)) }) hR b bm (.map (es ++ [(.str l.length (pack l), vv)])) (by rw [hb]; simp) hbm (by simp) (fun c hc => Array.getElem?_setIfInBounds_ne (by omega)) rfl rfl rfl
              ⟨_, _, Array.getElem?_setIfInBounds_self_of_lt hlt, by simp [g2], fun i p p' => by
                by_cases c : i < es.length
                · have := g3 i c (by omega)
                  rw [List.getElem_append_left c, Array.getElem_push_lt (by omega)]
                  exact this
                · have e1 : i = es.length := by simp at p; omega
                  subst e1
                  rw [List.getElem_append_right (by omega)]
                  simp only [← g2, Array.getElem_push_eq]
                  simp
                  exact ⟨VR.str' β l, hv'⟩⟩ _ (fun k => PT.get_set _ _ _ _)
            refine ⟨β, undef, _, .inr ⟨?_, rfl⟩, .tup [] #[] rfl (fun i a => by simp at a), r1, r2⟩
            simp [execOp, e, hum, hul, Instr.mapUpdate, run_underlying hu, hgo, hck, hfk, hso]
          · cases h
        · cases h
      · cases h
    · cases h4
  · cases hx

theorem packA_sound : ∀ (l : List AV) (x : List Value) (n : Nat), LR β l x.toArray → packA l = some n → ∃ q : List UInt8, q.length = l.length ∧ pack q = n ∧ x = q.map fun b => .int .u8 (b.toNat : Nat) := by
  intro l
  induction l with
  | nil =>
    intro x n h1 h2
    cases h2
    have hs := h1.size
    have : x = [] := by simpa using hs
    subst this
    exact ⟨[], rfl, rfl, rfl⟩
  | cons v l ih =>
    intro x n h1 h2
    have hs := h1.size
    cases x with
    | nil => simp at hs
    | cons u x =>
      have hu := h1.at_ 0 (by simp) (by simp)
      have hr : LR β l x.toArray := ⟨by simpa using hs, fun i a b => by have := h1.at_ (i + 1) (by simp; omega) (by simp; simpa using b); simpa using this⟩
      have h2' : packS v (packA l) = some n := h2
      unfold packS at h2'
      split at h2'
      · rename_i k m hm
        split at h2'
        · rename_i hle
          cases h2'
          have hle' := Nat.le_of_ble_eq_true hle
          obtain ⟨q, a1, a2, a3⟩ := ih x m hr hm
          simp at hu
          cases hu
          refine ⟨UInt8.ofNat k :: q, by simp [a1], ?_, ?_⟩
          · simp only [pack, a2, UInt8.toNat_ofNat']
            rw [Nat.mod_eq_of_lt (by omega)]
            rfl
          · simp only [List.map_cons, a3, UInt8.toNat_ofNat']
            rw [Nat.mod_eq_of_lt (by omega)]
        · cases h2'
      · cases h2'

end
end Go.Av
