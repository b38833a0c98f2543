/- Operations that make blocks, or write them. -/
import Derived.Test.YtbfmjoheolgjeaaGreatDoorAvF
import Derived.Laws.Tables
import Derived.Great.BuildSlice
import Derived.Laws.MakeOwn
import Derived.MapKept
namespace Go.Av
section
variable {P : Program} {B : Nat} {S : St} {β : Beta} {w : World}
variable {env : List AV} {F : Fr} {ρ : Operand → Value} {om : Opd → Operand → Bool} {cl : Nat → List AV → St → OR} {v : AV} {S' : St} {o : Oper}

theorem newB_inv {b : ABlk} {k : Nat → AV} (h : newB S b k = .ok v S') : v = k S.next ∧ S' = ⟨S.next + 1, PT.set (some b) S.heap S.next⟩ := by
  unfold newB at h
  rw [PT.force_eq] at h
  cases h
  exact ⟨rfl, rfl⟩

/-- Cells that are laid into a new block. -/
theorem BR_new {β : Beta} {w : World} {m : BM} {esz size : Nat} {l : List AV} {C : Array Value} {e : TypeId} (h1 : w.heap[m.blk]? = some (.cells C e (0, 0))) (h0 : m.off = 0)
    (h2 : size ≤ m.lim) (h3 : m.lim ≤ C.size) (h4 : m.sz = esz) (hl : l.length ≤ size) (h5 : ∀ i (h : i < l.length), ∃ u, C[i]? = some u ∧ VR β l[i] u) : BR β m w (.cells esz size (ofList l)) := by
  refine ⟨C, e, h1, h2, by omega, h4, fun i v hv => ?_⟩
  rw [get_ofList] at hv
  obtain ⟨hi, rfl⟩ := List.getElem?_eq_some_iff.1 hv
  obtain ⟨u, a, b⟩ := h5 i hi
  exact ⟨by omega, u, by rw [h0, Nat.zero_add]; exact a, b⟩

/-- A new row of just these cells. -/
theorem row_new (hR : Rel B S β w) (hf : Free β S.next (S.next + 1)) {l : List AV} {x : Array Value} (hl : LR β l x) (e : TypeId) (esz : Nat) :
    Rel B ⟨S.next + 1, PT.set (some (.cells esz l.length (ofList l))) S.heap S.next⟩ (β.put S.next ⟨w.heap.size, 0, l.length, esz⟩) (w.alloc (.cells x e)) ∧
    Step S β w ⟨S.next + 1, PT.set (some (.cells esz l.length (ofList l))) S.heap S.next⟩ (β.put S.next ⟨w.heap.size, 0, l.length, esz⟩) (w.alloc (.cells x e)) := by
  have hn := hf S.next (Nat.le_refl _) (Nat.lt_succ_self _)
  refine alloc_step (w1 := w.alloc (.cells x e)) hR hn (.cells esz l.length (ofList l)) ⟨w.heap.size, 0, l.length, esz⟩ (.cells x e) rfl rfl rfl rfl rfl ?_ _ (fun k => PT.get_set _ _ _ _)
  refine BR_new (C := x) (e := e) (push_new w _) rfl (Nat.le_refl _) (by rw [hl.size]; exact Nat.le_refl _) rfl (Nat.le_refl _) (fun i hi => ?_)
  have hs := hl.size
  exact ⟨x[i], Array.getElem?_eq_getElem (by omega), (hl.at_ i hi (by omega)).mono (Beta.le_put hn _)⟩

theorem ok_alloc (hR : Rel B S β w) {z : List AV} (h : aop cl env F S (.alloc z) = .ok v S') (hf : Free β S.next S'.next) (hx : xmatch P om o.op (.alloc z) = true) : OpOK P B S β w o ρ v S' := by
  simp only [aop, doAlloc] at h
  obtain ⟨rfl, rfl⟩ := newB_inv h
  simp only [xmatch] at hx
  split at hx
  · rename_i t e
    unfold zeroIs at hx
    split at hx
    · rename_i i hi
      split at hx
      · rename_i zv hz
        have hl : LR β z zv.cells := by have := lmatch_sound β z _ hx; simpa using this
        obtain ⟨r1, r2⟩ := row_new hR hf hl t 0
        exact ⟨_, .pointer (some ⟨w.heap.size, 0, none⟩), w.alloc (.cells zv.cells t), .inl (by simp [execOp, e, Instr.alloc, zeroValue, typeInfo, hi, hz, newVar, newRow]), .ptr _ 0 _ (Beta.put_self _ _ _), r1, r2⟩
      · cases hx
    · cases hx
  · cases hx

theorem ok_box (hR : Rel B S β w) (hE : OM β env F ρ om) {n : Nat} {x : Opd} (h : aop cl env F S (.box n x) = .ok v S') (hf : Free β S.next S'.next) (hx : xmatch P om o.op (.box n x) = true) : OpOK P B S β w o ρ v S' := by
  simp only [aop] at h
  simp only [xmatch] at hx
  split at hx
  · rename_i t y e
    split at h
    · rename_i a ha
      split at h
      · obtain ⟨rfl, rfl⟩ := newB_inv h
        have hl := (hE _ _ _ hx ha).cells
        obtain ⟨r1, r2⟩ := row_new hR hf hl t 0
        exact ⟨_, .pointer (some ⟨w.heap.size, 0, none⟩), w.alloc (.cells (ρ y).cells t), .inl (by simp [execOp, e, Instr.box, newVar, newRow]), .ptr _ 0 _ (Beta.put_self _ _ _), r1, r2⟩
      · cases h
    · cases h
  · cases hx

theorem fold_set (off : Nat) : ∀ (l : List Value) (k : Nat) (cs : Array Value), ((l.zipIdx k).foldl (fun cs p => cs.setIfInBounds (off + p.2) p.1) cs).size = cs.size ∧
    ∀ i, ((l.zipIdx k).foldl (fun cs p => cs.setIfInBounds (off + p.2) p.1) cs)[i]? = if off + k ≤ i ∧ i < off + k + l.length ∧ i < cs.size then l[i - (off + k)]? else cs[i]? := by
  intro l
  induction l with
  | nil =>
    intro k cs
    refine ⟨rfl, fun i => ?_⟩
    rw [if_neg (by simp; omega)]
    rfl
  | cons c l ih =>
    intro k cs
    rw [List.zipIdx_cons, List.foldl_cons]
    obtain ⟨h1, h2⟩ := ih (k + 1) (cs.setIfInBounds (off + k) c)
    refine ⟨by rw [h1]; simp, fun i => ?_⟩
    rw [h2 i]
    by_cases c1 : off + (k + 1) ≤ i ∧ i < off + (k + 1) + l.length ∧ i < (cs.setIfInBounds (off + k) c).size
    · rw [if_pos c1, if_pos (by simp at c1 ⊢; omega), show i - (off + k) = (i - (off + (k + 1))) + 1 by omega, List.getElem?_cons_succ]
    · rw [if_neg c1]
      by_cases c2 : i = off + k
      · subst c2
        by_cases c3 : off + k < cs.size
        · rw [if_pos (by simp; omega)]
          simp [c3]
        · rw [if_neg (by omega)]
          simp at c3
          simp [c3]
      · rw [if_neg (by simp at c1 ⊢; omega), Array.getElem?_setIfInBounds_ne (by omega)]

theorem LR.of_get {l : List AV} {x : Array Value} (hs : x.size = l.length) (h : ∀ (i : Nat) (v : AV) (u : Value), l[i]? = some v → x[i]? = some u → VR β v u) : LR β l x :=
  ⟨hs, fun i a b => h i _ _ (List.getElem?_eq_getElem a) (Array.getElem?_eq_getElem b)⟩

theorem LR.get2 {l : List AV} {x : Array Value} (h : LR β l x) {i : Nat} {v : AV} {u : Value} (h1 : l[i]? = some v) (h2 : x[i]? = some u) : VR β v u := by
  obtain ⟨u', a, b⟩ := h.get h1
  rw [h2] at a
  cases a
  exact b

theorem LR.putAt {l p : List AV} {x y : Array Value} (hl : LR β l x) (hp : LR β p y) {off : Nat} (h : off + p.length ≤ l.length) :
    LR β (putAt l off p) (y.zipIdx.foldl (fun cs p => cs.setIfInBounds (off + p.2) p.1) x) := by
  rw [← Array.foldl_toList, Array.toList_zipIdx]
  obtain ⟨h1, h2⟩ := fold_set off y.toList 0 x
  have hs := hl.size
  have hs' := hp.size
  have hlen : (Av.putAt l off p).length = l.length := by unfold Av.putAt; simp; omega
  refine LR.of_get (by rw [h1, hlen, hs]) (fun i v u hv hu => ?_)
  rw [h2] at hu
  unfold Av.putAt at hv
  by_cases c1 : off ≤ i ∧ i < off + p.length
  · rw [if_pos (by simp; omega)] at hu
    rw [List.append_assoc, List.getElem?_append_right (by simp; omega), List.getElem?_append_left (by simp; omega), List.length_take, Nat.min_eq_left (show off ≤ l.length by omega)] at hv
    exact hp.get2 hv (by simpa using hu)
  · rw [if_neg (by simp; omega)] at hu
    refine hl.get2 ?_ hu
    rw [← hv]
    by_cases c2 : i < off
    · rw [List.append_assoc, List.getElem?_append_left (by simp; omega), List.getElem?_take_of_lt c2]
    · rw [List.getElem?_append_right (by simp; omega), List.getElem?_drop]
      congr 1
      simp
      omega

theorem fillA_sound (hE : OM β env F ρ om) (place : Nat → Option (Nat × Nat)) : ∀ (ps : List (Nat × Nat × Opd)) (r : List (Nat × Operand)) (z l : List AV) (x : Array Value), partsOK om place ps r = true → fillA env F z ps = some l → LR β z x →
    ∃ y, Instr.fill place x (r.map fun (i, o) => (i, ρ o)) = some y ∧ LR β l y := by
  intro ps
  induction ps with
  | nil =>
    intro r z l x h1 h2 h3
    cases r with
    | nil => cases h2; exact ⟨x, rfl, h3⟩
    | cons a r => simp [partsOK] at h1
  | cons p ps ih =>
    intro r z l x h1 h2 h3
    obtain ⟨off, n, q⟩ := p
    cases r with
    | nil => simp [partsOK] at h1
    | cons a r =>
      obtain ⟨i, oo⟩ := a
      simp only [partsOK, Bool.and_eq_true] at h1
      obtain ⟨⟨h4, h5⟩, h6⟩ := h1
      have h2' : (match ov env F q with
        | some v => match Nat.beq (cellsOf v).length n, Nat.ble (off + n) z.length with
          | true, true => fillA env F (putAt z off (cellsOf v)) ps
          | _, _ => none
        | none => none) = some l := h2
      split at h2'
      · rename_i v hv
        split at h2'
        · rename_i g1 g2
          have g1' : (cellsOf v).length = n := Nat.eq_of_beq_eq_true g1
          have g2' := Nat.le_of_ble_eq_true g2
          have hv' := (hE _ _ _ h5 hv).cells
          split at h4
          · rename_i off' n' hp
            simp only [Bool.and_eq_true, beq_iff_eq] at h4
            obtain ⟨rfl, rfl⟩ := h4
            have hs := hv'.size
            have hs3 := h3.size
            obtain ⟨y, e1, e2⟩ := ih r (putAt z off (cellsOf v)) l _ h6 h2' (h3.putAt hv' (by omega))
            refine ⟨y, ?_, e2⟩
            simp only [List.map_cons, Instr.fill, hp]
            rw [if_neg (by simp; omega)]
            exact e1
          · cases h4
        · cases h2'
      · cases h2'

theorem zeroIs_spec {t : TypeId} {z : List AV} (h : zeroIs P t z = true) : ∃ i zv, P.info? t = some i ∧ i.zero = some zv ∧ ∀ β, LR β z zv.cells := by
  unfold zeroIs at h
  split at h
  · rename_i i hi
    split at h
    · rename_i zv hz
      exact ⟨i, zv, hi, hz, fun β => by have := lmatch_sound β z _ h; simpa using this⟩
    · cases h
  · cases h

theorem parts_map (parts : Array (Nat × Operand)) (ρ : Operand → Value) : (parts.map fun (i, x) => (i, ρ x)).toList = parts.toList.map fun (i, x) => (i, ρ x) := by simp

theorem ok_build (hR : Rel B S β w) (hE : OM β env F ρ om) {z : List AV} {ps : List (Nat × Nat × Opd)} (h : aop cl env F S (.build z ps) = .ok v S') (hx : xmatch P om o.op (.build z ps) = true) : OpOK P B S β w o ρ v S' := by
  simp only [aop] at h
  simp only [xmatch] at hx
  split at hx
  · rename_i t parts e
    simp only [Bool.and_eq_true] at hx
    obtain ⟨h1, h2⟩ := hx
    obtain ⟨i, zv, hi, hz, hl⟩ := zeroIs_spec h1
    split at h
    · rename_i l hfl
      cases h
      split at h2
      · rename_i fields hu
        split at h2
        · rename_i places hp
          obtain ⟨y, e1, e2⟩ := fillA_sound hE (fun i => places.toArray[i]?) ps parts.toList z l zv.cells h2 hfl (hl β)
          refine .pure hR (.agg y) ?_ (.agg _ _ e2.size e2.at_)
          have hb : P.built t (parts.map fun (i, x) => (i, ρ x)).toList = some y := by
            unfold Program.built
            rw [parts_map]
            simp only [hi, hu, hz, hp]
            exact e1
          have := run_build (P := P) w t _ y hb
          simp only [execOp, e, Sem.run_bind, this, Result.andThen_ok]
          rfl
        · cases h2
      · rename_i n el hu
        split at h2
        · rename_i ie hie
          obtain ⟨y, e1, e2⟩ := fillA_sound hE (fun i => some (i * ie.size, ie.size)) ps parts.toList z l zv.cells h2 hfl (hl β)
          refine .pure hR (.agg y) ?_ (.agg _ _ e2.size e2.at_)
          have hb : P.built t (parts.map fun (i, x) => (i, ρ x)).toList = some y := by
            unfold Program.built
            rw [parts_map]
            simp only [hi, hu, hz, hie]
            exact e1
          have := run_build (P := P) w t _ y hb
          simp only [execOp, e, Sem.run_bind, this, Result.andThen_ok]
          rfl
        · cases h2
      · cases h2
    · cases h
  · cases hx

theorem ok_bslice (hR : Rel B S β w) (hE : OM β env F ρ om) {esz len : Nat} {z : List AV} {ps : List (Nat × Nat × Opd)} (h : aop cl env F S (.bslice esz len z ps) = .ok v S') (hf : Free β S.next S'.next) (hx : xmatch P om o.op (.bslice esz len z ps) = true) : OpOK P B S β w o ρ v S' := by
  simp only [aop] at h
  simp only [xmatch] at hx
  split at hx
  · rename_i t len' parts e
    simp only [Bool.and_eq_true, beq_iff_eq] at hx
    obtain ⟨rfl, h2⟩ := hx
    split at h
    · rename_i l hfl
      obtain ⟨rfl, rfl⟩ := newB_inv h
      split at h2
      · rename_i el hu
        split at h2
        · rename_i ie hie
          simp only [Bool.and_eq_true, beq_iff_eq, decide_eq_true_eq] at h2
          obtain ⟨⟨⟨⟨rfl, hpos⟩, hsmall⟩, h3⟩, h4⟩ := h2
          split at h3
          · rename_i zv hz
            have hl : LR β z ((Array.range (len * ie.size)).map fun j => zv.cells[j % zv.cells.size]!) := by have := lmatch_sound β z _ h3; rwa [Array.toArray_toList] at this
            obtain ⟨y, e1, e2⟩ := fillA_sound hE (fun i => some (i * ie.size, ie.size)) ps parts.toList z l _ h4 hfl hl
            obtain ⟨r1, r2⟩ := row_new hR hf e2 el ie.size
            rw [← parts_map] at e1
            have := run_buildSlice (P := P) w t el len _ y ie zv hu hie hz (by omega) (by omega) e1
            refine ⟨_, .slice (some ⟨w.heap.size, 0, none⟩) len len, _, .inl ?_, .slc _ 0 len (some len) _ (Beta.put_self _ _ _), r1, r2⟩
            simp only [execOp, e, Sem.run_bind, this, Result.andThen_ok]
            rfl
          · cases h3
        · cases h2
      · cases h2
    · cases h
  · cases hx

theorem oneAll {l : List AV} {x : Array Value} (hl : LR β l x) (h : allOne l = true) : ∀ v ∈ x.toList, v.oneCell' = true := by
  intro v hv
  obtain ⟨i, hi, rfl⟩ := List.getElem_of_mem hv
  have hs := hl.size
  have := hl.at_ i (by simp at hi; omega) (by simpa using hi)
  rw [Array.getElem_toList, oneCell_eq this]
  exact allOne_mem h _ (List.getElem_mem _)

/-- Cells are stored into a block that is known. -/
theorem store_cells (hR : Rel B S β w) {b esz size : Nat} {c : PT AV} (hb : S.heap.get b = some (.cells esz size c)) {m : BM} (hm : β b = some m) {l : List AV} {x : Array Value} (hl : LR β l x)
    (h1 : allOne l = true) {off : Nat} (ho : off + l.length ≤ size) (h' : PT ABlk) (hh : ∀ k, h'.get k = if k = b then some (.cells esz size (storeN l c off)) else S.heap.get k) :
    ∃ w', (storeCells ⟨m.blk, m.off + off, none⟩ x.toList).run P w = .ok () w' ∧ Rel B ⟨S.next, h'⟩ β w' ∧ Step S β w ⟨S.next, h'⟩ β w' := by
  obtain ⟨hB, C, e, g1, g2, g3, g4, g5⟩ := hR.live b _ m hb hm
  have hs := hl.size
  have hrun := run_storeCells_at P m.blk (m.off + off) e x.toList 0 C w g1 (by simp; omega) (oneAll hl h1)
  refine ⟨_, hrun, ?_⟩
  refine write_step hR b m (.cells esz size (storeN l c off)) (by rw [hb]; simp) hm (by simp) (fun k hk => setRow_other w m.blk k _ hk) rfl rfl rfl ?_ h' hh
  refine ⟨_, e, setRow_heap w m.blk C _ e _ g1, g2, ?_, g4, fun i v hv => ?_⟩
  · simp; omega
  · rw [get_storeN] at hv
    simp only [Nat.add_zero]
    by_cases c1 : off ≤ i ∧ i < off + l.length
    · rw [if_pos c1] at hv
      obtain ⟨u, q1, q2⟩ := hl.get hv
      refine ⟨by omega, u, ?_, q2⟩
      simp only [List.getElem?_toArray]
      rw [List.append_assoc, List.getElem?_append_right (by simp; omega), List.getElem?_append_left (by simp; omega)]
      simp only [List.length_take, Array.length_toList, Nat.min_eq_left (show m.off + off ≤ C.size by omega)]
      rw [show m.off + i - (m.off + off) = i - off by omega]
      simpa using q1
    · rw [if_neg c1] at hv
      obtain ⟨q1, u, q2, q3⟩ := g5 i v hv
      refine ⟨q1, u, ?_, q3⟩
      simp only [List.getElem?_toArray]
      rw [← q2]
      by_cases c2 : i < off
      · rw [List.append_assoc, List.getElem?_append_left (by simp; omega), List.getElem?_take_of_lt (by omega)]
        simp
      · rw [List.getElem?_append_right (by simp; omega), List.getElem?_drop]
        simp only [List.length_append, List.length_take, Array.length_toList, Nat.min_eq_left (show m.off + off ≤ C.size by omega), Array.getElem?_toList]
        congr 1
        omega

theorem ok_store (hR : Rel B S β w) (hE : OM β env F ρ om) {n : Nat} {a x : Opd} (h : aop cl env F S (.store n a x) = .ok v S') (hx : xmatch P om o.op (.store n a x) = true) : OpOK P B S β w o ρ v S' := by
  simp only [aop] at h
  simp only [xmatch] at hx
  split at hx
  · rename_i t y y' e
    simp only [Bool.and_eq_true] at hx
    obtain ⟨⟨h1, h2⟩, h3⟩ := hx
    split at h3
    · rename_i i hi
      simp only [beq_iff_eq] at h3
      subst h3
      split at h
      · rename_i p q hp hq
        unfold doStore at h
        split at h
        · rename_i b off
          split at h
          · rename_i esz size c hb
            split at h
            · rename_i g1 g2 g3
              rw [PT.force_eq] at h
              cases h
              have g1' : (cellsOf q).length = i.size := Nat.eq_of_beq_eq_true g1
              have g2' := Nat.le_of_ble_eq_true g2
              have hp' := hE _ _ _ h1 hp
              have hq' := (hE _ _ _ h2 hq).cells
              generalize hu : ρ y = u at hp'
              cases hp'
              rename_i m hm
              obtain ⟨w', r1, r2, r3⟩ := store_cells (P := P) hR hb hm hq' g3 (off := off) (by omega) _ (fun k => PT.get_set _ _ _ _)
              have hsz := hq'.size
              refine ⟨β, undef, w', .inr ⟨?_, rfl⟩, .tup [] #[] rfl (fun i a => by simp at a), r2, r3⟩
              simp [execOp, e, hu, Instr.storeAt, Instr.sureAddr, storeVar, sizeOf, typeInfo, hi, hsz, g1', r1]
            · cases h
          · cases h
        · cases h
      · cases h
    · cases h3
  · cases hx

theorem ok_mkM (hR : Rel B S β w) (h : aop cl env F S .mkM = .ok v S') (hf : Free β S.next S'.next) (hx : xmatch P om o.op .mkM = true) : OpOK P B S β w o ρ v S' := by
  simp only [aop] at h
  obtain ⟨rfl, rfl⟩ := newB_inv h
  simp only [xmatch] at hx
  split at hx
  · rename_i t e
    have hn := hf S.next (Nat.le_refl _) (Nat.lt_succ_self _)
    obtain ⟨r1, r2⟩ := alloc_step (w1 := w.alloc (.map #[] 0)) hR hn (.map []) ⟨w.heap.size, 0, 0, 0⟩ (.map #[] 0) rfl rfl rfl rfl rfl ⟨#[], 0, push_new w _, rfl, fun i h => by simp at h⟩ _ (fun k => PT.get_set _ _ _ _)
    exact ⟨_, .map (some w.heap.size), _, .inl (by simp [execOp, e, Instr.makeMap]), .map _ ⟨w.heap.size, 0, 0, 0⟩ (Beta.put_self _ _ _), r1, r2⟩
  · cases hx

end
end Go.Av
