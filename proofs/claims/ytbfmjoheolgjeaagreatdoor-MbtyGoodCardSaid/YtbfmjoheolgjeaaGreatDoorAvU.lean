/- slices.Insert: what is done in another way is done right. -/
import Derived.Test.YtbfmjoheolgjeaaGreatDoorAvV
set_option linter.unusedVariables false
set_option linter.unusedSimpArgs false
namespace Go.Av
open Go.Proofs
section
variable {P : Program} {B : Nat}

theorem cpy_eval {cl : Cl} {S : St} {esz b off dn bs soff sn e size : Nat} {dc sc : Option Nat} {c : PT AV} {l : List AV} (hb : S.heap.get b = some (.cells e size c)) (hl : sliceCells S esz (Nat.min sn dn) (.slc bs soff sn sc) = some l)
    (h1 : off + l.length ≤ size) (h2 : allOne l = true) :
    aop cl [.slc b off dn dc, .slc bs soff sn sc] .lf S (.cpy esz (.loc 0) (.loc 1)) = .ok (.int .i64 (.ofNat (Nat.min sn dn))) ⟨S.next, PT.set (some (.cells e size (storeN l c off))) S.heap b⟩ := by
  have h1' : Nat.ble (off + l.length) size = true := Nat.ble_eq_true_of_le h1
  simp only [aop, ov, nthO_eq, List.getElem?_cons_zero, List.getElem?_cons_succ, lenOf]
  rw [hl]
  simp only [hb, h1', h2, PT.force_eq]

theorem loadN_eq {c : PT AV} : ∀ {n i : Nat} {l : List AV}, l.length = n → (∀ j (h : j < l.length), c.get (i + j) = some l[j]) → loadN c n i = some l := by
  intro n
  induction n with
  | zero => intro i l h _; rw [loadN_zero, List.eq_nil_of_length_eq_zero h]
  | succ n ih =>
    intro i l h h2
    cases l with
    | nil => simp at h
    | cons v l =>
      rw [loadN_succ]
      have h3 := h2 0 (by simp)
      simp only [Nat.add_zero, List.getElem_cons_zero] at h3
      rw [h3, ih (i := i + 1) (l := l) (by simpa using h) (fun j hj => by
        have := h2 (j + 1) (by simpa using hj)
        simp only [List.getElem_cons_succ] at this
        rw [← this]
        congr 1
        omega)]

theorem allOne_of {l : List AV} (h : ∀ v ∈ l, oneCell v = true) : allOne l = true := by
  induction l with
  | nil => rfl
  | cons x l ih =>
    show (match oneCell x with | true => allOne l | false => false) = true
    rw [h x (List.mem_cons_self)]
    exact ih fun v hv => h v (List.mem_cons_of_mem _ hv)

/-- What says less is true, too. -/
theorem Rel.less {S S' : St} {β : Beta} {w : World} (h : Rel B S β w) (hn : S'.next = S.next)
    (hh : ∀ k blk', S'.heap.get k = some blk' → ∃ blk, S.heap.get k = some blk ∧ (blk' = blk ∨ ∃ e size c c', blk' = .cells e size c' ∧ blk = .cells e size c ∧ ∀ i, c'.get i = c.get i)) : Rel B S' β w := by
  have hh' : ∀ k, S'.heap.get k ≠ none → S.heap.get k ≠ none := by
    intro k hk
    obtain ⟨x, hx⟩ := Option.ne_none_iff_exists'.1 hk
    obtain ⟨y, hy, _⟩ := hh k x hx
    rw [hy]; simp
  refine ⟨fun b hb => by rw [hn]; exact h.hlt b (hh' b hb), h.bsz, fun b blk' m hb hm => ?_, fun b b' m m' hne l1 l2 => h.inj b b' m m' hne (hh' b l1) (hh' b' l2), h.bB⟩
  obtain ⟨blk, h1, h2⟩ := hh b blk' hb
  obtain ⟨a1, a2⟩ := h.live b blk m h1 hm
  refine ⟨a1, ?_⟩
  rcases h2 with rfl | ⟨e, size, c, c', rfl, rfl, h3⟩
  · exact a2
  · obtain ⟨C, t, g1, g2, g3, g4, g5⟩ := a2
    exact ⟨C, t, g1, g2, g3, g4, fun i v hv => g5 i v (by rw [← h3]; exact hv)⟩

theorem Step.less {S S1 S' : St} {β β1 : Beta} {w w1 : World} (h : Step S β w S1 β1 w1) (hn : S'.next = S1.next) (h1 : ∀ k, S'.heap.get k ≠ none → S1.heap.get k ≠ none)
    (h2 : ∀ k, k < S.next → β k = none → S'.heap.get k = S1.heap.get k) : Step S β w S' β1 w1 :=
  ⟨by rw [hn]; exact h.nx, h.le, fun b m hb => by rw [hn]; exact h.nw b m hb, fun b hb hl => h.lv b hb (h1 b hl), fun b hb h0 => (h2 b hb h0).trans (h.nt b hb h0), h.os, h.tape, h.output, h.size, h.kept⟩

theorem LR3 {β : Beta} {a b c : AV} {x : Array Value} (h : LR β [a, b, c] x) : ∃ u0 u1 u2, x = #[u0, u1, u2] ∧ VR β a u0 ∧ VR β b u1 ∧ VR β c u2 := by
  have hs := h.size
  simp at hs
  refine ⟨x[0], x[1], x[2], ?_, h.at_ 0 (by simp) (by omega), h.at_ 1 (by simp) (by omega), h.at_ 2 (by simp) (by omega)⟩
  apply Array.ext
  · simp [hs]
  · intro i h1 h2
    simp at h2
    match i with
    | 0 => rfl
    | 1 => rfl
    | 2 => rfl
    | i + 3 => omega

noncomputable def nocl : Cl := fun _ _ _ => .no

theorem sliceCells_slc {S : St} {esz n b off len : Nat} {cap : Option Nat} {e size : Nat} {c : PT AV} (h : S.heap.get b = some (.cells e size c)) : sliceCells S esz n (.slc b off len cap) = loadN c (n * esz) off := by
  unfold sliceCells
  simp only [h]
  rfl

theorem appZ_eval {S : St} {b off i n : Nat} {z : List AV} {e size : Nat} {c : PT AV} {old : List AV} (hb : S.heap.get b = some (.cells e size c)) (hi : i < n) (hn : n ≤ 999999) (hold : loadN c (i * 2) off = some old) (hz : allOne (repl z (n + 1 - i)) = true) :
    aop nocl [.slc b off i (some n), .int .i64 (.ofNat (n + 1 - i))] .lf S (.appZ 2 z (.loc 0) (.loc 1)) = .ok (.slc S.next 0 (n + 1) none) ⟨S.next + 1, PT.set (some (.cells 2 ((n + 1) * 2) (ofList (old ++ repl z (n + 1 - i))))) S.heap S.next⟩ := by
  have h1 : Nat.ble (n + 1 - i) 1000000 = true := Nat.ble_eq_true_of_le (by omega)
  have h2 : Nat.ble i 1000000 = true := Nat.ble_eq_true_of_le (by omega)
  have h3 : Nat.add i (n + 1 - i) = n + 1 := by show i + (n + 1 - i) = n + 1; omega
  have h4 : Nat.ble (n + 1) n = false := by
    cases h : Nat.ble (n + 1) n with
    | false => rfl
    | true => have := Nat.le_of_ble_eq_true h; omega
  have h5 : Nat.ble 1 (n + 1 - i) = true := Nat.ble_eq_true_of_le (by omega)
  have h6 : loadN c (Nat.mul i 2) off = some old := hold
  simp only [aop, ov, nthO_eq, List.getElem?_cons_zero, List.getElem?_cons_succ, doApp, h1, hz, hb, h2, h3, h4, h5, h6, newB, PT.force_eq]
  rfl

theorem insX_ok {l : List AV} {S : St} {v : AV} {S' : St} (h : insX l S = some (.ok v S')) : bodyOK Tryz.prog 171 = true ∧ ∀ β w (x : Array Value), Rel B S β w → FreeU β S.next → LR β l x →
    Calls Tryz.prog 171 x w fun e w' => ∃ β' u, e = .returned u ∧ VR β' v u ∧ Rel B S' β' w' ∧ Step S β w S' β' w' := by
  refine ⟨by kernel_rfl, fun β w x hR hf hl => ?_⟩
  unfold insX at h
  split at h
  · rename_i b off n i vb voff vc
    split at h
    · rename_i g0
      split at h
      · rename_i e size c hb
        split at h
        · rename_i g1 g2 g3 g4
          split at h
          · rename_i cs vv hcs hvv g5
            split at h
            · rename_i o1 o2
              simp only [Option.some.injEq] at h
              obtain ⟨hS', hv⟩ := newB_inv h
              have g0' := Nat.le_of_ble_eq_true g0
              have g1' := Nat.eq_of_beq_eq_true g1
              have g2' := Nat.le_of_ble_eq_true g2
              have g3' := Nat.le_of_ble_eq_true g3
              have g5' := Nat.le_of_ble_eq_true g5
              have g4' : vb ≠ b := Nat.ne_of_beq_eq_false g4
              subst g1'
              have hi : i < n := g0'
              have hsize : size = off + n * 2 := Nat.le_antisymm g2' g3'
              subst hsize
              obtain ⟨u0, u1, u2, rfl, v0, v1, v2⟩ := LR3 hl
              cases v1
              have v2' := v2
              cases v0
              rename_i m hm
              cases v2
              rename_i vm hvm
              obtain ⟨hB, C, t, k1, k2, k3, k4, k5⟩ := hR.live b _ m hb hm
              obtain ⟨ev, sv, cv, hbv, hvv'⟩ : ∃ ev sv cv, S.heap.get vb = some (.cells ev sv cv) ∧ loadN cv 2 voff = some vv := by
                unfold sliceCells at hvv
                simp only at hvv
                split at hvv
                · rename_i ev sv cv h'
                  exact ⟨ev, sv, cv, h', hvv⟩
                · cases hvv
              obtain ⟨hBv, Cv, tv, j1, j2, j3, j4, j5⟩ := hR.live vb _ vm hbv hvm
              obtain ⟨cs1, cs2⟩ := loadN_some hcs
              obtain ⟨vv1, vv2⟩ := loadN_some hvv'
              have cs1' : cs.length = n * 2 := cs1
              have hblk : vm.blk ≠ m.blk := hR.inj vb b vm m g4' (by rw [hbv]; simp) (by rw [hb]; simp) hvm hm
              have htk : (cs.take (i * 2)).length = i * 2 := by rw [List.length_take]; omega
              have hdl : (cs.drop (i * 2)).length = (n - i) * 2 := by rw [List.length_drop]; omega
              have hold : loadN c (i * 2) off = some (cs.take (i * 2)) := loadN_eq htk fun j hj => by
                rw [htk] at hj
                rw [List.getElem_take]
                exact cs2 j (by omega)
              have hdrop : loadN c ((n - i) * 2) (off + i * 2) = some (cs.drop (i * 2)) := loadN_eq hdl fun j hj => by
                rw [hdl] at hj
                rw [List.getElem_drop]
                have := cs2 (i * 2 + j) (by omega)
                rw [← this]
                congr 1
                omega
              have od : allOne (cs.drop (i * 2)) = true := allOne_of fun v hv => allOne_mem o1 v (List.mem_of_mem_drop hv)
              have hmin : Nat.min 1 (n + 1 - i) = 1 := by show min 1 (n + 1 - i) = 1; omega
              -- what is to lie there
              have hfin : ∀ k, (ofList (cs.take (i * 2) ++ (vv ++ cs.drop (i * 2)))).get k = if k < i * 2 then cs[k]? else if k < i * 2 + 2 then vv[k - i * 2]? else cs[k - 2]? := by
                intro k
                rw [get_ofList]
                by_cases h1 : k < i * 2
                · rw [if_pos h1, List.getElem?_append_left (by omega), List.getElem?_take_of_lt h1]
                · rw [if_neg h1, List.getElem?_append_right (by omega), htk]
                  by_cases h2 : k < i * 2 + 2
                  · rw [if_pos h2, List.getElem?_append_left (by omega)]
                  · rw [if_neg h2, List.getElem?_append_right (by omega), List.getElem?_drop]
                    congr 1
                    omega
              have hcg : ∀ k, k < n * 2 → c.get (off + k) = cs[k]? := fun k hk => by
                rw [cs2 k (by omega)]
                exact (List.getElem?_eq_getElem (by omega)).symm
              have hfree := hf S.next (Nat.le_refl _)
              have hbn : b ≠ S.next := fun e => by rw [← e, hm] at hfree; cases hfree
              have hvbn : vb ≠ S.next := fun e => by rw [← e, hvm] at hfree; cases hfree
              by_cases hroom : n + 1 ≤ (m.lim - off) / 2
              · -- in place
                obtain ⟨cp, hcp⟩ : ∃ cp, cp = (m.lim - off) / 2 := ⟨_, rfl⟩
                have hlim : off + n * 2 + 2 ≤ m.lim := by omega
                obtain ⟨R0, T0⟩ := write_step (w1 := w) hR b m (.cells 2 (off + n * 2 + 2) c) (by rw [hb]; simp) hm rfl (fun _ _ => rfl) rfl rfl rfl
                  ⟨C, t, k1, hlim, k3, k4, fun i v hv => let ⟨a, u, p, q⟩ := k5 i v hv; ⟨by omega, u, p, q⟩⟩ _ (fun k => PT.get_set (some (.cells 2 (off + n * 2 + 2) c)) S.heap b k)
                have R0d := R0.drawn (w' := w.drew) rfl
                have T0d : Step S β w _ β w.drew := T0.then hf R0.hlt (Step.drawn (w' := w.drew) rfl rfl rfl rfl)
                have hS0b : (PT.set (some (.cells 2 (off + n * 2 + 2) c)) S.heap b).get b = some (.cells 2 (off + n * 2 + 2) c) := by rw [PT.get_set, if_pos rfl]
                have a1 : VR β (.slc b (off + (i + 1) * 2) (n + 1 - (i + 1)) none) (.slice (some ⟨m.blk, m.off + off + (i + 1) * 2, none⟩) (n + 1 - (i + 1)) (cp - (i + 1))) := by
                  have := VR.slc (β := β) b (off + (i + 1) * 2) (n + 1 - (i + 1)) none m hm
                  simp only [Option.getD_none, k4] at this
                  rw [show (m.lim - (off + (i + 1) * 2)) / 2 = cp - (i + 1) by omega, ← Nat.add_assoc] at this
                  exact this
                have a2 : VR β (.slc b (off + i * 2) (n + 1 - i) none) (.slice (some ⟨m.blk, m.off + off + i * 2, none⟩) (n + 1 - i) (cp - i)) := by
                  have := VR.slc (β := β) b (off + i * 2) (n + 1 - i) none m hm
                  simp only [Option.getD_none, k4] at this
                  rw [show (m.lim - (off + i * 2)) / 2 = cp - i by omega, ← Nat.add_assoc] at this
                  exact this
                have hmin1 : Nat.min (n + 1 - i) (n + 1 - (i + 1)) = n - i := by show min (n + 1 - i) (n + 1 - (i + 1)) = n - i; omega
                have e1 := cpy_eval (cl := nocl) (S := ⟨S.next, PT.set (some (.cells 2 (off + n * 2 + 2) c)) S.heap b⟩) (esz := 2) (off := off + (i + 1) * 2) (dn := n + 1 - (i + 1)) (dc := none) (bs := b) (soff := off + i * 2) (sn := n + 1 - i) (sc := none) (l := cs.drop (i * 2)) hS0b
                  (by rw [hmin1, sliceCells_slc hS0b]; exact hdrop) (by omega) od
                obtain ⟨β1, c1, w1, q1, _, R1, T1⟩ := cpy_run R0d a1 a2 e1 48 3 (by kernel_rfl)
                have hS1b : (PT.set (some (.cells 2 (off + n * 2 + 2) (storeN (cs.drop (i * 2)) c (off + (i + 1) * 2)))) (PT.set (some (.cells 2 (off + n * 2 + 2) c)) S.heap b) b).get b = some (.cells 2 (off + n * 2 + 2) (storeN (cs.drop (i * 2)) c (off + (i + 1) * 2))) := by rw [PT.get_set, if_pos rfl]
                have hS1v : (PT.set (some (.cells 2 (off + n * 2 + 2) (storeN (cs.drop (i * 2)) c (off + (i + 1) * 2)))) (PT.set (some (.cells 2 (off + n * 2 + 2) c)) S.heap b) b).get vb = some (.cells ev sv cv) := by rw [PT.get_set, if_neg g4', PT.get_set, if_neg g4']; exact hbv
                have e2 := cpy_eval (cl := nocl) (S := ⟨S.next, PT.set (some (.cells 2 (off + n * 2 + 2) (storeN (cs.drop (i * 2)) c (off + (i + 1) * 2)))) (PT.set (some (.cells 2 (off + n * 2 + 2) c)) S.heap b) b⟩) (esz := 2) (off := off + i * 2) (dn := n + 1 - i) (dc := none) (bs := vb) (soff := voff) (sn := 1) (sc := vc) (l := vv) hS1b
                  (by rw [hmin, sliceCells_slc hS1v]; exact hvv') (by omega) o2
                obtain ⟨β2, c2, w2, q2, _, R2, T2⟩ := cpy_run R1 (a2.mono T1.le) (v2'.mono T1.le) e2 48 3 (by kernel_rfl)
                have T02 : Step S β w _ β2 w2 := (T0d.then hf R0d.hlt T1).then hf R1.hlt T2
                have hm2 : β2 b = some m := T02.le _ _ hm
                have hf2 := hf.step T02
                have hn2 : β2 S.next = none := hf2 S.next (Nat.le_refl _)
                obtain ⟨hB2, C2, t2, k21, k22, k23, k24, k25⟩ := R2.live b _ m (by show (PT.set _ _ b).get b = _; rw [PT.get_set, if_pos rfl]) hm2
                obtain ⟨R3, T3⟩ := move_step (w1 := w2) (h' := S'.heap) R2 hn2 b m ⟨m.blk, m.off + off, m.lim - off, m.sz⟩ (.cells 2 ((n + 1) * 2) (ofList (cs.take (i * 2) ++ (vv ++ cs.drop (i * 2)))))
                  (by show (PT.set _ _ b).get b ≠ none; rw [PT.get_set, if_pos rfl]; simp) hm2 rfl rfl (fun _ _ => rfl) rfl rfl rfl
                  (by
                    refine ⟨C2, t2, k21, by show (n + 1) * 2 ≤ m.lim - off; omega, by show m.off + off + (m.lim - off) ≤ C2.size; omega, k24, fun k v hv => ?_⟩
                    rw [hfin] at hv
                    have hk : k < (n + 1) * 2 := by
                      by_cases h1 : k < i * 2
                      · omega
                      · rw [if_neg h1] at hv
                        by_cases h2 : k < i * 2 + 2
                        · omega
                        · rw [if_neg h2] at hv
                          have := (List.getElem?_eq_some_iff.1 hv).1
                          omega
                    refine ⟨hk, ?_⟩
                    have hget : (storeN vv (storeN (cs.drop (i * 2)) c (off + (i + 1) * 2)) (off + i * 2)).get (off + k) = some v := by
                      rw [get_storeN, get_storeN]
                      by_cases h1 : k < i * 2
                      · rw [if_pos h1] at hv
                        rw [if_neg (by omega), if_neg (by omega), hcg k (by omega)]
                        exact hv
                      · rw [if_neg h1] at hv
                        by_cases h2 : k < i * 2 + 2
                        · rw [if_pos h2] at hv
                          rw [if_pos (by omega), show off + k - (off + i * 2) = k - i * 2 by omega]
                          exact hv
                        · rw [if_neg h2] at hv
                          rw [if_neg (by omega), if_pos (by omega), List.getElem?_drop, show i * 2 + (off + k - (off + (i + 1) * 2)) = k - 2 by omega]
                          exact hv
                    obtain ⟨_, u, p1, p2⟩ := k25 (off + k) v hget
                    exact ⟨u, by show C2[m.off + off + k]? = some u; rw [Nat.add_assoc]; exact p1, p2.mono (Beta.le_put hn2 _)⟩)
                  (fun k => by
                    rw [hv]
                    show (PT.set _ (PT.set none S.heap b) S.next).get k = _
                    rw [PT.get_set, PT.get_set]
                    by_cases h1 : k = S.next
                    · rw [if_pos h1, if_pos h1]; rfl
                    · rw [if_neg h1, if_neg h1]
                      by_cases h2 : k = b
                      · rw [if_pos h2, if_pos h2]
                      · rw [if_neg h2, if_neg h2]
                        show _ = (PT.set _ _ b).get k
                        rw [PT.get_set, if_neg h2, PT.get_set, if_neg h2, PT.get_set, if_neg h2])
                have hvv0 : VR β (.slc b off n none) (.slice (some ⟨m.blk, m.off + off, none⟩) n cp) := by
                  have := VR.slc (β := β) b off n none m hm
                  simp only [Option.getD_none, k4] at this
                  rw [hcp]; exact this
                have := ins_room m.blk (m.off + off) n cp i vm.blk (vm.off + voff) (vc.getD ((vm.lim - voff) / vm.sz)) w hi (by omega) (by omega) hblk tv t Cv.size C.size
                  (by simp [World.shape?, j1]) (by simp [World.shape?, k1]) (by omega) (by simp [World.frozen?, j1]) (by simp [World.frozen?, j1]) c1 c2 w1 w2 (fun _ => q1) (fun _ => q2)
                simp only [Option.getD_none, k4, ← hcp]
                refine this.mono ?_
                rintro e w' ⟨rfl, rfl⟩
                refine ⟨β2.put S.next ⟨m.blk, m.off + off, m.lim - off, m.sz⟩, _, rfl, ?_, ?_, ?_⟩
                · rw [hS']
                  have := VR.slc (β := β2.put S.next ⟨m.blk, m.off + off, m.lim - off, m.sz⟩) S.next 0 (n + 1) none _ (Beta.put_self _ _ _)
                  have hc : (none : Option Nat).getD ((m.lim - off - 0) / m.sz) = cp := by rw [k4, hcp]; rfl
                  show VR _ _ (Value.slice (some ⟨m.blk, m.off + off, none⟩) (n + 1) cp)
                  rw [← hc]
                  exact this
                · rw [hv] at R3 ⊢
                  exact R3
                · have T := T02.then hf R2.hlt T3
                  rw [hv] at T ⊢
                  exact T
              · -- a new row
                have hcp : (m.lim - off) / 2 = n := by omega
                have a0 : VR β (.slc b off i (some n)) (.slice (some ⟨m.blk, m.off + off, none⟩) i n) := VR.slc (β := β) b off i (some n) m hm
                have a1 : VR β (.int .i64 (.ofNat (n + 1 - i))) (.int .i64 ((n : Int) + 1 - (i : Int))) := by
                  have : (n : Int) + 1 - (i : Int) = Int.ofNat (n + 1 - i) := by
                    show _ = ((n + 1 - i : Nat) : Int)
                    omega
                  rw [this]
                  exact .int _ _
                have oz : allOne (repl [.int .i64 (.ofNat 0), .nils] (n + 1 - i)) = true := by
                  generalize n + 1 - i = k
                  induction k with
                  | zero => rfl
                  | succ k ih => exact ih
                have hzl : (repl [.int .i64 (.ofNat 0), .nils] (n + 1 - i)).length = (n + 1 - i) * 2 := by
                  generalize n + 1 - i = k
                  induction k with
                  | zero => rfl
                  | succ k ih =>
                    show ([AV.int .i64 (.ofNat 0), .nils] ++ repl _ k).length = _
                    rw [List.length_append, ih]
                    simp
                    omega
                have e1 := appZ_eval (S := S) (z := [.int .i64 (.ofNat 0), .nils]) hb hi g5' hold oz
                obtain ⟨β1, p1, w1, q1, V1, R1, T1⟩ := appZ_run hR a0 a1 e1 (hf.free) 48 3 48 (by kernel_rfl)
                cases V1
                rename_i m1 hm1
                have hS1b : (PT.set (some (.cells 2 ((n + 1) * 2) (ofList (cs.take (i * 2) ++ repl [.int .i64 (.ofNat 0), .nils] (n + 1 - i))))) S.heap S.next).get S.next = some (.cells 2 ((n + 1) * 2) (ofList (cs.take (i * 2) ++ repl [.int .i64 (.ofNat 0), .nils] (n + 1 - i)))) := by rw [PT.get_set, if_pos rfl]
                obtain ⟨hB1, C1, t1, k11, k12, k13, k14, k15⟩ := R1.live S.next _ m1 hS1b hm1
                obtain ⟨g, hg⟩ : ∃ g, g = m1.lim / 2 := ⟨_, rfl⟩
                have b1 : VR β1 (.slc S.next ((i + 1) * 2) (n + 1 - (i + 1)) none) (.slice (some ⟨m1.blk, m1.off + 0 + (i + 1) * 2, none⟩) (n + 1 - (i + 1)) (g - (i + 1))) := by
                  have := VR.slc (β := β1) S.next ((i + 1) * 2) (n + 1 - (i + 1)) none m1 hm1
                  simp only [Option.getD_none, k14] at this
                  rw [show (m1.lim - (i + 1) * 2) / 2 = g - (i + 1) by omega] at this
                  exact this
                have b2 : VR β1 (.slc S.next (i * 2) (n + 1 - i) none) (.slice (some ⟨m1.blk, m1.off + 0 + i * 2, none⟩) (n + 1 - i) (g - i)) := by
                  have := VR.slc (β := β1) S.next (i * 2) (n + 1 - i) none m1 hm1
                  simp only [Option.getD_none, k14] at this
                  rw [show (m1.lim - i * 2) / 2 = g - i by omega] at this
                  exact this
                have hS1v : (PT.set (some (.cells 2 ((n + 1) * 2) (ofList (cs.take (i * 2) ++ repl [.int .i64 (.ofNat 0), .nils] (n + 1 - i))))) S.heap S.next).get vb = some (.cells ev sv cv) := by rw [PT.get_set, if_neg hvbn]; exact hbv
                have e2 := cpy_eval (cl := nocl) (S := ⟨S.next + 1, PT.set (some (.cells 2 ((n + 1) * 2) (ofList (cs.take (i * 2) ++ repl [.int .i64 (.ofNat 0), .nils] (n + 1 - i))))) S.heap S.next⟩) (esz := 2) (off := i * 2) (dn := n + 1 - i) (dc := none) (bs := vb) (soff := voff) (sn := 1) (sc := vc) (l := vv) hS1b
                  (by rw [hmin, sliceCells_slc hS1v]; exact hvv') (by omega) o2
                obtain ⟨β2, c2, w2, q2, _, R2, T2⟩ := cpy_run R1 b2 (v2'.mono T1.le) e2 48 3 (by kernel_rfl)
                have T02 : Step S β w _ β2 w2 := T1.then hf R1.hlt T2
                have R2d := R2.drawn (w' := w2.drew) rfl
                have T2d : Step S β w _ β2 w2.drew := T02.then hf R2.hlt (Step.drawn (w' := w2.drew) rfl rfl rfl rfl)
                have hS2b : (PT.set (some (.cells 2 ((n + 1) * 2) (storeN vv (ofList (cs.take (i * 2) ++ repl [.int .i64 (.ofNat 0), .nils] (n + 1 - i))) (i * 2)))) (PT.set (some (.cells 2 ((n + 1) * 2) (ofList (cs.take (i * 2) ++ repl [.int .i64 (.ofNat 0), .nils] (n + 1 - i))))) S.heap S.next) S.next).get S.next = some (.cells 2 ((n + 1) * 2) (storeN vv (ofList (cs.take (i * 2) ++ repl [.int .i64 (.ofNat 0), .nils] (n + 1 - i))) (i * 2))) := by rw [PT.get_set, if_pos rfl]
                have hS2o : (PT.set (some (.cells 2 ((n + 1) * 2) (storeN vv (ofList (cs.take (i * 2) ++ repl [.int .i64 (.ofNat 0), .nils] (n + 1 - i))) (i * 2)))) (PT.set (some (.cells 2 ((n + 1) * 2) (ofList (cs.take (i * 2) ++ repl [.int .i64 (.ofNat 0), .nils] (n + 1 - i))))) S.heap S.next) S.next).get b = some (.cells 2 (off + n * 2) c) := by rw [PT.get_set, if_neg hbn, PT.get_set, if_neg hbn]; exact hb
                have hmin3 : Nat.min (n - i) (n + 1 - (i + 1)) = n - i := by show min (n - i) (n + 1 - (i + 1)) = n - i; omega
                have e3 := cpy_eval (cl := nocl) (S := ⟨S.next + 1, PT.set (some (.cells 2 ((n + 1) * 2) (storeN vv (ofList (cs.take (i * 2) ++ repl [.int .i64 (.ofNat 0), .nils] (n + 1 - i))) (i * 2)))) (PT.set (some (.cells 2 ((n + 1) * 2) (ofList (cs.take (i * 2) ++ repl [.int .i64 (.ofNat 0), .nils] (n + 1 - i))))) S.heap S.next) S.next⟩) (esz := 2) (off := (i + 1) * 2) (dn := n + 1 - (i + 1)) (dc := none) (bs := b) (soff := off + i * 2) (sn := n - i) (sc := some (n - i)) (l := cs.drop (i * 2)) hS2b
                  (by rw [hmin3, sliceCells_slc hS2o]; exact hdrop) (by omega) od
                have b3 : VR β2 (.slc b (off + i * 2) (n - i) (some (n - i))) (.slice (some ⟨m.blk, m.off + off + i * 2, none⟩) (n - i) (n - i)) := by
                  have := VR.slc (β := β2) b (off + i * 2) (n - i) (some (n - i)) m (T02.le _ _ hm)
                  rw [← Nat.add_assoc] at this
                  exact this
                obtain ⟨β3, c3, w3, q3, _, R3, T3⟩ := cpy_run R2d (b1.mono T2.le) b3 e3 48 3 (by kernel_rfl)
                have T03 : Step S β w _ β3 w3 := T2d.then hf R2d.hlt T3
                have hm13 : β3 S.next = some m1 := T3.le _ _ (T2.le _ _ hm1)
                have hle : ∀ k blk', S'.heap.get k = some blk' → ∃ blk, (PT.set (some (.cells 2 ((n + 1) * 2) (storeN (cs.drop (i * 2)) (storeN vv (ofList (cs.take (i * 2) ++ repl [.int .i64 (.ofNat 0), .nils] (n + 1 - i))) (i * 2)) ((i + 1) * 2)))) (PT.set (some (.cells 2 ((n + 1) * 2) (storeN vv (ofList (cs.take (i * 2) ++ repl [.int .i64 (.ofNat 0), .nils] (n + 1 - i))) (i * 2)))) (PT.set (some (.cells 2 ((n + 1) * 2) (ofList (cs.take (i * 2) ++ repl [.int .i64 (.ofNat 0), .nils] (n + 1 - i))))) S.heap S.next) S.next) S.next).get k = some blk ∧
                    (blk' = blk ∨ ∃ e size c c', blk' = .cells e size c' ∧ blk = .cells e size c ∧ ∀ i, c'.get i = c.get i) := by
                  intro k blk' hk
                  rw [hv] at hk
                  replace hk : (PT.set (some (.cells 2 ((n + 1) * 2) (ofList (cs.take (i * 2) ++ (vv ++ cs.drop (i * 2)))))) (PT.set none S.heap b) S.next).get k = some blk' := hk
                  rw [PT.get_set, PT.get_set] at hk
                  by_cases h1 : k = S.next
                  · rw [if_pos h1] at hk
                    cases hk
                    refine ⟨_, by rw [PT.get_set, if_pos h1], .inr ⟨2, (n + 1) * 2, _, _, rfl, rfl, fun q => ?_⟩⟩
                    rw [hfin, get_storeN, get_storeN, get_ofList]
                    by_cases h2 : q < i * 2
                    · rw [if_pos h2, if_neg (by omega), if_neg (by omega), List.getElem?_append_left (by omega), List.getElem?_take_of_lt h2]
                    · rw [if_neg h2]
                      by_cases h3 : q < i * 2 + 2
                      · rw [if_pos h3, if_neg (by omega), if_pos (by omega)]
                      · rw [if_neg h3]
                        by_cases h4 : q < (n + 1) * 2
                        · rw [if_pos (by omega), List.getElem?_drop]
                          congr 1
                          omega
                        · rw [if_neg (by omega), if_neg (by omega), List.getElem?_eq_none (by omega), List.getElem?_eq_none (by rw [List.length_append, htk, hzl]; omega)]
                  · rw [if_neg h1] at hk
                    by_cases h2 : k = b
                    · rw [if_pos h2] at hk; cases hk
                    · rw [if_neg h2] at hk
                      exact ⟨blk', by rw [PT.get_set, if_neg h1, PT.get_set, if_neg h1, PT.get_set, if_neg h1]; exact hk, .inl rfl⟩
                have hnx : S'.next = S.next + 1 := by rw [hv]
                have R4 := R3.less (S' := S') hnx hle
                have T4 := T03.less (S' := S') hnx
                  (fun k hk => by
                    obtain ⟨x, hx⟩ := Option.ne_none_iff_exists'.1 hk
                    obtain ⟨y, hy, _⟩ := hle k x hx
                    show PT.get _ k ≠ none
                    rw [hy]; simp)
                  (fun k hk1 hk2 => by
                    rw [hv]
                    show (PT.set _ (PT.set none S.heap b) S.next).get k = PT.get _ k
                    have h1 : k ≠ S.next := by omega
                    have h2 : k ≠ b := fun e => by rw [e, hm] at hk2; cases hk2
                    rw [PT.get_set, if_neg h1, PT.get_set, if_neg h2, PT.get_set, if_neg h1, PT.get_set, if_neg h1, PT.get_set, if_neg h1])
                have hgn : n + 1 ≤ g := by omega
                have q1' : (Builtin.append_ #[48, 3] 48 #[.slice (some ⟨m.blk, m.off + off, none⟩) i n, .int .i64 ((n : Int) + 1 - (i : Int))]).run Tryz.prog w = .ok (.slice (some ⟨m1.blk, m1.off + 0, none⟩) (n + 1) g) w1 := by
                  have hc : (none : Option Nat).getD ((m1.lim - 0) / m1.sz) = g := by rw [k14, hg]; rfl
                  rw [← hc]
                  exact q1
                have := ins_grow m.blk (m.off + off) n i vm.blk (vm.off + voff) (vc.getD ((vm.lim - voff) / vm.sz)) m1.blk (m1.off + 0) g w hi (by omega) hgn c2 c3 w1 w2 w3 (fun _ => q1') (fun _ => q2) (fun _ => q3)
                simp only [Option.getD_none, k4, hcp]
                refine this.mono ?_
                rintro e w' ⟨rfl, rfl⟩
                refine ⟨β3, _, rfl, ?_, R4, T4⟩
                rw [hS']
                have := VR.slc (β := β3) S.next 0 (n + 1) none m1 hm13
                have hc : (none : Option Nat).getD ((m1.lim - 0) / m1.sz) = g := by rw [k14, hg]; rfl
                rw [hc] at this
                exact this
            · cases h
          · cases h
        · cases h
      · cases h
    · cases h
  · cases h
end
end Go.Av
