/- What PixbufJust leans on: pixels. Plain. -/
import Derived.Test.YtjghghbldifhaaaLawT
import Derived.Test.YtjghghbldifhaaaPicC
import Derived.Test.YtjghghbldifhaaaRegU
set_option linter.unusedVariables false
set_option linter.unusedSimpArgs false
namespace Go.Proofs.Ytjghghbldifhaaa

theorem has_cornerJ {r : Rect} (h : r.empty = false) : r.has r.x r.y = true := by
  have := Rect.empty_iff.1 h
  exact Rect.has_inside.2 ⟨h, by omega, by omega, by omega, by omega⟩
theorem eqB_selfJ (a : Rect) : Rect.eqB a a = true := by simp [Rect.eqB]
/-- What lies within another one, pixel by pixel. -/
theorem within_pxJ {q t : Rect} (hq : q.empty = false) (h : ∀ x y, q.has x y = true → t.has x y = true) : q.within t = true := by
  have g := Rect.empty_iff.1 hq
  have c1 := Rect.has_inside.1 (h _ _ (has_cornerJ hq))
  have c2 := Rect.has_inside.1 (h (q.x + q.w - 1) (q.y + q.h - 1) (Rect.has_inside.2 ⟨hq, by omega, by omega, by omega, by omega⟩))
  have hm : q.and t = q := by
    unfold Rect.and
    rw [hq, c1.1]
    have hmeet : q.meet t = q := by
      unfold Rect.meet
      simp only [mx_eq, mn_eq]
      obtain ⟨a, b, c, d⟩ := q
      dsimp only at *
      congr 1 <;> omega
    rw [hmeet, if_neg]
    simp
    omega
  unfold Rect.within
  rw [hm, eqB_selfJ, Bool.or_true]
/-- A part of another picture that is laid where it was. -/
theorem blit_part {W H : Int} {F : Rect} {px qx : List Int} (w1 : 1 ≤ W) (w2 : W ≤ 256) (w3 : 1 ≤ H) (w4 : H ≤ 256) (hl : (px.length : Int) = W * H) (hl2 : (qx.length : Int) = W * H) (hp : ∀ p ∈ qx, 0 ≤ p ∧ p ≤ 16777215) (h1 : F.empty = false) (h2 : Rect.within F ⟨0, 0, W, H⟩ = true) {u v : Int} (e1 : 0 ≤ u) (e2 : u < W) (e3 : 0 ≤ v) (e4 : v < H) :
    pxAt W (blitRows W F.w F.x F.y (blitAt W H F.w F.h F.x F.y F) ((partRows W F (List.range F.h.toNat) qx).map cut24) (List.range (blitAt W H F.w F.h F.x F.y F).h.toNat) px) u v = if F.has u v then pxAt W qx u v else pxAt W px u v := by
  obtain ⟨r1, r2, r3, r4, r5, r6⟩ := Rect.inside h1 h2 w1 w2 w3 w4
  rw [map_cut (fun v hv => hp v (partRows_mem hv))]
  have hpl : ((partRows W F (List.range F.h.toNat) qx).length : Int) = F.w * F.h := by
    have := partRows_pic w1 w2 w3 w4 hl2 h1 h2
    simp only [isPic, Bool.and_eq_true, decide_eq_true_eq] at this
    exact this.2
  obtain ⟨hin, _⟩ := blitAt_in (W := W) (H := H) (p := F.w) (q := F.h) (x := F.x) (y := F.y) (clip := F) rfl w1 w2 w3 w4 r2 (by omega) r5 (by omega)
  rw [blitRows_px w1 w2 w3 w4 hl r2 (by omega) r5 (by omega) hpl hin e1 e2 e3 e4]
  have hh := blitAt_has (clip := F) (x := F.x) (y := F.y) w1 w2 w3 w4 r2 (by omega) r5 (by omega) e1 e2 e3 e4
  have hg : F.good = true := Rect.good_iff.2 (by omega)
  have hb : F.has u v = true ↔ F.x ≤ u ∧ u < F.x + F.w ∧ F.y ≤ v ∧ v < F.y + F.h := by
    rw [Rect.has_iff]
    simp only [hg, Rect.holds, true_and]
  have hs : F.has u v = true → (Rect.shift ⟨0, 0, F.w, F.h⟩ F.x F.y).has u v = true := fun h => by
    have h5 := hb.1 h
    rw [shift_has r2 (by omega) r5 (by omega) e1 (by omega) e3 (by omega)]
    simp only [blitNear, picHas, Bool.and_eq_true, decide_eq_true_eq]
    omega
  cases h : F.has u v
  · rw [if_neg (fun h5 => by have := hh.1 h5; rw [h] at this; simp at this), if_neg (by simp)]
  · have h5 := hb.1 h
    rw [if_pos (hh.2 (by rw [h, hs h]; rfl)), if_pos rfl, partRows_px w1 w2 w3 w4 hl2 r1 r2 r3 r4 r5 r6 (by omega) (by omega) (by omega) (by omega)]
    congr 1 <;> omega
/-- What a fill turns. -/
theorem fill_part {W H : Int} {r : Rect} {c : Int} {px : List Int} (w1 : 1 ≤ W) (w2 : W ≤ 256) (w3 : 1 ≤ H) (w4 : H ≤ 256) (hl : (px.length : Int) = W * H) {u v : Int} (e1 : 0 ≤ u) (e2 : u < W) (e3 : 0 ≤ v) (e4 : v < H) :
    pxAt W (fillRows W (r.and ⟨0, 0, W, H⟩) c (List.range (r.and ⟨0, 0, W, H⟩).h.toNat) px) u v = if r.has u v then c else pxAt W px u v := by
  obtain ⟨hRx, hRy⟩ := Rect.and_in (r := r) w1 w2 w3 w4 rfl
  have hfit : (r.and ⟨0, 0, W, H⟩).fits W H := by
    rcases hRx with h | h
    · exact .inl h
    · exact .inr (by omega)
  rw [fillRows_px w1 w2 w3 w4 hl hfit e1 e2 e3 e4]
  have ha : (Rect.has ⟨0, 0, W, H⟩ u v) = true := (hasPx_iff w1 w2 w3 w4).2 ⟨e1, e2, e3, e4⟩
  have h1 := Rect.and_has r ⟨0, 0, W, H⟩ u v
  rw [ha, Bool.and_true] at h1
  have hh : (r.and ⟨0, 0, W, H⟩).holds u v ↔ r.has u v = true := by
    rw [← h1, Rect.has_iff]
    rcases hfit with h | h
    · rw [h]
      simp [Rect.zero, Rect.holds]
      omega
    · have hg : (r.and ⟨0, 0, W, H⟩).good = true := Rect.good_iff.2 (by omega)
      simp [hg]
  by_cases h : r.has u v = true
  · rw [if_pos (hh.2 h), if_pos h]
  · rw [if_neg (fun h2 => h (hh.1 h2)), if_neg h]
/-- What a copy tells and turns. -/
def CopyTold (W H : Int) (px px' : List Int) (t : Rect) (dx dy f : Int) : Prop := (f = 0 ∨ f = 5) ∧ ∀ u v, 0 ≤ u → u < W → 0 ≤ v → v < H →
  pxAt W px' u v = (if f = 0 ∧ t.has u v = true then pxAt W px (u - dx) (v - dy) else pxAt W px u v) ∧ (f = 0 → t.has u v = true → hasPx W H (u - dx) (v - dy) = true)
theorem copyTold_same {W H : Int} {px : List Int} {t : Rect} {dx dy : Int} : CopyTold W H px px t dx dy 5 := ⟨.inr rfl, fun u v _ _ _ _ => ⟨by rw [if_neg (fun h => by have := h.1; omega)], fun h => by omega⟩⟩
theorem copyTold_empty {W H : Int} {px : List Int} {t : Rect} {dx dy : Int} (h : t.empty = true) : CopyTold W H px px t dx dy 0 := ⟨.inl rfl, fun u v _ _ _ _ => ⟨by rw [if_neg (fun h2 => by have := h2.2; rw [Rect.has_empty h] at this; cases this)], fun _ h2 => by rw [Rect.has_empty h] at h2; cases h2⟩⟩
theorem copyTold_good {W H x y a b dx dy : Int} {F : Rect} {px : List Int} (w1 : 1 ≤ W) (w2 : W ≤ 256) (w3 : 1 ≤ H) (w4 : H ≤ 256) (hl : (px.length : Int) = W * H) (hp : ∀ p ∈ px, 0 ≤ p ∧ p ≤ 16777215) (h1 : Rect.empty ⟨x, y, a, b⟩ = false) (h2 : Rect.within ⟨x, y, a, b⟩ ⟨0, 0, W, H⟩ = true) (hF : Rect.shift ⟨x, y, a, b⟩ (-dx) (-dy) = F) (h5 : Rect.empty F = false) (h6 : Rect.within F ⟨0, 0, W, H⟩ = true) :
    CopyTold W H px (blitRows W F.w x y (blitAt W H F.w F.h x y ⟨x, y, a, b⟩) ((partRows W F (List.range F.h.toNat) px).map cut24) (List.range (blitAt W H F.w F.h x y ⟨x, y, a, b⟩).h.toNat) px) ⟨x, y, a, b⟩ dx dy 0 := by
  rw [copy_ref w1 w2 w3 w4 hl hp h1 h2 hF h5 h6]
  have hFe : F = ⟨x + -dx, y + -dy, a, b⟩ := by
    unfold Rect.shift at hF
    split at hF
    · exact hF.symm
    · rw [← hF] at h5; simp [Rect.empty, Rect.area, Rect.zero] at h5
  subst hFe
  obtain ⟨r1, r2, r3, r4, r5, r6⟩ := Rect.inside h5 h6 w1 w2 w3 w4
  obtain ⟨q1, q2, q3, q4, q5, q6⟩ := Rect.inside h1 h2 w1 w2 w3 w4
  dsimp only at r1 r2 r3 r4 r5 r6 q1 q2 q3 q4 q5 q6
  have hg : Rect.good ⟨x, y, a, b⟩ = true := Rect.good_iff.2 (by dsimp only; omega)
  refine ⟨.inl rfl, fun u v e1 e2 e3 e4 => ?_⟩
  have hb : Rect.has ⟨x, y, a, b⟩ u v = true ↔ x ≤ u ∧ u < x + a ∧ y ≤ v ∧ v < y + b := by
    rw [Rect.has_iff]
    simp only [hg, Rect.holds, true_and]
  constructor
  · rw [mapAt_px w1 w2 w3 w4 hl e1 e2 e3 e4]
    obtain ⟨d1, d2, d3⟩ := place_div w1 e1 e2 e3
    unfold copyPx
    rw [d1, d2, d3]
    by_cases h : Rect.has ⟨x, y, a, b⟩ u v = true
    · rw [if_pos h, if_pos ⟨rfl, h⟩]
      unfold pxAt
      congr 2
      rw [Int.sub_mul]
      omega
    · rw [if_neg h, if_neg (fun h7 => h h7.2)]
  · intro _ h
    have := hb.1 h
    exact (hasPx_iff w1 w2 w3 w4).2 (by omega)
/-- Nothing is unlike just where the pictures are the same. -/
theorem listU_none {Wn Hn : Nat} {px qx : List Int} (h1 : 1 ≤ Wn) (h2 : Wn ≤ 256) (h3 : 1 ≤ Hn) (h4 : Hn ≤ 256) (hl : (px.length : Int) = (Wn : Int) * Hn) (hl2 : (qx.length : Int) = (Wn : Int) * Hn) : (((listU (unF Wn Hn px qx) Wn Hn).length : Int) == 0) = eqL px qx := by
  have hin := unF_in h1 h2 h3 h4 px qx
  by_cases he : px = qx
  · subst he
    have hF : ∀ x y, meant 0 (hasL [] x y) (hasL [] x y) = unF Wn Hn px px x y := fun x y => by
      unfold unF
      simp [hasL, meant]
    have := listU_form hin hF
    rw [← this]
    simp [eqL]
    decide
  · have hne : (listU (unF Wn Hn px qx) Wn Hn) ≠ [] := fun hnil => he (px_ext (W := Wn) (H := Hn) (by omega) (by omega) hl hl2 fun u v e1 e2 e3 e4 => by
      have h5 := listU_has hin (by omega) (by omega) u v
      rw [hnil] at h5
      have h6 : unF Wn Hn px qx u v = false := h5.symm
      unfold unF at h6
      rw [(hasPx_iff (by omega) (by omega) (by omega) (by omega)).2 ⟨e1, e2, e3, e4⟩, Bool.true_and] at h6
      simpa using h6)
    have h7 : eqL px qx = false := by simp [eqL, he]
    rw [h7, beq_eq_false_iff_ne]
    intro h8
    exact hne (List.eq_nil_of_length_eq_zero (by omega))
/-- What lies in the list of what is unlike. -/
theorem listU_in {Wn Hn : Nat} {px qx : List Int} (h1 : 1 ≤ Wn) (h2 : Wn ≤ 256) (h3 : 1 ≤ Hn) (h4 : Hn ≤ 256) {q : Rect} (hq : q ∈ listU (unF Wn Hn px qx) Wn Hn) : q.empty = false ∧ Rect.within q ⟨0, 0, Wn, Hn⟩ = true ∧ ∀ u v, q.has u v = true → unF Wn Hn px qx u v = true := by
  have hin := unF_in h1 h2 h3 h4 px qx
  have he : q.empty = false := by
    have hself := listU_self hin (by omega) (by omega)
    rw [← hself] at hq
    exact (listOf_good hq).1
  have hun : ∀ u v, q.has u v = true → unF Wn Hn px qx u v = true := fun u v h => by
    rw [← listU_has hin (by omega) (by omega) u v]
    unfold hasL
    exact List.any_eq_true.2 ⟨q, hq, h⟩
  refine ⟨he, within_pxJ he fun u v h => ?_, hun⟩
  have h5 := hun u v h
  unfold unF at h5
  rw [Bool.and_eq_true] at h5
  exact h5.1
end Go.Proofs.Ytjghghbldifhaaa
