/- Plain laws: what the program makes of a picture is what the reference makes of it, pixel by pixel. No program in sight. -/
import Derived.Test.YtilcggkbancniaaPicB
import Derived.Test.YtilcggkbancniaaRefH
set_option linter.unusedVariables false
set_option linter.unusedSimpArgs false
namespace Go.Proofs.Ytilcggkbancniaa
open Go.RowKit

theorem place_div {W u v : Int} (hW : 1 ≤ W) (hu0 : 0 ≤ u) (hu1 : u < W) (hv0 : 0 ≤ v) : (((v * W + u).toNat : Nat) : Int) % W = u ∧ (((v * W + u).toNat : Nat) : Int) / W = v ∧ (((v * W + u).toNat : Nat) : Int) = v * W + u := by
  have h0 : 0 ≤ v * W := Int.mul_nonneg hv0 (by omega)
  have e : (((v * W + u).toNat : Nat) : Int) = v * W + u := Int.toNat_of_nonneg (by omega)
  refine ⟨?_, ?_, e⟩
  · rw [e, Int.add_comm, Int.add_mul_emod_self_right]
    exact Int.emod_eq_of_lt hu0 hu1
  · rw [e, Int.add_comm, Int.add_mul_ediv_right _ _ (by omega), Int.ediv_eq_zero_of_lt hu0 hu1]
    omega
theorem mapAt_px {W H : Int} {f : Nat → Int → Int} {ys : List Int} (w1 : 1 ≤ W) (w2 : W ≤ 256) (w3 : 1 ≤ H) (w4 : H ≤ 256) (hl : (ys.length : Int) = W * H) {u v : Int} (hu0 : 0 ≤ u) (hu1 : u < W) (hv0 : 0 ≤ v) (hv1 : v < H) : pxAt W (mapAt f ys) u v = f (v * W + u).toNat (pxAt W ys u v) := by
  unfold pxAt
  rw [mapAt_getD f ys (px_bd w1 w2 w3 w4 hl hu0 hu1 hv0 hv1).2]

/-- Fill. -/
theorem fill_ref {W H : Int} {r : Rect} {c : Int} {px : List Int} (w1 : 1 ≤ W) (w2 : W ≤ 256) (w3 : 1 ≤ H) (w4 : H ≤ 256) (hl : (px.length : Int) = W * H) :
    fillRows W (Rect.and r ⟨0, 0, W, H⟩) (cut24 c) (List.range (Rect.and r ⟨0, 0, W, H⟩).h.toNat) px = mapAt (fillAt W r c) px := by
  obtain ⟨hin, _⟩ := Rect.and_in (r := r) w1 w2 w3 w4 rfl
  have hll : ((fillRows W (Rect.and r ⟨0, 0, W, H⟩) (cut24 c) (List.range (Rect.and r ⟨0, 0, W, H⟩).h.toNat) px).length : Int) = W * H := by rw [fillRows_length]; exact hl
  refine px_ext w1 w3 hll (by rw [mapAt_length]; exact hl) fun u v e1 e2 e3 e4 => ?_
  rw [fillRows_px w1 w2 w3 w4 hl hin e1 e2 e3 e4, mapAt_px w1 w2 w3 w4 hl e1 e2 e3 e4]
  obtain ⟨d1, d2, _⟩ := place_div w1 e1 e2 e3
  unfold fillAt
  rw [d1, d2]
  have hh : (Rect.and r ⟨0, 0, W, H⟩).holds u v ↔ r.has u v = true := by
    have ha : (Rect.has ⟨0, 0, W, H⟩ u v) = true := (hasPx_iff w1 w2 w3 w4).2 ⟨e1, e2, e3, e4⟩
    have := Rect.and_has r ⟨0, 0, W, H⟩ u v
    rw [ha, Bool.and_true] at this
    rw [← this, Rect.has_iff]
    constructor
    · intro h
      refine ⟨?_, h⟩
      rcases hin with hz | hz
      · rw [hz]; decide
      · exact Rect.good_iff.2 (by omega)
    · exact And.right
  by_cases h : r.has u v = true
  · rw [if_pos (hh.2 h), if_pos h]
  · rw [if_neg (fun h2 => h (hh.1 h2)), if_neg h]

theorem getD_set {px : List Int} {i k : Nat} {v : Int} (h : i < px.length) : (px.set i v).getD k 0 = if k = i then v else px.getD k 0 := by
  simp only [List.getD_eq_getElem?_getD, List.getElem?_set]
  by_cases hk : i = k
  · subst hk; simp [h]
  · rw [if_neg hk, if_neg (fun e => hk e.symm)]
/-- Set. -/
theorem set_ref {W H x y c : Int} {px : List Int} (w1 : 1 ≤ W) (w2 : W ≤ 256) (w3 : 1 ≤ H) (w4 : H ≤ 256) (hl : (px.length : Int) = W * H) (h : hasPx W H x y = true) :
    px.set (y * W + x).toNat (cut24 c) = mapAt (fillAt W ⟨x, y, 1, 1⟩ c) px := by
  obtain ⟨x1, x2, y1, y2⟩ := (hasPx_iff w1 w2 w3 w4).1 h
  refine px_ext w1 w3 (by rw [List.length_set]; exact hl) (by rw [mapAt_length]; exact hl) fun u v e1 e2 e3 e4 => ?_
  rw [mapAt_px w1 w2 w3 w4 hl e1 e2 e3 e4]
  obtain ⟨d1, d2, d3⟩ := place_div w1 e1 e2 e3
  obtain ⟨f1, f2, f3⟩ := place_div w1 x1 x2 y1
  unfold fillAt
  rw [d1, d2]
  have hg : Rect.good ⟨x, y, 1, 1⟩ = true := Rect.good_iff.2 (by dsimp only; omega)
  have hh : Rect.has ⟨x, y, 1, 1⟩ u v = true ↔ u = x ∧ v = y := by
    rw [Rect.has_iff]
    simp only [hg, Rect.holds, true_and]
    omega
  unfold pxAt
  rw [getD_set (px_bd w1 w2 w3 w4 hl x1 x2 y1 y2).2]
  by_cases hc : u = x ∧ v = y
  · rw [if_pos (hh.2 hc), if_pos (by rw [hc.1, hc.2])]
  · rw [if_neg (fun h2 => hc (hh.1 h2)), if_neg]
    intro he
    rw [he] at d1 d2
    exact hc ⟨d1.symm.trans f1, d2.symm.trans f2⟩

theorem shift_has {p q x y u v : Int} (g1 : 1 ≤ p) (g2 : p ≤ 256) (g3 : 1 ≤ q) (g4 : q ≤ 256) (e1 : 0 ≤ u) (e2 : u < 256) (e3 : 0 ≤ v) (e4 : v < 256) :
    (Rect.shift ⟨0, 0, p, q⟩ x y).has u v = (blitNear x y u v && picHas p q (u - x) (v - y)) := by
  have hl : (Rect.shift ⟨0, 0, p, q⟩ x y).has u v = true ↔ x ≤ u ∧ u < x + p ∧ y ≤ v ∧ v < y + q := by
    unfold Rect.shift
    split
    · rename_i hc
      simp only [Bool.and_eq_true, within_iff] at hc
      rw [Rect.has_iff]
      simp only [hc.2, true_and]
      simp only [Rect.move, Rect.holds]
      omega
    · rename_i hc
      rw [Rect.has_zero]
      constructor
      · intro h; cases h
      · intro h
        exfalso
        apply hc
        simp only [Bool.and_eq_true, within_iff]
        exact ⟨⟨⟨Rect.good_iff.2 (by dsimp only; omega), by omega⟩, by omega⟩, Rect.good_iff.2 (by simp only [Rect.move]; omega)⟩
  rw [Bool.eq_iff_iff, hl]
  simp only [blitNear, picHas, Bool.and_eq_true, decide_eq_true_eq]
  omega
theorem map_cut_getD (zs : List Int) (i : Nat) : (zs.map cut24).getD i 0 = cut24 (zs.getD i 0) := by
  simp only [List.getD_eq_getElem?_getD, List.getElem?_map]
  cases zs[i]? <;> rfl
/-- Blit. -/
theorem blit_ref {W H p q x y : Int} {clip : Rect} {zs px : List Int} (w1 : 1 ≤ W) (w2 : W ≤ 256) (w3 : 1 ≤ H) (w4 : H ≤ 256) (hl : (px.length : Int) = W * H) (hp : isPic p q zs.length = true) :
    blitRows W p x y (blitAt W H p q x y clip) (zs.map cut24) (List.range (blitAt W H p q x y clip).h.toNat) px = mapAt (blitPx W x y p q zs clip) px := by
  have hp' : 1 ≤ p ∧ p ≤ 256 ∧ 1 ≤ q ∧ q ≤ 256 ∧ (zs.length : Int) = p * q := by simpa [isPic, and_assoc] using hp
  obtain ⟨g1, g2, g3, g4, hz⟩ := hp'
  obtain ⟨hin, _⟩ := blitAt_in (clip := clip) (x := x) (y := y) rfl w1 w2 w3 w4 g1 g2 g3 g4
  refine px_ext w1 w3 (by rw [blitRows_length]; exact hl) (by rw [mapAt_length]; exact hl) fun u v e1 e2 e3 e4 => ?_
  rw [blitRows_px w1 w2 w3 w4 hl g1 g2 g3 g4 (by rw [List.length_map]; exact hz) hin e1 e2 e3 e4, mapAt_px w1 w2 w3 w4 hl e1 e2 e3 e4]
  obtain ⟨d1, d2, _⟩ := place_div w1 e1 e2 e3
  unfold blitPx
  rw [d1, d2]
  have hh := blitAt_has (clip := clip) (x := x) (y := y) w1 w2 w3 w4 g1 g2 g3 g4 e1 e2 e3 e4
  rw [shift_has g1 g2 g3 g4 e1 (by omega) e3 (by omega)] at hh
  have hcomm : (blitNear x y u v && (Rect.has clip u v && picHas p q (u - x) (v - y))) = (clip.has u v && (blitNear x y u v && picHas p q (u - x) (v - y))) := by
    cases blitNear x y u v <;> cases Rect.has clip u v <;> rfl
  rw [hcomm]
  by_cases h : (clip.has u v && (blitNear x y u v && picHas p q (u - x) (v - y))) = true
  · rw [if_pos (hh.2 h), if_pos h]
    unfold pxAt
    rw [map_cut_getD]
  · rw [if_neg (fun h2 => h (hh.1 h2)), if_neg h]

/-- Copy. -/
theorem copy_ref {W H x y a b dx dy : Int} {F : Rect} {px : List Int} (w1 : 1 ≤ W) (w2 : W ≤ 256) (w3 : 1 ≤ H) (w4 : H ≤ 256) (hl : (px.length : Int) = W * H) (hp : ∀ p ∈ px, 0 ≤ p ∧ p ≤ 16777215) (h1 : Rect.empty ⟨x, y, a, b⟩ = false) (h2 : Rect.within ⟨x, y, a, b⟩ ⟨0, 0, W, H⟩ = true) (hF : Rect.shift ⟨x, y, a, b⟩ (-dx) (-dy) = F) (h5 : Rect.empty F = false) (h6 : Rect.within F ⟨0, 0, W, H⟩ = true) :
    blitRows W F.w x y (blitAt W H F.w F.h x y ⟨x, y, a, b⟩) ((partRows W F (List.range F.h.toNat) px).map cut24) (List.range (blitAt W H F.w F.h x y ⟨x, y, a, b⟩).h.toNat) px = mapAt (copyPx W ⟨x, y, a, b⟩ dx dy px) px := by
  have hFe : F = ⟨x + -dx, y + -dy, a, b⟩ := by
    unfold Rect.shift at hF
    split at hF
    · exact hF.symm
    · rw [← hF] at h5; simp [Rect.empty, Rect.area, Rect.zero] at h5
  subst hFe
  clear hF
  obtain ⟨r1, r2, r3, r4, r5, r6⟩ := Rect.inside h5 h6 w1 w2 w3 w4
  obtain ⟨q1, q2, q3, q4, q5, q6⟩ := Rect.inside h1 h2 w1 w2 w3 w4
  dsimp only at r1 r2 r3 r4 r5 r6 q1 q2 q3 q4 q5 q6 ⊢
  rw [map_cut (fun v hv => hp v (partRows_mem hv))]
  have hpl : ((partRows W ⟨x + -dx, y + -dy, a, b⟩ (List.range b.toNat) px).length : Int) = a * b := by
    have := partRows_pic w1 w2 w3 w4 hl h5 h6
    simp only [isPic, Bool.and_eq_true, decide_eq_true_eq] at this
    exact this.2
  obtain ⟨hin, _⟩ := blitAt_in (W := W) (H := H) (p := a) (q := b) (x := x) (y := y) (clip := ⟨x, y, a, b⟩) rfl w1 w2 w3 w4 r2 (by omega) r5 (by omega)
  refine px_ext w1 w3 (by rw [blitRows_length]; exact hl) (by rw [mapAt_length]; exact hl) fun u v e1 e2 e3 e4 => ?_
  rw [blitRows_px w1 w2 w3 w4 hl r2 (by omega) r5 (by omega) hpl hin e1 e2 e3 e4, mapAt_px w1 w2 w3 w4 hl e1 e2 e3 e4]
  obtain ⟨d1, d2, d3⟩ := place_div w1 e1 e2 e3
  unfold copyPx
  rw [d1, d2, d3]
  have hh := blitAt_has (clip := ⟨x, y, a, b⟩) (x := x) (y := y) w1 w2 w3 w4 r2 (by omega) r5 (by omega) e1 e2 e3 e4
  rw [shift_has r2 (by omega) r5 (by omega) e1 (by omega) e3 (by omega)] at hh
  have hg : Rect.good ⟨x, y, a, b⟩ = true := Rect.good_iff.2 (by dsimp only; omega)
  have hb : Rect.has ⟨x, y, a, b⟩ u v = true ↔ x ≤ u ∧ u < x + a ∧ y ≤ v ∧ v < y + b := by
    rw [Rect.has_iff]
    simp only [hg, Rect.holds, true_and]
  have hn : Rect.has ⟨x, y, a, b⟩ u v = true → (blitNear x y u v && picHas a b (u - x) (v - y)) = true := fun h => by
    have := hb.1 h
    simp only [blitNear, picHas, Bool.and_eq_true, decide_eq_true_eq]
    omega
  by_cases h : Rect.has ⟨x, y, a, b⟩ u v = true
  · rw [if_pos (hh.2 (by rw [h, hn h]; rfl)), if_pos h]
    have hu := hb.1 h
    have hp2 := partRows_px (R := ⟨x + -dx, y + -dy, a, b⟩) w1 w2 w3 w4 hl r1 r2 r3 r4 r5 r6 (i := u - x) (j := v - y) (by omega) (by dsimp only; omega) (by omega) (by dsimp only; omega)
    dsimp only at hp2
    rw [hp2]
    unfold pxAt
    congr 2
    rw [show y + -dy + (v - y) = v - dy by omega, Int.sub_mul]
    omega
  · rw [if_neg (fun h2 => h (by have := hh.1 h2; simp only [Bool.and_eq_true] at this; exact this.1)), if_neg h]
end Go.Proofs.Ytilcggkbancniaa
