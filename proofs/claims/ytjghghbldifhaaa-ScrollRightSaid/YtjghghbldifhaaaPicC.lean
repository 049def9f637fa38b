/- Plain laws of parts of pictures. No program in sight. -/
/- Plain laws: what the program makes of a picture is what the reference makes of it, pixel by pixel. No program in sight. -/
import Derived.Test.YtjghghbldifhaaaPicA
import Derived.Test.YtjghghbldifhaaaRefH
set_option linter.unusedVariables false
set_option linter.unusedSimpArgs false
namespace Go.Proofs.Ytjghghbldifhaaa
open Go.RowKit

theorem partRows_get {W : Int} {R : Rect} {px : List Int} : ∀ (n : Nat), (∀ i, i < n → rowAt W R i + R.w.toNat ≤ px.length) → ∀ j i, j < n → i < R.w.toNat → (partRows W R (List.range n) px).getD (j * R.w.toNat + i) 0 = px.getD (rowAt W R j + i) 0
  | 0, _, j, i, hj, _ => by omega
  | n + 1, h, j, i, hj, hi => by
    have hl : (partRows W R (List.range n) px).length = n * R.w.toNat := by
      rw [partRows_length (fun k hk => h k (by have := List.mem_range.1 hk; omega)), List.length_range]
    rw [List.range_succ, partRows_snoc]
    rcases Nat.lt_or_ge j n with hlt | hge
    · have ih := partRows_get n (fun k hk => h k (by omega)) j i hlt hi
      have hb : j * R.w.toNat + i < n * R.w.toNat := by
        have : (j + 1) * R.w.toNat ≤ n * R.w.toNat := Nat.mul_le_mul_right _ hlt
        rw [Nat.succ_mul] at this
        omega
      rw [← ih]
      simp only [List.getD_eq_getElem?_getD]
      rw [List.getElem?_append_left (by omega)]
    · obtain rfl : j = n := by omega
      simp only [List.getD_eq_getElem?_getD]
      rw [List.getElem?_append_right (by omega), hl, show j * R.w.toNat + i - j * R.w.toNat = i by omega, List.getElem?_take, if_pos hi, List.getElem?_drop]
theorem partRows_px {W H : Int} {R : Rect} {px : List Int} (w1 : 1 ≤ W) (w2 : W ≤ 256) (w3 : 1 ≤ H) (w4 : H ≤ 256) (hl : (px.length : Int) = W * H) (r1 : 0 ≤ R.x) (r2 : 1 ≤ R.w) (r3 : R.x + R.w ≤ W) (r4 : 0 ≤ R.y) (r5 : 1 ≤ R.h) (r6 : R.y + R.h ≤ H) {i j : Int} (hi0 : 0 ≤ i) (hi1 : i < R.w) (hj0 : 0 ≤ j) (hj1 : j < R.h) :
    pxAt R.w (partRows W R (List.range R.h.toNat) px) i j = pxAt W px (R.x + i) (R.y + j) := by
  obtain ⟨i, rfl⟩ := Int.eq_ofNat_of_zero_le hi0
  obtain ⟨j, rfl⟩ := Int.eq_ofNat_of_zero_le hj0
  have h := partRows_get (W := W) (R := R) (px := px) R.h.toNat (fun k hk => rowAt_fits w1 w2 w3 w4 hl r1 r2 r3 r4 r6 (by omega)) j i (by omega) (by omega)
  unfold pxAt
  obtain ⟨m1, m2, m3⟩ := place_bd w1 w2 w3 w4 (x := R.x) (y := R.y + j) (by omega) (by omega) (by omega) (by omega)
  have e1 : ((j : Int) * R.w + (i : Int)).toNat = j * R.w.toNat + i := by
    have : (j : Int) * R.w = ((j * R.w.toNat : Nat) : Int) := by rw [Int.natCast_mul, Int.toNat_of_nonneg (by omega)]
    rw [this]
    omega
  have e2 : ((R.y + (j : Int)) * W + (R.x + (i : Int))).toNat = rowAt W R j + i := by unfold rowAt; omega
  rw [e1, e2]
  exact h
theorem map_cut {px : List Int} (h : ∀ p ∈ px, 0 ≤ p ∧ p ≤ 16777215) : px.map cut24 = px := by
  induction px with
  | nil => rfl
  | cons a l ih => rw [List.map_cons, cut24_same (h a (by simp)).1 (h a (by simp)).2, ih (fun p hp => h p (by simp [hp]))]

/-- A part that is put back where it was leaves the picture. -/
theorem blit_back {W H : Int} {F : Rect} {px : List Int} (w1 : 1 ≤ W) (w2 : W ≤ 256) (w3 : 1 ≤ H) (w4 : H ≤ 256) (hl : (px.length : Int) = W * H) (hp : ∀ p ∈ px, 0 ≤ p ∧ p ≤ 16777215) (h1 : F.empty = false) (h2 : Rect.within F ⟨0, 0, W, H⟩ = true) :
    blitRows W F.w F.x F.y (blitAt W H F.w F.h F.x F.y F) ((partRows W F (List.range F.h.toNat) px).map cut24) (List.range (blitAt W H F.w F.h F.x F.y F).h.toNat) px = px := by
  obtain ⟨r1, r2, r3, r4, r5, r6⟩ := Rect.inside h1 h2 w1 w2 w3 w4
  rw [map_cut (fun v hv => hp v (partRows_mem hv))]
  have hpl : ((partRows W F (List.range F.h.toNat) px).length : Int) = F.w * F.h := by
    have := partRows_pic w1 w2 w3 w4 hl h1 h2
    simp only [isPic, Bool.and_eq_true, decide_eq_true_eq] at this
    exact this.2
  obtain ⟨hin, _⟩ := blitAt_in (W := W) (H := H) (p := F.w) (q := F.h) (x := F.x) (y := F.y) (clip := F) rfl w1 w2 w3 w4 r2 (by omega) r5 (by omega)
  refine px_ext w1 w3 (by rw [blitRows_length]; exact hl) hl fun u v e1 e2 e3 e4 => ?_
  rw [blitRows_px w1 w2 w3 w4 hl r2 (by omega) r5 (by omega) hpl hin e1 e2 e3 e4]
  split
  · rename_i hh
    have hb : F.x ≤ u ∧ u < F.x + F.w ∧ F.y ≤ v ∧ v < F.y + F.h := by
      rcases hin with hz | hz
      · rw [hz] at hh; simp [Rect.holds, Rect.zero] at hh; omega
      · unfold Rect.holds at hh; omega
    rw [partRows_px w1 w2 w3 w4 hl r1 r2 r3 r4 r5 r6 (by omega) (by omega) (by omega) (by omega)]
    congr 1 <;> omega
  · rfl
theorem Rect.within_of {F : Rect} {W H : Int} (w2 : W ≤ 256) (w4 : H ≤ 256) (r1 : 0 ≤ F.x) (r2 : 1 ≤ F.w) (r3 : F.x + F.w ≤ W) (r4 : 0 ≤ F.y) (r5 : 1 ≤ F.h) (r6 : F.y + F.h ≤ H) : F.empty = false ∧ Rect.within F ⟨0, 0, W, H⟩ = true := by
  have e5 : F.empty = false := Rect.empty_iff.2 (by omega)
  have e3 : Rect.empty ⟨0, 0, W, H⟩ = false := Rect.empty_iff.2 (by dsimp only; omega)
  have hm : Rect.meet F ⟨0, 0, W, H⟩ = F := by
    cases F
    simp only [Rect.meet, mx, mn] at *
    simp only [Rect.mk.injEq]
    refine ⟨?_, ?_, ?_, ?_⟩ <;> (repeat' split) <;> omega
  refine ⟨e5, ?_⟩
  unfold Rect.within
  rw [Rect.and_meet e5 e3 (by rw [hm]; omega) (by rw [hm]; omega), hm, e5, Bool.false_or]
  exact Rect.eqB_iff.2 rfl
/-- The part of a part is the part. -/
theorem part_part {W H : Int} {r q : Rect} {px : List Int} (w1 : 1 ≤ W) (w2 : W ≤ 256) (w3 : 1 ≤ H) (w4 : H ≤ 256) (hl : (px.length : Int) = W * H) (h1 : r.empty = false) (h2 : Rect.within r ⟨0, 0, W, H⟩ = true) (h3 : q.empty = false) (h4 : Rect.within q ⟨0, 0, r.w, r.h⟩ = true) :
    Rect.shift q r.x r.y = ⟨q.x + r.x, q.y + r.y, q.w, q.h⟩ ∧ Rect.empty ⟨q.x + r.x, q.y + r.y, q.w, q.h⟩ = false ∧ Rect.within ⟨q.x + r.x, q.y + r.y, q.w, q.h⟩ ⟨0, 0, W, H⟩ = true ∧
      partRows r.w q (List.range q.h.toNat) (partRows W r (List.range r.h.toNat) px) = partRows W ⟨q.x + r.x, q.y + r.y, q.w, q.h⟩ (List.range q.h.toNat) px := by
  obtain ⟨r1, r2, r3, r4, r5, r6⟩ := Rect.inside h1 h2 w1 w2 w3 w4
  obtain ⟨q1, q2, q3, q4, q5, q6⟩ := Rect.inside h3 h4 r2 (by omega) r5 (by omega)
  obtain ⟨e1, e2⟩ := Rect.within_of (F := ⟨q.x + r.x, q.y + r.y, q.w, q.h⟩) w2 w4 (by dsimp only; omega) (by dsimp only; omega) (by dsimp only; omega) (by dsimp only; omega) (by dsimp only; omega) (by dsimp only; omega)
  refine ⟨?_, e1, e2, ?_⟩
  · unfold Rect.shift
    rw [if_pos]
    · rfl
    · simp only [Bool.and_eq_true, within_iff]
      refine ⟨⟨⟨Rect.good_iff.2 (by omega), by omega⟩, by omega⟩, Rect.good_iff.2 (by simp only [Rect.move]; omega)⟩
  · have hpl : ((partRows W r (List.range r.h.toNat) px).length : Int) = r.w * r.h := by
      have := partRows_pic w1 w2 w3 w4 hl h1 h2
      simp only [isPic, Bool.and_eq_true, decide_eq_true_eq] at this
      exact this.2
    have hA := partRows_pic r2 (by omega) r5 (by omega) hpl h3 h4
    have hB := partRows_pic w1 w2 w3 w4 hl e1 e2
    simp only [isPic, Bool.and_eq_true, decide_eq_true_eq] at hA hB
    refine px_ext q2 q5 hA.2 hB.2 fun u v f1 f2 f3 f4 => ?_
    rw [partRows_px r2 (by omega) r5 (by omega) hpl q1 q2 q3 q4 q5 q6 f1 f2 f3 f4, partRows_px w1 w2 w3 w4 hl r1 r2 r3 r4 r5 r6 (by omega) (by omega) (by omega) (by omega)]
    have := partRows_px (R := ⟨q.x + r.x, q.y + r.y, q.w, q.h⟩) w1 w2 w3 w4 hl (by dsimp only; omega) (by dsimp only; omega) (by dsimp only; omega) (by dsimp only; omega) (by dsimp only; omega) (by dsimp only; omega) f1 f2 f3 f4
    refine Eq.trans ?_ this.symm
    dsimp only
    congr 1 <;> omega
end Go.Proofs.Ytjghghbldifhaaa
set_option linter.unusedVariables false
set_option linter.unusedSimpArgs false
namespace Go.Proofs.Ytjghghbldifhaaa
open Go.RowKit

theorem place_div {W u v : Int} (hW : 1 ≤ W) (hu0 : 0 ≤ u) (hu1 : u < W) (hv0 : 0 ≤ v) : (((v * W + u).toNat : Nat) : Int) % W = u ∧ (((v * W + u).toNat : Nat) : Int) / W = v ∧ (((v * W + u).toNat : Nat) : Int) = v * W + u := by
  have h0 : 0 ≤ v * W := Int.mul_nonneg hv0 (by omega)
  have e : (((v * W + u).toNat : Nat) : Int) = v * W + u := Int.toNat_of_nonneg (by omega)
  refine ⟨?_, ?_, e⟩
  · rw [e, Int.add_comm, Int.add_mul_emod_self_right]
    exact Int.emod_eq_of_lt hu0 hu1
  · rw [e, Int.add_comm, Int.add_mul_ediv_right _ _ (by omega), Int.ediv_eq_zero_of_lt hu0 hu1]
    omega
theorem mapAt_px {W H : Int} {f : Nat → Int → Int} {ys : List Int} (w1 : 1 ≤ W) (w2 : W ≤ 256) (w3 : 1 ≤ H) (w4 : H ≤ 256) (hl : (ys.length : Int) = W * H) {u v : Int} (hu0 : 0 ≤ u) (hu1 : u < W) (hv0 : 0 ≤ v) (hv1 : v < H) : pxAt W (mapAt f ys) u v = f (v * W + u).toNat (pxAt W ys u v) := by
  unfold pxAt
  rw [mapAt_getD f ys (px_bd w1 w2 w3 w4 hl hu0 hu1 hv0 hv1).2]

/-- Fill. -/
theorem fill_ref {W H : Int} {r : Rect} {c : Int} {px : List Int} (w1 : 1 ≤ W) (w2 : W ≤ 256) (w3 : 1 ≤ H) (w4 : H ≤ 256) (hl : (px.length : Int) = W * H) :
    fillRows W (Rect.and r ⟨0, 0, W, H⟩) (cut24 c) (List.range (Rect.and r ⟨0, 0, W, H⟩).h.toNat) px = mapAt (fillAt W r c) px := by
  obtain ⟨hin, _⟩ := Rect.and_in (r := r) w1 w2 w3 w4 rfl
  have hll : ((fillRows W (Rect.and r ⟨0, 0, W, H⟩) (cut24 c) (List.range (Rect.and r ⟨0, 0, W, H⟩).h.toNat) px).length : Int) = W * H := by rw [fillRows_length]; exact hl
  refine px_ext w1 w3 hll (by rw [mapAt_length]; exact hl) fun u v e1 e2 e3 e4 => ?_
  rw [fillRows_px w1 w2 w3 w4 hl hin e1 e2 e3 e4, mapAt_px w1 w2 w3 w4 hl e1 e2 e3 e4]
  obtain ⟨d1, d2, _⟩ := place_div w1 e1 e2 e3
  unfold fillAt
  rw [d1, d2]
  have hh : (Rect.and r ⟨0, 0, W, H⟩).holds u v ↔ r.has u v = true := by
    have ha : (Rect.has ⟨0, 0, W, H⟩ u v) = true := (hasPx_iff w1 w2 w3 w4).2 ⟨e1, e2, e3, e4⟩
    have := Rect.and_has r ⟨0, 0, W, H⟩ u v
    rw [ha, Bool.and_true] at this
    rw [← this, Rect.has_iff]
    constructor
    · intro h
      refine ⟨?_, h⟩
      rcases hin with hz | hz
      · rw [hz]; decide
      · exact Rect.good_iff.2 (by omega)
    · exact And.right
  by_cases h : r.has u v = true
  · rw [if_pos (hh.2 h), if_pos h]
  · rw [if_neg (fun h2 => h (hh.1 h2)), if_neg h]

theorem getD_set {px : List Int} {i k : Nat} {v : Int} (h : i < px.length) : (px.set i v).getD k 0 = if k = i then v else px.getD k 0 := by
  simp only [List.getD_eq_getElem?_getD, List.getElem?_set]
  by_cases hk : i = k
  · subst hk; simp [h]
  · rw [if_neg hk, if_neg (fun e => hk e.symm)]
/-- Set. -/
theorem set_ref {W H x y c : Int} {px : List Int} (w1 : 1 ≤ W) (w2 : W ≤ 256) (w3 : 1 ≤ H) (w4 : H ≤ 256) (hl : (px.length : Int) = W * H) (h : hasPx W H x y = true) :
    px.set (y * W + x).toNat (cut24 c) = mapAt (fillAt W ⟨x, y, 1, 1⟩ c) px := by
  obtain ⟨x1, x2, y1, y2⟩ := (hasPx_iff w1 w2 w3 w4).1 h
  refine px_ext w1 w3 (by rw [List.length_set]; exact hl) (by rw [mapAt_length]; exact hl) fun u v e1 e2 e3 e4 => ?_
  rw [mapAt_px w1 w2 w3 w4 hl e1 e2 e3 e4]
  obtain ⟨d1, d2, d3⟩ := place_div w1 e1 e2 e3
  obtain ⟨f1, f2, f3⟩ := place_div w1 x1 x2 y1
  unfold fillAt
  rw [d1, d2]
  have hg : Rect.good ⟨x, y, 1, 1⟩ = true := Rect.good_iff.2 (by dsimp only; omega)
  have hh : Rect.has ⟨x, y, 1, 1⟩ u v = true ↔ u = x ∧ v = y := by
    rw [Rect.has_iff]
    simp only [hg, Rect.holds, true_and]
    omega
  unfold pxAt
  rw [getD_set (px_bd w1 w2 w3 w4 hl x1 x2 y1 y2).2]
  by_cases hc : u = x ∧ v = y
  · rw [if_pos (hh.2 hc), if_pos (by rw [hc.1, hc.2])]
  · rw [if_neg (fun h2 => hc (hh.1 h2)), if_neg]
    intro he
    rw [he] at d1 d2
    exact hc ⟨d1.symm.trans f1, d2.symm.trans f2⟩

theorem shift_has {p q x y u v : Int} (g1 : 1 ≤ p) (g2 : p ≤ 256) (g3 : 1 ≤ q) (g4 : q ≤ 256) (e1 : 0 ≤ u) (e2 : u < 256) (e3 : 0 ≤ v) (e4 : v < 256) :
    (Rect.shift ⟨0, 0, p, q⟩ x y).has u v = (blitNear x y u v && picHas p q (u - x) (v - y)) := by
  have hl : (Rect.shift ⟨0, 0, p, q⟩ x y).has u v = true ↔ x ≤ u ∧ u < x + p ∧ y ≤ v ∧ v < y + q := by
    unfold Rect.shift
    split
    · rename_i hc
      simp only [Bool.and_eq_true, within_iff] at hc
      rw [Rect.has_iff]
      simp only [hc.2, true_and]
      simp only [Rect.move, Rect.holds]
      omega
    · rename_i hc
      rw [Rect.has_zero]
      constructor
      · intro h; cases h
      · intro h
        exfalso
        apply hc
        simp only [Bool.and_eq_true, within_iff]
        exact ⟨⟨⟨Rect.good_iff.2 (by dsimp only; omega), by omega⟩, by omega⟩, Rect.good_iff.2 (by simp only [Rect.move]; omega)⟩
  rw [Bool.eq_iff_iff, hl]
  simp only [blitNear, picHas, Bool.and_eq_true, decide_eq_true_eq]
  omega
theorem map_cut_getD (zs : List Int) (i : Nat) : (zs.map cut24).getD i 0 = cut24 (zs.getD i 0) := by
  simp only [List.getD_eq_getElem?_getD, List.getElem?_map]
  cases zs[i]? <;> rfl
/-- Blit. -/
theorem blit_ref {W H p q x y : Int} {clip : Rect} {zs px : List Int} (w1 : 1 ≤ W) (w2 : W ≤ 256) (w3 : 1 ≤ H) (w4 : H ≤ 256) (hl : (px.length : Int) = W * H) (hp : isPic p q zs.length = true) :
    blitRows W p x y (blitAt W H p q x y clip) (zs.map cut24) (List.range (blitAt W H p q x y clip).h.toNat) px = mapAt (blitPx W x y p q zs clip) px := by
  have hp' : 1 ≤ p ∧ p ≤ 256 ∧ 1 ≤ q ∧ q ≤ 256 ∧ (zs.length : Int) = p * q := by simpa [isPic, and_assoc] using hp
  obtain ⟨g1, g2, g3, g4, hz⟩ := hp'
  obtain ⟨hin, _⟩ := blitAt_in (clip := clip) (x := x) (y := y) rfl w1 w2 w3 w4 g1 g2 g3 g4
  refine px_ext w1 w3 (by rw [blitRows_length]; exact hl) (by rw [mapAt_length]; exact hl) fun u v e1 e2 e3 e4 => ?_
  rw [blitRows_px w1 w2 w3 w4 hl g1 g2 g3 g4 (by rw [List.length_map]; exact hz) hin e1 e2 e3 e4, mapAt_px w1 w2 w3 w4 hl e1 e2 e3 e4]
  obtain ⟨d1, d2, _⟩ := place_div w1 e1 e2 e3
  unfold blitPx
  rw [d1, d2]
  have hh := blitAt_has (clip := clip) (x := x) (y := y) w1 w2 w3 w4 g1 g2 g3 g4 e1 e2 e3 e4
  rw [shift_has g1 g2 g3 g4 e1 (by omega) e3 (by omega)] at hh
  have hcomm : (blitNear x y u v && (Rect.has clip u v && picHas p q (u - x) (v - y))) = (clip.has u v && (blitNear x y u v && picHas p q (u - x) (v - y))) := by
    cases blitNear x y u v <;> cases Rect.has clip u v <;> rfl
  rw [hcomm]
  by_cases h : (clip.has u v && (blitNear x y u v && picHas p q (u - x) (v - y))) = true
  · rw [if_pos (hh.2 h), if_pos h]
    unfold pxAt
    rw [map_cut_getD]
  · rw [if_neg (fun h2 => h (hh.1 h2)), if_neg h]

/-- Copy. -/
theorem copy_ref {W H x y a b dx dy : Int} {F : Rect} {px : List Int} (w1 : 1 ≤ W) (w2 : W ≤ 256) (w3 : 1 ≤ H) (w4 : H ≤ 256) (hl : (px.length : Int) = W * H) (hp : ∀ p ∈ px, 0 ≤ p ∧ p ≤ 16777215) (h1 : Rect.empty ⟨x, y, a, b⟩ = false) (h2 : Rect.within ⟨x, y, a, b⟩ ⟨0, 0, W, H⟩ = true) (hF : Rect.shift ⟨x, y, a, b⟩ (-dx) (-dy) = F) (h5 : Rect.empty F = false) (h6 : Rect.within F ⟨0, 0, W, H⟩ = true) :
    blitRows W F.w x y (blitAt W H F.w F.h x y ⟨x, y, a, b⟩) ((partRows W F (List.range F.h.toNat) px).map cut24) (List.range (blitAt W H F.w F.h x y ⟨x, y, a, b⟩).h.toNat) px = mapAt (copyPx W ⟨x, y, a, b⟩ dx dy px) px := by
  have hFe : F = ⟨x + -dx, y + -dy, a, b⟩ := by
    unfold Rect.shift at hF
    split at hF
    · exact hF.symm
    · rw [← hF] at h5; simp [Rect.empty, Rect.area, Rect.zero] at h5
  subst hFe
  clear hF
  obtain ⟨r1, r2, r3, r4, r5, r6⟩ := Rect.inside h5 h6 w1 w2 w3 w4
  obtain ⟨q1, q2, q3, q4, q5, q6⟩ := Rect.inside h1 h2 w1 w2 w3 w4
  dsimp only at r1 r2 r3 r4 r5 r6 q1 q2 q3 q4 q5 q6 ⊢
  rw [map_cut (fun v hv => hp v (partRows_mem hv))]
  have hpl : ((partRows W ⟨x + -dx, y + -dy, a, b⟩ (List.range b.toNat) px).length : Int) = a * b := by
    have := partRows_pic w1 w2 w3 w4 hl h5 h6
    simp only [isPic, Bool.and_eq_true, decide_eq_true_eq] at this
    exact this.2
  obtain ⟨hin, _⟩ := blitAt_in (W := W) (H := H) (p := a) (q := b) (x := x) (y := y) (clip := ⟨x, y, a, b⟩) rfl w1 w2 w3 w4 r2 (by omega) r5 (by omega)
  refine px_ext w1 w3 (by rw [blitRows_length]; exact hl) (by rw [mapAt_length]; exact hl) fun u v e1 e2 e3 e4 => ?_
  rw [blitRows_px w1 w2 w3 w4 hl r2 (by omega) r5 (by omega) hpl hin e1 e2 e3 e4, mapAt_px w1 w2 w3 w4 hl e1 e2 e3 e4]
  obtain ⟨d1, d2, d3⟩ := place_div w1 e1 e2 e3
  unfold copyPx
  rw [d1, d2, d3]
  have hh := blitAt_has (clip := ⟨x, y, a, b⟩) (x := x) (y := y) w1 w2 w3 w4 r2 (by omega) r5 (by omega) e1 e2 e3 e4
  rw [shift_has r2 (by omega) r5 (by omega) e1 (by omega) e3 (by omega)] at hh
  have hg : Rect.good ⟨x, y, a, b⟩ = true := Rect.good_iff.2 (by dsimp only; omega)
  have hb : Rect.has ⟨x, y, a, b⟩ u v = true ↔ x ≤ u ∧ u < x + a ∧ y ≤ v ∧ v < y + b := by
    rw [Rect.has_iff]
    simp only [hg, Rect.holds, true_and]
  have hn : Rect.has ⟨x, y, a, b⟩ u v = true → (blitNear x y u v && picHas a b (u - x) (v - y)) = true := fun h => by
    have := hb.1 h
    simp only [blitNear, picHas, Bool.and_eq_true, decide_eq_true_eq]
    omega
  by_cases h : Rect.has ⟨x, y, a, b⟩ u v = true
  · rw [if_pos (hh.2 (by rw [h, hn h]; rfl)), if_pos h]
    have hu := hb.1 h
    have hp2 := partRows_px (R := ⟨x + -dx, y + -dy, a, b⟩) w1 w2 w3 w4 hl r1 r2 r3 r4 r5 r6 (i := u - x) (j := v - y) (by omega) (by dsimp only; omega) (by omega) (by dsimp only; omega)
    dsimp only at hp2
    rw [hp2]
    unfold pxAt
    congr 2
    rw [show y + -dy + (v - y) = v - dy by omega, Int.sub_mul]
    omega
  · rw [if_neg (fun h2 => h (by have := hh.1 h2; simp only [Bool.and_eq_true] at this; exact this.1)), if_neg h]
end Go.Proofs.Ytjghghbldifhaaa
