/- Plain laws of parts of pictures. No program in sight. -/
import Derived.Test.YtilcggkbancniaaPicA
set_option linter.unusedVariables false
set_option linter.unusedSimpArgs false
namespace Go.Proofs.Ytilcggkbancniaa
open Go.RowKit

theorem partRows_get {W : Int} {R : Rect} {px : List Int} : ∀ (n : Nat), (∀ i, i < n → rowAt W R i + R.w.toNat ≤ px.length) → ∀ j i, j < n → i < R.w.toNat → (partRows W R (List.range n) px).getD (j * R.w.toNat + i) 0 = px.getD (rowAt W R j + i) 0
  | 0, _, j, i, hj, _ => by omega
  | n + 1, h, j, i, hj, hi => by
    have hl : (partRows W R (List.range n) px).length = n * R.w.toNat := by
      rw [partRows_length (fun k hk => h k (by have := List.mem_range.1 hk; omega)), List.length_range]
    rw [List.range_succ, partRows_snoc]
    rcases Nat.lt_or_ge j n with hlt | hge
    · have ih := partRows_get n (fun k hk => h k (by omega)) j i hlt hi
      have hb : j * R.w.toNat + i < n * R.w.toNat := by
        have : (j + 1) * R.w.toNat ≤ n * R.w.toNat := Nat.mul_le_mul_right _ hlt
        rw [Nat.succ_mul] at this
        omega
      rw [← ih]
      simp only [List.getD_eq_getElem?_getD]
      rw [List.getElem?_append_left (by omega)]
    · obtain rfl : j = n := by omega
      simp only [List.getD_eq_getElem?_getD]
      rw [List.getElem?_append_right (by omega), hl, show j * R.w.toNat + i - j * R.w.toNat = i by omega, List.getElem?_take, if_pos hi, List.getElem?_drop]
theorem partRows_px {W H : Int} {R : Rect} {px : List Int} (w1 : 1 ≤ W) (w2 : W ≤ 256) (w3 : 1 ≤ H) (w4 : H ≤ 256) (hl : (px.length : Int) = W * H) (r1 : 0 ≤ R.x) (r2 : 1 ≤ R.w) (r3 : R.x + R.w ≤ W) (r4 : 0 ≤ R.y) (r5 : 1 ≤ R.h) (r6 : R.y + R.h ≤ H) {i j : Int} (hi0 : 0 ≤ i) (hi1 : i < R.w) (hj0 : 0 ≤ j) (hj1 : j < R.h) :
    pxAt R.w (partRows W R (List.range R.h.toNat) px) i j = pxAt W px (R.x + i) (R.y + j) := by
  obtain ⟨i, rfl⟩ := Int.eq_ofNat_of_zero_le hi0
  obtain ⟨j, rfl⟩ := Int.eq_ofNat_of_zero_le hj0
  have h := partRows_get (W := W) (R := R) (px := px) R.h.toNat (fun k hk => rowAt_fits w1 w2 w3 w4 hl r1 r2 r3 r4 r6 (by omega)) j i (by omega) (by omega)
  unfold pxAt
  obtain ⟨m1, m2, m3⟩ := place_bd w1 w2 w3 w4 (x := R.x) (y := R.y + j) (by omega) (by omega) (by omega) (by omega)
  have e1 : ((j : Int) * R.w + (i : Int)).toNat = j * R.w.toNat + i := by
    have : (j : Int) * R.w = ((j * R.w.toNat : Nat) : Int) := by rw [Int.natCast_mul, Int.toNat_of_nonneg (by omega)]
    rw [this]
    omega
  have e2 : ((R.y + (j : Int)) * W + (R.x + (i : Int))).toNat = rowAt W R j + i := by unfold rowAt; omega
  rw [e1, e2]
  exact h
theorem map_cut {px : List Int} (h : ∀ p ∈ px, 0 ≤ p ∧ p ≤ 16777215) : px.map cut24 = px := by
  induction px with
  | nil => rfl
  | cons a l ih => rw [List.map_cons, cut24_same (h a (by simp)).1 (h a (by simp)).2, ih (fun p hp => h p (by simp [hp]))]

/-- A part that is put back where it was leaves the picture. -/
theorem blit_back {W H : Int} {F : Rect} {px : List Int} (w1 : 1 ≤ W) (w2 : W ≤ 256) (w3 : 1 ≤ H) (w4 : H ≤ 256) (hl : (px.length : Int) = W * H) (hp : ∀ p ∈ px, 0 ≤ p ∧ p ≤ 16777215) (h1 : F.empty = false) (h2 : Rect.within F ⟨0, 0, W, H⟩ = true) :
    blitRows W F.w F.x F.y (blitAt W H F.w F.h F.x F.y F) ((partRows W F (List.range F.h.toNat) px).map cut24) (List.range (blitAt W H F.w F.h F.x F.y F).h.toNat) px = px := by
  obtain ⟨r1, r2, r3, r4, r5, r6⟩ := Rect.inside h1 h2 w1 w2 w3 w4
  rw [map_cut (fun v hv => hp v (partRows_mem hv))]
  have hpl : ((partRows W F (List.range F.h.toNat) px).length : Int) = F.w * F.h := by
    have := partRows_pic w1 w2 w3 w4 hl h1 h2
    simp only [isPic, Bool.and_eq_true, decide_eq_true_eq] at this
    exact this.2
  obtain ⟨hin, _⟩ := blitAt_in (W := W) (H := H) (p := F.w) (q := F.h) (x := F.x) (y := F.y) (clip := F) rfl w1 w2 w3 w4 r2 (by omega) r5 (by omega)
  refine px_ext w1 w3 (by rw [blitRows_length]; exact hl) hl fun u v e1 e2 e3 e4 => ?_
  rw [blitRows_px w1 w2 w3 w4 hl r2 (by omega) r5 (by omega) hpl hin e1 e2 e3 e4]
  split
  · rename_i hh
    have hb : F.x ≤ u ∧ u < F.x + F.w ∧ F.y ≤ v ∧ v < F.y + F.h := by
      rcases hin with hz | hz
      · rw [hz] at hh; simp [Rect.holds, Rect.zero] at hh; omega
      · unfold Rect.holds at hh; omega
    rw [partRows_px w1 w2 w3 w4 hl r1 r2 r3 r4 r5 r6 (by omega) (by omega) (by omega) (by omega)]
    congr 1 <;> omega
  · rfl
theorem Rect.within_of {F : Rect} {W H : Int} (w2 : W ≤ 256) (w4 : H ≤ 256) (r1 : 0 ≤ F.x) (r2 : 1 ≤ F.w) (r3 : F.x + F.w ≤ W) (r4 : 0 ≤ F.y) (r5 : 1 ≤ F.h) (r6 : F.y + F.h ≤ H) : F.empty = false ∧ Rect.within F ⟨0, 0, W, H⟩ = true := by
  have e5 : F.empty = false := Rect.empty_iff.2 (by omega)
  have e3 : Rect.empty ⟨0, 0, W, H⟩ = false := Rect.empty_iff.2 (by dsimp only; omega)
  have hm : Rect.meet F ⟨0, 0, W, H⟩ = F := by
    cases F
    simp only [Rect.meet, mx, mn] at *
    simp only [Rect.mk.injEq]
    refine ⟨?_, ?_, ?_, ?_⟩ <;> (repeat' split) <;> omega
  refine ⟨e5, ?_⟩
  unfold Rect.within
  rw [Rect.and_meet e5 e3 (by rw [hm]; omega) (by rw [hm]; omega), hm, e5, Bool.false_or]
  exact Rect.eqB_iff.2 rfl
/-- The part of a part is the part. -/
theorem part_part {W H : Int} {r q : Rect} {px : List Int} (w1 : 1 ≤ W) (w2 : W ≤ 256) (w3 : 1 ≤ H) (w4 : H ≤ 256) (hl : (px.length : Int) = W * H) (h1 : r.empty = false) (h2 : Rect.within r ⟨0, 0, W, H⟩ = true) (h3 : q.empty = false) (h4 : Rect.within q ⟨0, 0, r.w, r.h⟩ = true) :
    Rect.shift q r.x r.y = ⟨q.x + r.x, q.y + r.y, q.w, q.h⟩ ∧ Rect.empty ⟨q.x + r.x, q.y + r.y, q.w, q.h⟩ = false ∧ Rect.within ⟨q.x + r.x, q.y + r.y, q.w, q.h⟩ ⟨0, 0, W, H⟩ = true ∧
      partRows r.w q (List.range q.h.toNat) (partRows W r (List.range r.h.toNat) px) = partRows W ⟨q.x + r.x, q.y + r.y, q.w, q.h⟩ (List.range q.h.toNat) px := by
  obtain ⟨r1, r2, r3, r4, r5, r6⟩ := Rect.inside h1 h2 w1 w2 w3 w4
  obtain ⟨q1, q2, q3, q4, q5, q6⟩ := Rect.inside h3 h4 r2 (by omega) r5 (by omega)
  obtain ⟨e1, e2⟩ := Rect.within_of (F := ⟨q.x + r.x, q.y + r.y, q.w, q.h⟩) w2 w4 (by dsimp only; omega) (by dsimp only; omega) (by dsimp only; omega) (by dsimp only; omega) (by dsimp only; omega) (by dsimp only; omega)
  refine ⟨?_, e1, e2, ?_⟩
  · unfold Rect.shift
    rw [if_pos]
    · rfl
    · simp only [Bool.and_eq_true, within_iff]
      refine ⟨⟨⟨Rect.good_iff.2 (by omega), by omega⟩, by omega⟩, Rect.good_iff.2 (by simp only [Rect.move]; omega)⟩
  · have hpl : ((partRows W r (List.range r.h.toNat) px).length : Int) = r.w * r.h := by
      have := partRows_pic w1 w2 w3 w4 hl h1 h2
      simp only [isPic, Bool.and_eq_true, decide_eq_true_eq] at this
      exact this.2
    have hA := partRows_pic r2 (by omega) r5 (by omega) hpl h3 h4
    have hB := partRows_pic w1 w2 w3 w4 hl e1 e2
    simp only [isPic, Bool.and_eq_true, decide_eq_true_eq] at hA hB
    refine px_ext q2 q5 hA.2 hB.2 fun u v f1 f2 f3 f4 => ?_
    rw [partRows_px r2 (by omega) r5 (by omega) hpl q1 q2 q3 q4 q5 q6 f1 f2 f3 f4, partRows_px w1 w2 w3 w4 hl r1 r2 r3 r4 r5 r6 (by omega) (by omega) (by omega) (by omega)]
    have := partRows_px (R := ⟨q.x + r.x, q.y + r.y, q.w, q.h⟩) w1 w2 w3 w4 hl (by dsimp only; omega) (by dsimp only; omega) (by dsimp only; omega) (by dsimp only; omega) (by dsimp only; omega) (by dsimp only; omega) f1 f2 f3 f4
    refine Eq.trans ?_ this.symm
    dsimp only
    congr 1 <;> omega
end Go.Proofs.Ytilcggkbancniaa
