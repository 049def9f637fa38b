/- Plain laws of pictures, pixel by pixel. No program in sight. -/
import Derived.Test.YtjghghbldifhaaaPixK
set_option linter.unusedVariables false
set_option linter.unusedSimpArgs false
namespace Go.Proofs.Ytjghghbldifhaaa
open Go.RowKit

theorem cell_row {W u v t a b : Int} (hW : 1 ≤ W) (h0 : 0 ≤ u) (h1 : u < W) (h2 : 0 ≤ a) (h3 : a + b ≤ W) : (t * W + a ≤ v * W + u ∧ v * W + u < t * W + a + b) ↔ (v = t ∧ a ≤ u ∧ u < a + b) := by
  rcases Int.lt_trichotomy v t with h | h | h
  · have : (v + 1) * W ≤ t * W := Int.mul_le_mul_of_nonneg_right (by omega) (by omega)
    rw [Int.add_mul, Int.one_mul] at this
    omega
  · subst h
    omega
  · have : (t + 1) * W ≤ v * W := Int.mul_le_mul_of_nonneg_right (by omega) (by omega)
    rw [Int.add_mul, Int.one_mul] at this
    omega
theorem fillRow_get (f : Nat) (v : Int) (m : Nat) (px : List Int) (k : Nat) (h : f + m ≤ px.length) : (fillRow f v m px).getD k 0 = if f ≤ k ∧ k < f + m then v else px.getD k 0 := by
  induction m with
  | zero => rw [if_neg (by omega)]; rfl
  | succ m ih =>
    rw [fillRow_succ]
    by_cases hk : k = f + m
    · subst hk
      rw [if_pos (by omega)]
      have : f + m < (fillRow f v m px).length := by rw [fillRow_length]; omega
      simp [List.getD_eq_getElem?_getD, List.getElem?_set, this]
    · have e : ((fillRow f v m px).set (f + m) v).getD k 0 = (fillRow f v m px).getD k 0 := by
        simp [List.getD_eq_getElem?_getD, List.getElem?_set, Ne.symm hk]
      rw [e, ih (by omega)]
      by_cases h1 : f ≤ k ∧ k < f + m
      · rw [if_pos h1, if_pos (by omega)]
      · rw [if_neg h1, if_neg (by omega)]
theorem px_bd {W H : Int} {n : Nat} (h1 : 1 ≤ W) (h2 : W ≤ 256) (h3 : 1 ≤ H) (h4 : H ≤ 256) (hn : (n : Int) = W * H) {u v : Int} (hu0 : 0 ≤ u) (hu1 : u < W) (hv0 : 0 ≤ v) (hv1 : v < H) : 0 ≤ v * W + u ∧ (v * W + u).toNat < n := by
  obtain ⟨m1, m2, m3⟩ := place_bd h1 h2 h3 h4 hu0 hu1 hv0 hv1
  omega
/-- Inside a picture, or nowhere. -/
def Rect.fits (R : Rect) (W H : Int) : Prop := R = Rect.zero ∨ 0 ≤ R.x ∧ 1 ≤ R.w ∧ R.x + R.w ≤ W ∧ 0 ≤ R.y ∧ 1 ≤ R.h ∧ R.y + R.h ≤ H
def Rect.holds (R : Rect) (u v : Int) : Prop := R.x ≤ u ∧ u < R.x + R.w ∧ R.y ≤ v ∧ v < R.y + R.h
instance (R : Rect) (u v : Int) : Decidable (R.holds u v) := by unfold Rect.holds; infer_instance

theorem fillRows_px {W H : Int} {R : Rect} {c : Int} {px : List Int} (w1 : 1 ≤ W) (w2 : W ≤ 256) (w3 : 1 ≤ H) (w4 : H ≤ 256) (hl : (px.length : Int) = W * H) (hR : R.fits W H) {u v : Int} (hu0 : 0 ≤ u) (hu1 : u < W) (hv0 : 0 ≤ v) (hv1 : v < H) :
    pxAt W (fillRows W R c (List.range R.h.toNat) px) u v = if R.holds u v then c else pxAt W px u v := by
  rcases hR with hz | ⟨r1, r2, r3, r4, r5, r6⟩
  · subst hz
    rw [if_neg (by simp [Rect.zero, Rect.holds])]
    rfl
  have key : ∀ n : Nat, (n : Int) ≤ R.h → pxAt W (fillRows W R c (List.range n) px) u v = if R.x ≤ u ∧ u < R.x + R.w ∧ R.y ≤ v ∧ v < R.y + n then c else pxAt W px u v := by
    intro n
    induction n with
    | zero => intro _; rw [if_neg (by omega)]; rfl
    | succ n ih =>
      intro hn
      have ih := ih (by omega)
      obtain ⟨b1, b2⟩ := px_bd w1 w2 w3 w4 hl hu0 hu1 hv0 hv1
      have hf := rowAt_fits (R := R) w1 w2 w3 w4 hl r1 r2 r3 r4 r6 (i := n) (by omega)
      rw [List.range_succ, fillRows_snoc]
      unfold pxAt at ih ⊢
      rw [fillRow_get _ _ _ _ _ (by rw [fillRows_length]; exact hf), ih]
      have hc := cell_row (W := W) (u := u) (v := v) (t := R.y + n) (a := R.x) (b := R.w) w1 hu0 hu1 r1 r3
      obtain ⟨m1, m2, m3⟩ := place_bd w1 w2 w3 w4 (x := R.x) (y := R.y + n) (by omega) (by omega) (by omega) (by omega)
      have he : (rowAt W R n ≤ (v * W + u).toNat ∧ (v * W + u).toNat < rowAt W R n + R.w.toNat) ↔ (v = R.y + n ∧ R.x ≤ u ∧ u < R.x + R.w) := by
        rw [← hc]; unfold rowAt; omega
      by_cases h : v = R.y + n ∧ R.x ≤ u ∧ u < R.x + R.w
      · rw [if_pos (he.2 h), if_pos (by omega)]
      · rw [if_neg (fun h' => h (he.1 h'))]
        by_cases h2 : R.x ≤ u ∧ u < R.x + R.w ∧ R.y ≤ v ∧ v < R.y + n
        · rw [if_pos h2, if_pos (by omega)]
        · rw [if_neg h2, if_neg (by omega)]
  rw [key R.h.toNat (by omega), Int.toNat_of_nonneg (by omega)]
  rfl

theorem blitRows_px {W H p q x y : Int} {R : Rect} {src px : List Int} (w1 : 1 ≤ W) (w2 : W ≤ 256) (w3 : 1 ≤ H) (w4 : H ≤ 256) (hl : (px.length : Int) = W * H) (g1 : 1 ≤ p) (g2 : p ≤ 256) (g3 : 1 ≤ q) (g4 : q ≤ 256) (hs : (src.length : Int) = p * q)
    (hR : R = Rect.zero ∨ 0 ≤ R.x ∧ 1 ≤ R.w ∧ R.x + R.w ≤ W ∧ 0 ≤ R.y ∧ 1 ≤ R.h ∧ R.y + R.h ≤ H ∧ x ≤ R.x ∧ R.x + R.w ≤ x + p ∧ y ≤ R.y ∧ R.y + R.h ≤ y + q) {u v : Int} (hu0 : 0 ≤ u) (hu1 : u < W) (hv0 : 0 ≤ v) (hv1 : v < H) :
    pxAt W (blitRows W p x y R src (List.range R.h.toNat) px) u v = if R.holds u v then pxAt p src (u - x) (v - y) else pxAt W px u v := by
  rcases hR with hz | ⟨r1, r2, r3, r4, r5, r6, r7, r8, r9, r10⟩
  · subst hz
    rw [if_neg (by simp [Rect.zero, Rect.holds])]
    rfl
  have key : ∀ n : Nat, (n : Int) ≤ R.h → pxAt W (blitRows W p x y R src (List.range n) px) u v = if R.x ≤ u ∧ u < R.x + R.w ∧ R.y ≤ v ∧ v < R.y + n then pxAt p src (u - x) (v - y) else pxAt W px u v := by
    intro n
    induction n with
    | zero => intro _; rw [if_neg (by omega)]; rfl
    | succ n ih =>
      intro hn
      have ih := ih (by omega)
      obtain ⟨b1, b2⟩ := px_bd w1 w2 w3 w4 hl hu0 hu1 hv0 hv1
      have hf := rowAt_fits (R := R) w1 w2 w3 w4 hl r1 r2 r3 r4 r6 (i := n) (by omega)
      obtain ⟨n1, n2, n3⟩ := place_bd g1 g2 g3 g4 (x := R.x - x) (y := R.y + n - y) (by omega) (by omega) (by omega) (by omega)
      obtain ⟨n4, n5, n6⟩ := place_bd g1 g2 g3 g4 (x := R.x + R.w - 1 - x) (y := R.y + n - y) (by omega) (by omega) (by omega) (by omega)
      have hln : ((src.drop (srcAt p x y R n)).take R.w.toNat).length = R.w.toNat := by
        simp only [List.length_take, List.length_drop]
        unfold srcAt
        omega
      rw [List.range_succ, blitRows_snoc]
      unfold pxAt at ih ⊢
      rw [putL_get _ _ _ _ (by rw [hln, blitRows_length]; exact hf), ih, hln]
      have hc := cell_row (W := W) (u := u) (v := v) (t := R.y + n) (a := R.x) (b := R.w) w1 hu0 hu1 r1 r3
      obtain ⟨m1, m2, m3⟩ := place_bd w1 w2 w3 w4 (x := R.x) (y := R.y + n) (by omega) (by omega) (by omega) (by omega)
      have he : (rowAt W R n ≤ (v * W + u).toNat ∧ (v * W + u).toNat < rowAt W R n + R.w.toNat) ↔ (v = R.y + n ∧ R.x ≤ u ∧ u < R.x + R.w) := by
        rw [← hc]; unfold rowAt; omega
      by_cases h : v = R.y + n ∧ R.x ≤ u ∧ u < R.x + R.w
      · rw [if_pos (he.2 h), if_pos (by omega)]
        obtain ⟨hv, h1, h2⟩ := h
        have ek : (v * W + u).toNat - rowAt W R n = (u - R.x).toNat := by subst hv; unfold rowAt; omega
        rw [ek]
        simp only [List.getD_eq_getElem?_getD, List.getElem?_take, List.getElem?_drop]
        rw [if_pos (by omega)]
        congr 2
        subst hv
        unfold srcAt
        omega
      · rw [if_neg (fun h' => h (he.1 h'))]
        by_cases h2 : R.x ≤ u ∧ u < R.x + R.w ∧ R.y ≤ v ∧ v < R.y + n
        · rw [if_pos h2, if_pos (by omega)]
        · rw [if_neg h2, if_neg (by omega)]
  rw [key R.h.toNat (by omega), Int.toNat_of_nonneg (by omega)]
  rfl

/-- Two pictures of one size are one where all pixels are. -/
theorem px_ext {W H : Int} {a b : List Int} (w1 : 1 ≤ W) (w3 : 1 ≤ H) (ha : (a.length : Int) = W * H) (hb : (b.length : Int) = W * H) (h : ∀ u v, 0 ≤ u → u < W → 0 ≤ v → v < H → pxAt W a u v = pxAt W b u v) : a = b := by
  apply List.ext_getElem (by omega)
  intro k h1 h2
  have hk := h ((k : Int) % W) ((k : Int) / W) (Int.emod_nonneg _ (by omega)) (Int.emod_lt_of_pos _ (by omega)) (Int.ediv_nonneg (by omega) (by omega)) (Int.ediv_lt_of_lt_mul (by omega) (by rw [Int.mul_comm]; omega))
  unfold pxAt at hk
  have e : (((k : Int) / W) * W + (k : Int) % W).toNat = k := by
    have := Int.ediv_mul_add_emod (k : Int) W
    omega
  rw [e] at hk
  simpa [List.getD_eq_getElem?_getD, List.getElem?_eq_getElem h1, List.getElem?_eq_getElem h2] using hk
theorem Rect.has_iff {r : Rect} {u v : Int} : r.has u v = true ↔ r.good = true ∧ r.holds u v := by
  simp only [Rect.has, Bool.and_eq_true, within_iff, Rect.holds]
  constructor
  · rintro ⟨h1, h2, h3⟩; exact ⟨h1, by omega⟩
  · rintro ⟨h1, h2⟩; exact ⟨h1, by omega, by omega⟩
theorem Rect.has_zero (u v : Int) : Rect.zero.has u v = false := by
  have : ¬ (Rect.zero.has u v = true) := fun h => by
    have := (Rect.has_iff.1 h).2
    simp [Rect.holds, Rect.zero] at this
    omega
  simpa using this
theorem Rect.has_empty {r : Rect} (h : r.empty = true) (u v : Int) : r.has u v = false := by
  have : ¬ (r.has u v = true) := fun h2 => by
    obtain ⟨g, h3⟩ := Rect.has_iff.1 h2
    have gi := Rect.good_iff.1 g
    have : r.empty = false := Rect.empty_iff.2 (by unfold Rect.holds at h3; omega)
    rw [h] at this; cases this
  simpa using this
theorem Rect.and_has (a b : Rect) (u v : Int) : (Rect.and a b).has u v = (a.has u v && b.has u v) := by
  cases e1 : a.empty with
  | true => rw [Rect.and_empty_l e1, Rect.has_zero, Rect.has_empty e1]; rfl
  | false =>
    cases e2 : b.empty with
    | true => rw [Rect.and_empty_r e2, Rect.has_zero, Rect.has_empty e2, Bool.and_false]
    | false =>
      have g1 := Rect.empty_iff.1 e1
      have g2 := Rect.empty_iff.1 e2
      have k1 : a.good = true := Rect.good_iff.2 (by omega)
      have k2 : b.good = true := Rect.good_iff.2 (by omega)
      by_cases f : (Rect.meet a b).w ≤ 0 ∨ (Rect.meet a b).h ≤ 0
      · rw [Rect.and_flat f, Rect.has_zero]
        have : ¬ ((a.has u v && b.has u v) = true) := fun h => by
          simp only [Bool.and_eq_true, Rect.has_iff, Rect.holds] at h
          simp only [Rect.meet, mx, mn] at f
          (repeat' split at f) <;> omega
        exact (Bool.eq_false_iff.2 this).symm
      · rw [Rect.and_meet e1 e2 (by omega) (by omega), Bool.eq_iff_iff]
        have k3 : (Rect.meet a b).good = true := by
          refine Rect.good_iff.2 ?_
          simp only [Rect.meet, mx, mn] at f ⊢
          (repeat' split at f) <;> (repeat' split) <;> omega
        simp only [Bool.and_eq_true, Rect.has_iff, k1, k2, k3, true_and]
        simp only [Rect.holds, Rect.meet, mx_eq, mn_eq]
        constructor <;> intro h <;> omega
theorem blitAt_has {W H p q x y : Int} {clip : Rect} (h1 : 1 ≤ W) (h2 : W ≤ 256) (h3 : 1 ≤ H) (h4 : H ≤ 256) (g1 : 1 ≤ p) (g2 : p ≤ 256) (g3 : 1 ≤ q) (g4 : q ≤ 256) {u v : Int} (hu0 : 0 ≤ u) (hu1 : u < W) (hv0 : 0 ≤ v) (hv1 : v < H) :
    (blitAt W H p q x y clip).holds u v ↔ (clip.has u v && (Rect.shift ⟨0, 0, p, q⟩ x y).has u v) = true := by
  have ha : (Rect.has ⟨0, 0, W, H⟩ u v) = true := (hasPx_iff h1 h2 h3 h4).2 ⟨hu0, hu1, hv0, hv1⟩
  have hh : (blitAt W H p q x y clip).has u v = (clip.has u v && (Rect.shift ⟨0, 0, p, q⟩ x y).has u v) := by
    unfold blitAt
    rw [Rect.and_has, Rect.and_has, ha, Bool.true_and]
  rw [← hh, Rect.has_iff]
  obtain ⟨hin, _⟩ := blitAt_in (clip := clip) (x := x) (y := y) rfl h1 h2 h3 h4 g1 g2 g3 g4
  constructor
  · intro h
    refine ⟨?_, h⟩
    rcases hin with hz | hz
    · rw [hz]; decide
    · exact Rect.good_iff.2 (by omega)
  · exact And.right
end Go.Proofs.Ytjghghbldifhaaa
