/- What only moved: plain: a copy that is found makes its pixels right. -/
import Derived.Test.YtjghghbldifhaaaScrN
import Derived.Test.YtjghghbldifhaaaJustA
import Derived.Test.YtjghghbldifhaaaDifA
import Derived.Test.YtjghghbldifhaaaRegO
set_option linter.unusedVariables false
set_option linter.unusedSimpArgs false
namespace Go.Proofs.Ytjghghbldifhaaa
open Go.RowKit

theorem isum_nonneg {lo : Int} {f : Int → Int} (h : ∀ z, 0 ≤ f z) : ∀ {n : Nat}, 0 ≤ isum lo n f
  | 0 => Int.le_refl _
  | n + 1 => by
    show 0 ≤ isum lo n f + f (lo + n)
    have := isum_nonneg (lo := lo) h (n := n)
    have := h (lo + n)
    omega
theorem isum_pos {lo z : Int} {f : Int → Int} (h : ∀ z, 0 ≤ f z) (hz : 0 < f z) : ∀ {n : Nat}, lo ≤ z → z < lo + n → 0 < isum lo n f
  | 0, h1, h2 => by omega
  | n + 1, h1, h2 => by
    show 0 < isum lo n f + f (lo + n)
    by_cases e : z < lo + n
    · have := isum_pos h hz (n := n) h1 e
      have := h (lo + n)
      omega
    · obtain rfl : z = lo + n := by omega
      have := isum_nonneg (lo := lo) h (n := n)
      omega
theorem bit_nonneg (b : Bool) : 0 ≤ bit b := by cases b <;> decide
theorem cnt_lt {F G : Int → Int → Bool} (h : ∀ x y, F x y = true → G x y = true) {u v : Int} (hF : F u v = false) (hG : G u v = true) (u1 : 0 ≤ u) (u2 : u < 1000) (v1 : 0 ≤ v) (v2 : v < 1000) : cnt F < cnt G := by
  have e := cnt_add F (fun x y => G x y && !F x y) G (fun _ _ => false) fun x y => by
    have := h x y
    cases hf : F x y
    · cases G x y <;> rfl
    · rw [this hf]
      rfl
  have e0 : cnt (fun _ _ => false) = 0 := by
    unfold cnt
    exact isum_zero fun z _ _ => isum_zero fun _ _ _ => rfl
  have e1 : 0 < cnt (fun x y => G x y && !F x y) := by
    unfold cnt
    refine isum_pos (z := v) (fun z => isum_nonneg fun _ => bit_nonneg _) ?_ (by unfold LO; omega) (by unfold LO WIDE; omega)
    refine isum_pos (z := u) (fun z => bit_nonneg _) ?_ (by unfold LO; omega) (by unfold LO WIDE; omega)
    show 0 < bit (G u v && !F u v)
    rw [hF, hG]
    decide
  omega
/-- What holds of a step that fits. -/
structure Fit (W H : Int) (pa pb : List Int) (box t : Rect) (dx dy : Int) : Prop where
  emp : t.empty = false
  x0 : 0 ≤ t.x
  x1 : t.x + t.w ≤ W
  y0 : 0 ≤ t.y
  y1 : t.y + t.h ≤ H
  fx0 : 0 ≤ t.x - dx
  fx1 : t.x - dx + t.w ≤ W
  fy0 : 0 ≤ t.y - dy
  fy1 : t.y - dy + t.h ≤ H
  inb : t.within box = true
  same : ∀ u v, t.has u v = true → pxAt W pb u v = pxAt W pa (u - dx) (v - dy)
  other : ∃ u v, t.has u v = true ∧ pxAt W pb u v ≠ pxAt W pa u v
theorem has_cells {t : Rect} {u v : Int} (h : t.has u v = true) : (u, v) ∈ cellsR t := by
  obtain ⟨he, h1, h2, h3, h4⟩ := Rect.has_inside.1 h
  have := cellsR_mem (t := t) (i := (u - t.x).toNat) (j := (v - t.y).toNat) (by omega) (by omega)
  rwa [show t.x + (((u - t.x).toNat : Nat) : Int) = u by omega, show t.y + (((v - t.y).toNat : Nat) : Int) = v by omega] at this
theorem try_fit {W H : Int} (h1 : 1 ≤ W) (h2 : W ≤ 256) (h3 : 1 ≤ H) (h4 : H ≤ 256) {pa pb : List Int} {box : Rect} (hb : box = Rect.zero ∨ InBox W H box) {dx dy : Int} (h : tryP W pa pb box dx dy = true) : Fit W H pa pb box (toQ box dx dy) dx dy := by
  unfold tryP fitsP at h
  rw [Bool.and_eq_true, Bool.and_eq_true, List.all_eq_true, List.any_eq_true] at h
  obtain ⟨_, hall, c, hc, hother⟩ := h
  rcases toQ_form box dx dy with hz | ⟨e1, e2, e3, e4, e5, e6, e7⟩
  · rw [hz] at hc
    cases hc
  rcases hb with rfl | ⟨c1, c2, c3, c4, c5⟩
  · exact absurd e1 (by decide)
  have ge := Rect.empty_iff.1 c1
  obtain ⟨t, ht⟩ : ∃ t, toQ box dx dy = t := ⟨_, rfl⟩
  rw [ht] at hall hc e2 e3 e4 e5 e6 e7 ⊢
  have hemp : t.empty = false := Rect.empty_iff.2 (by omega)
  refine ⟨hemp, by omega, by omega, by omega, by omega, by omega, by omega, by omega, by omega, ?_, ?_, ?_⟩
  · refine within_pxJ hemp fun x y hh => ?_
    obtain ⟨_, g1, g2, g3, g4⟩ := Rect.has_inside.1 hh
    exact Rect.has_inside.2 ⟨c1, by omega, by omega, by omega, by omega⟩
  · intro u v hh
    have := hall _ (has_cells hh)
    unfold movedAt at this
    exact beq_iff_eq.1 this
  · have hbd := cellsR_bd hc
    refine ⟨c.1, c.2, Rect.has_inside.2 ⟨hemp, by omega, by omega, by omega, by omega⟩, ?_⟩
    unfold otherAt at hother
    exact bne_iff_ne.1 hother
theorem Fit.whole {W H : Int} {pa pb : List Int} {box t : Rect} {dx dy : Int} (h1 : 1 ≤ W) (h2 : W ≤ 256) (h3 : 1 ≤ H) (h4 : H ≤ 256) (h : Fit W H pa pb box t dx dy) : t.within ⟨0, 0, W, H⟩ = true := by
  have g1 := h.x0
  have g2 := h.x1
  have g3 := h.y0
  have g4 := h.y1
  refine within_pxJ h.emp fun x y hh => ?_
  obtain ⟨_, k1, k2, k3, k4⟩ := Rect.has_inside.1 hh
  exact Rect.has_inside.2 ⟨Rect.empty_iff.2 (by dsimp only; omega), by dsimp only; omega, by dsimp only; omega, by dsimp only; omega, by dsimp only; omega⟩
theorem Fit.from {W H : Int} {pa pb : List Int} {box t : Rect} {dx dy : Int} (h1 : 1 ≤ W) (h2 : W ≤ 256) (h3 : 1 ≤ H) (h4 : H ≤ 256) (h : Fit W H pa pb box t dx dy) :
    farB dx = false ∧ farB dy = false ∧ ∃ F, t.shift (-dx) (-dy) = F ∧ F.empty = false ∧ F.within ⟨0, 0, W, H⟩ = true := by
  have g0 := Rect.empty_iff.1 h.emp
  have g1 := h.x0
  have g2 := h.x1
  have g3 := h.y0
  have g4 := h.y1
  have g5 := h.fx0
  have g6 := h.fx1
  have g7 := h.fy0
  have g8 := h.fy1
  have hF : t.shift (-dx) (-dy) = ⟨t.x + -dx, t.y + -dy, t.w, t.h⟩ := by
    unfold Rect.shift Rect.move
    rw [Rect.good_iff.2 (show _ from by omega), Rect.good_iff.2 (show _ from by dsimp only; omega), within_iff.2 (show (-4194304 : Int) ≤ -dx ∧ -dx ≤ 4194304 by omega), within_iff.2 (show (-4194304 : Int) ≤ -dy ∧ -dy ≤ 4194304 by omega)]
    rfl
  have hFe : Rect.empty ⟨t.x + -dx, t.y + -dy, t.w, t.h⟩ = false := Rect.empty_iff.2 (by dsimp only; omega)
  refine ⟨by simp [farB]; omega, by simp [farB]; omega, _, hF, hFe, within_pxJ hFe fun x y hh => ?_⟩
  obtain ⟨_, k1, k2, k3, k4⟩ := Rect.has_inside.1 hh
  dsimp only at k1 k2 k3 k4
  exact Rect.has_inside.2 ⟨Rect.empty_iff.2 (by dsimp only; omega), by dsimp only; omega, by dsimp only; omega, by dsimp only; omega, by dsimp only; omega⟩
/-- What is left unlike, and what was turned. -/
theorem fit_left {W H : Int} (h1 : 1 ≤ W) (h2 : W ≤ 256) (h3 : 1 ≤ H) (h4 : H ≤ 256) {pa pb pc : List Int} {box t : Rect} {dx dy : Int} (h : Fit W H pa pb box t dx dy) (hc : CopyTold W H pa pc t dx dy 0) (u v : Int) :
    unF W H pc pb u v = (unF W H pa pb u v && !t.has u v) ∧ (unF W H pa pc u v = true → t.has u v = true) := by
  unfold unF
  by_cases hp : hasPx W H u v = true
  · obtain ⟨k1, k2, k3, k4⟩ := (hasPx_iff h1 h2 h3 h4).1 hp
    have e := (hc.2 u v k1 k2 k3 k4).1
    rw [hp, e]
    cases hh : t.has u v
    · rw [if_neg (by simp)]
      simp
    · rw [if_pos ⟨rfl, rfl⟩, h.same u v hh]
      simp
  · simp only [Bool.not_eq_true] at hp
    rw [hp]
    simp
theorem hasL_one (t : Rect) (x y : Int) : hasL [t] x y = t.has x y := by simp [hasL]
theorem fit_lists {Wn Hn : Nat} (h1 : 1 ≤ Wn) (h2 : Wn ≤ 256) (h3 : 1 ≤ Hn) (h4 : Hn ≤ 256) {pa pb pc : List Int} {box t : Rect} {dx dy : Int} (h : Fit Wn Hn pa pb box t dx dy) (hc : CopyTold Wn Hn pa pc t dx dy 0) :
    listOf 2 (listU (unF Wn Hn pc pb) Wn Hn) [t] = [] ∧ listOf 1 (listU (unF Wn Hn pa pc) Wn Hn) [t] = [] ∧ listOf 1 (listU (unF Wn Hn pa pb) Wn Hn) [t] = listU (unF Wn Hn pc pb) Wn Hn ∧ listOf 0 (listU (unF Wn Hn pc pb) Wn Hn) [] = listU (unF Wn Hn pc pb) Wn Hn ∧
      areaL (listU (unF Wn Hn pc pb) Wn Hn) < areaL (listU (unF Wn Hn pa pb) Wn Hn) := by
  have hl := fit_left (W := Wn) (H := Hn) (by omega) (by omega) (by omega) (by omega) h hc
  have i1 := unF_in h1 h2 h3 h4 pc pb
  have i2 := unF_in h1 h2 h3 h4 pa pc
  have i3 := unF_in h1 h2 h3 h4 pa pb
  have none : listOf 0 ([] : List Rect) ([] : List Rect) = ([] : List Rect) := by rfl
  have m2 : ∀ p q, meant 2 p q = (p && q) := fun _ _ => rfl
  have m1 : ∀ p q, meant 1 p q = (p && !q) := fun _ _ => rfl
  refine ⟨?_, ?_, ?_, listU_self i1 (by omega) (by omega), ?_⟩
  · refine (listOf_eq (how' := 0) (a' := []) (b' := []) fun x y => ?_).trans none
    rw [listU_has i1 (by omega) (by omega), hasL_one, m2, (hl x y).1]
    show _ = false
    cases t.has x y <;> simp
  · refine (listOf_eq (how' := 0) (a' := []) (b' := []) fun x y => ?_).trans none
    rw [listU_has i2 (by omega) (by omega), hasL_one, m1]
    show _ = false
    have := (hl x y).2
    cases hh : unF Wn Hn pa pc x y
    · rfl
    · rw [this hh]
      rfl
  · refine listU_form i1 fun x y => ?_
    rw [listU_has i3 (by omega) (by omega), hasL_one, m1, (hl x y).1]
  · rw [areaL_cnt, areaL_cnt]
    obtain ⟨u, v, hh, hne⟩ := h.other
    obtain ⟨_, k1, k2, k3, k4⟩ := Rect.has_inside.1 hh
    have g1 := h.x0
    have g2 := h.x1
    have g3 := h.y0
    have g4 := h.y1
    refine cnt_lt (u := u) (v := v) (fun x y hx => ?_) ?_ ?_ (by omega) (by omega) (by omega) (by omega)
    · rw [listU_has i1 (by omega) (by omega), (hl x y).1, Bool.and_eq_true] at hx
      rw [listU_has i3 (by omega) (by omega)]
      exact hx.1
    · rw [listU_has i1 (by omega) (by omega), (hl u v).1, hh]
      simp
    · rw [listU_has i3 (by omega) (by omega)]
      unfold unF
      rw [(hasPx_iff (by omega) (by omega) (by omega) (by omega)).2 (by omega), Bool.true_and]
      exact bne_iff_ne.2 (Ne.symm hne)
end Go.Proofs.Ytjghghbldifhaaa
