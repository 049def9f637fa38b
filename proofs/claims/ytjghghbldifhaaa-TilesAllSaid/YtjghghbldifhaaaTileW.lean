/- The plain laws of TilesAll: tiles are all of a picture, apart. -/
import Derived.Test.YtjghghbldifhaaaTileH
import Derived.Test.YtjghghbldifhaaaTileG
import Derived.Test.YtjghghbldifhaaaTileR
set_option linter.unusedVariables false
set_option linter.unusedSimpArgs false
namespace Go.Proofs.Ytjghghbldifhaaa
open Go.RowKit

def allOf (w h : Int) : List Rect := [⟨0, 0, w, h⟩]
theorem hasL_one (t : Rect) (x y : Int) : hasL [t] x y = t.has x y := by simp [hasL]
theorem all_has {w h : Int} (hok : sizeOk w h = true) (x y : Int) : Rect.has ⟨0, 0, w, h⟩ x y = hitB w h x y := by
  obtain ⟨⟨w1, w2⟩, w3, w4⟩ := sizeOk_iff.1 hok
  have hne : Rect.empty ⟨0, 0, w, h⟩ = false := Rect.empty_iff.2 (by dsimp only; omega)
  rw [Bool.eq_iff_iff, Rect.has_inside, hitB_iff]
  dsimp only
  constructor
  · rintro ⟨_, h1, h2, h3, h4⟩
    exact ⟨hok, ⟨h1, by omega⟩, h3, by omega⟩
  · rintro ⟨_, ⟨h1, h2⟩, h3, h4⟩
    exact ⟨hne, h1, by omega, h3, by omega⟩
theorem hasL_gridTo {w h : Int} (hok : sizeOk w h = true) (x y : Int) : ∀ k, k ≤ tileN w h → hasL (gridTo w h k) x y = (hitB w h x y && decide (hitAt w x y < k))
  | 0, _ => by simp [gridTo, hasL]
  | k + 1, hk => by
    have ih := hasL_gridTo hok x y k (by omega)
    rw [gridTo_succ, show hasL (gridTo w h k ++ [tileR w h k]) x y = (hasL (gridTo w h k) x y || hasL [tileR w h k] x y) by unfold hasL; rw [List.any_append], ih, hasL_one, tile_has hok (by omega)]
    cases hitB w h x y
    · rfl
    · rw [Bool.true_and, Bool.true_and, Bool.true_and, Bool.eq_iff_iff]
      simp
      omega
theorem cnt_none : cnt (fun _ _ => false) = 0 := by
  have := areaL_cnt []
  rw [show hasL [] = fun _ _ => false from rfl] at this
  rw [← this]
  rfl
/-- What is counted in one tile more. -/
theorem cnt_tile {w h : Int} (hok : sizeOk w h = true) {k : Nat} (hk : k < tileN w h) (P : Int → Int → Bool) :
    cnt (fun x y => P x y && (hitB w h x y && decide (hitAt w x y < k))) + cnt (fun x y => P x y && (tileR w h k).has x y) = cnt (fun x y => P x y && (hitB w h x y && decide (hitAt w x y < k + 1))) := by
  have := cnt_add (fun x y => P x y && (hitB w h x y && decide (hitAt w x y < k))) (fun x y => P x y && (tileR w h k).has x y) (fun x y => P x y && (hitB w h x y && decide (hitAt w x y < k + 1))) (fun _ _ => false) fun x y => by
    rw [tile_has hok hk]
    cases P x y
    · rfl
    · cases hitB w h x y
      · rfl
      · by_cases h1 : hitAt w x y < k
        · have h2 : ¬ k = hitAt w x y := by omega
          have h3 : hitAt w x y < k + 1 := by omega
          simp [h1, h2, h3, bit]
        · by_cases h2 : k = hitAt w x y
          · have h3 : hitAt w x y < k + 1 := by omega
            simp [h1, ← h2, bit]
          · have h3 : ¬ hitAt w x y < k + 1 := by omega
            simp [h1, h2, h3, bit]
  rw [this, cnt_none, Int.add_zero]
theorem cnt_all {w h : Int} (P : Int → Int → Bool) : cnt (fun x y => P x y && (hitB w h x y && decide (hitAt w x y < tileN w h))) = cnt (fun x y => P x y && hitB w h x y) := cnt_congr fun x y => by
  cases hh : hitB w h x y
  · rfl
  · rw [decide_eq_true (hitAt_lt hh)]; rfl
theorem grid_area {w h : Int} (hok : sizeOk w h = true) : ∀ k, k ≤ tileN w h → areaSum (gridTo w h k) = cnt (fun x y => true && (hitB w h x y && decide (hitAt w x y < k)))
  | 0, _ => by
    rw [show (fun x y => true && (hitB w h x y && decide (hitAt w x y < 0))) = (fun _ _ => false) from by funext x y; simp, cnt_none]
    rfl
  | k + 1, hk => by
    have ih := grid_area hok k (by omega)
    have h1 : (tileR w h k).area = cnt (fun x y => true && (tileR w h k).has x y) := by
      rw [← areaL_one, areaL_cnt]
      exact cnt_congr fun x y => by rw [hasL_one]; rfl
    rw [gridTo_succ, areaSum_append, ih, show areaSum [tileR w h k] = (tileR w h k).area from by simp [areaSum], h1, cnt_tile hok (by omega)]
theorem grid_whole {w h : Int} (hok : sizeOk w h = true) : areaSum (gridOf w h) = w * h := by
  have h1 := grid_area hok (tileN w h) (Nat.le_refl _)
  rw [cnt_all] at h1
  show areaSum (gridTo w h (tileN w h)) = _
  rw [h1]
  have h2 : (⟨0, 0, w, h⟩ : Rect).area = cnt (fun x y => true && hitB w h x y) := by
    rw [← areaL_one, areaL_cnt]
    exact cnt_congr fun x y => by rw [hasL_one, all_has hok]; rfl
  obtain ⟨⟨w1, w2⟩, w3, w4⟩ := sizeOk_iff.1 hok
  rw [← h2, area_good (Rect.empty_iff.2 (by dsimp only; omega))]
theorem grid_same {w h : Int} (hok : sizeOk w h = true) : listOf 0 (gridOf w h) [] = listOf 0 (allOf w h) [] := listOf_eq fun x y => by
  have h1 := hasL_gridTo hok x y (tileN w h) (Nat.le_refl _)
  rw [show gridOf w h = gridTo w h (tileN w h) from rfl, h1, show hasL (allOf w h) x y = hitB w h x y by unfold allOf; rw [hasL_one, all_has hok]]
  cases hh : hitB w h x y
  · rfl
  · rw [decide_eq_true (hitAt_lt hh)]; rfl
theorem meant2 (p q : Bool) : meant 2 p q = (p && q) := rfl
theorem split_area {w h : Int} (hok : sizeOk w h = true) (l : List Rect) : ∀ k, k ≤ tileN w h → areaSum (cutL l w h (List.range k)) = cnt (fun x y => hasL l x y && (hitB w h x y && decide (hitAt w x y < k)))
  | 0, _ => by
    rw [show (fun x y => hasL l x y && (hitB w h x y && decide (hitAt w x y < 0))) = (fun _ _ => false) from by funext x y; simp, cnt_none]
    rfl
  | k + 1, hk => by
    have ih := split_area hok l k (by omega)
    have h1 : cnt (fun x y => meant 2 (hasL l x y) (hasL [tileR w h k] x y)) = cnt (fun x y => hasL l x y && (tileR w h k).has x y) := cnt_congr fun x y => by rw [meant2, hasL_one]
    rw [List.range_succ, cutL_snoc, areaSum_append, ih, listOf_area, h1, cnt_tile hok (by omega)]
theorem hasL_inAll {w h : Int} (hok : sizeOk w h = true) (l : List Rect) (x y : Int) : hasL (listOf 2 l (allOf w h)) x y = (hasL l x y && hitB w h x y) := by
  rw [listOf_has, meant2]
  unfold allOf
  rw [hasL_one, all_has hok]
theorem split_whole {w h : Int} (hok : sizeOk w h = true) (l : List Rect) : areaSum (splitOf l w h) = areaL (listOf 2 l (allOf w h)) := by
  unfold splitOf
  rw [split_area hok l _ (Nat.le_refl _), cnt_all, areaL_cnt]
  exact cnt_congr fun x y => by rw [hasL_inAll hok]
theorem hasL_split {w h : Int} (hok : sizeOk w h = true) (l : List Rect) (x y : Int) : hasL (splitOf l w h) x y = (hasL l x y && hitB w h x y) := by
  unfold splitOf
  rw [hasL_cut]
  congr 1
  have h1 := hasL_gridTo hok x y (tileN w h) (Nat.le_refl _)
  have h2 : hasL (gridTo w h (tileN w h)) x y = ((List.range (tileN w h)).any fun i => hasL [tileR w h i] x y) := by
    unfold gridTo hasL
    rw [List.any_map]
    congr 1
    funext i
    simp
  rw [← h2, h1]
  cases hh : hitB w h x y
  · rfl
  · rw [decide_eq_true (hitAt_lt hh)]; rfl
theorem split_same {w h : Int} (hok : sizeOk w h = true) (l : List Rect) : listOf 0 (splitOf l w h) [] = listOf 0 (listOf 2 l (allOf w h)) [] := listOf_eq fun x y => by
  rw [hasL_split hok, hasL_inAll hok]
/-- The tile that a piece's corner lies in. -/
def tileOf (w : Int) (q : Rect) : Nat := hitAt w q.x q.y
theorem piece_in {w h : Int} (hok : sizeOk w h = true) {l : List Rect} {k : Nat} (hk : k < tileN w h) {q : Rect} (hq : q ∈ listOf 2 l [tileR w h k]) : q.empty = false ∧ tileOf w q = k ∧ ∀ x y, q.has x y = true → (tileR w h k).has x y = true := by
  obtain ⟨g1, _⟩ := listOf_good hq
  have hin : ∀ x y, q.has x y = true → (tileR w h k).has x y = true := fun x y hxy => by
    have h1 : hasL (listOf 2 l [tileR w h k]) x y = true := by
      unfold hasL
      exact List.any_eq_true.2 ⟨q, hq, hxy⟩
    rw [listOf_has, meant2, Bool.and_eq_true, hasL_one] at h1
    exact h1.2
  refine ⟨g1, ?_, hin⟩
  have h2 := hin _ _ (has_corner g1)
  rw [tile_has hok hk, Bool.and_eq_true, decide_eq_true_eq] at h2
  exact h2.2.symm
theorem eqB_self (a : Rect) : Rect.eqB a a = true := by simp [Rect.eqB]
/-- What lies within another one, pixel by pixel. -/
theorem within_px {q t : Rect} (hq : q.empty = false) (h : ∀ x y, q.has x y = true → t.has x y = true) : q.within t = true := by
  have g := Rect.empty_iff.1 hq
  have c1 := Rect.has_inside.1 (h _ _ (has_corner hq))
  have c2 := Rect.has_inside.1 (h (q.x + q.w - 1) (q.y + q.h - 1) (Rect.has_inside.2 ⟨hq, by omega, by omega, by omega, by omega⟩))
  have hm : q.and t = q := by
    unfold Rect.and
    rw [hq, c1.1]
    have hmeet : q.meet t = q := by
      unfold Rect.meet
      simp only [mx_eq, mn_eq]
      obtain ⟨a, b, c, d⟩ := q
      dsimp only at *
      congr 1 <;> omega
    rw [hmeet, if_neg]
    simp
    omega
  unfold Rect.within
  rw [hm, eqB_self, Bool.or_true]
theorem within_has {q t : Rect} (hq : q.empty = false) (h : q.within t = true) : t.has q.x q.y = true := by
  unfold Rect.within at h
  rw [hq, Bool.false_or] at h
  have he : q.and t = q := by
    obtain ⟨a, b, c, d⟩ := q
    simp [Rect.eqB] at h
    generalize Rect.and ⟨a, b, c, d⟩ t = m at *
    obtain ⟨e, f, i, j⟩ := m
    simp_all
  have h1 := has_corner hq
  rw [← he] at h1
  have h2 : (q.and t).has q.x q.y = true := by
    have := has_corner hq
    rw [he]; exact this
  rw [Rect.and_has, Bool.and_eq_true] at h2
  exact h2.2
theorem split_piece {w h : Int} (hok : sizeOk w h = true) {l : List Rect} {q : Rect} (hq : q ∈ splitOf l w h) : q.empty = false ∧ tileOf w q < tileN w h ∧ ∀ k, k < tileN w h → q.within (tileR w h k) = decide (k = tileOf w q) := by
  unfold splitOf cutL at hq
  obtain ⟨k, hk, hq⟩ := List.mem_flatMap.1 hq
  rw [List.mem_range] at hk
  obtain ⟨h1, h2, h3⟩ := piece_in hok hk hq
  refine ⟨h1, by omega, fun j hj => ?_⟩
  by_cases hjk : j = k
  · subst hjk
    rw [within_px h1 h3, h2, decide_eq_true rfl]
  · rw [decide_eq_false (by omega)]
    cases hw : q.within (tileR w h j)
    · rfl
    · exfalso
      have := within_has h1 hw
      rw [tile_has hok hj, Bool.and_eq_true, decide_eq_true_eq] at this
      exact hjk (this.2.trans h2)
theorem pairwise_const {α : Type} {R : α → α → Prop} : ∀ {l : List α}, (∀ p ∈ l, ∀ q ∈ l, R p q) → l.Pairwise R
  | [], _ => List.Pairwise.nil
  | p :: l, h => List.Pairwise.cons (fun q hq => h p (by simp) q (by simp [hq])) (pairwise_const fun a ha b hb => h a (by simp [ha]) b (by simp [hb]))
theorem split_rises {w h : Int} (hok : sizeOk w h = true) (l : List Rect) : (splitOf l w h).Pairwise fun p q => tileOf w p ≤ tileOf w q := by
  unfold splitOf cutL
  rw [List.pairwise_flatMap]
  refine ⟨fun k hk => ?_, ?_⟩
  · rw [List.mem_range] at hk
    exact pairwise_const fun p hp q hq => by rw [(piece_in hok hk hp).2.1, (piece_in hok hk hq).2.1]; exact Nat.le_refl _
  · refine List.pairwise_lt_range.imp_of_mem fun {i j} hi hj hij => fun p hp q hq => ?_
    rw [List.mem_range] at hi hj
    rw [(piece_in hok hi hp).2.1, (piece_in hok hj hq).2.1]
    omega
/-- Which tiles a cut list has. -/
theorem touch_split {w h : Int} (hok : sizeOk w h = true) (l : List Rect) {k : Nat} (hk : k < tileN w h) : (listOf 2 (splitOf l w h) [tileR w h k]).length = 0 ↔ touchB l (tileR w h k) = false := by
  have hpx : ∀ x y, hasL (listOf 2 (splitOf l w h) [tileR w h k]) x y = (hasL l x y && (tileR w h k).has x y) := fun x y => by
    rw [listOf_has, meant2, hasL_one, hasL_split hok, tile_has hok hk]
    cases hasL l x y <;> cases hitB w h x y <;> simp
  constructor
  · intro h0
    have hnil := List.eq_nil_of_length_eq_zero h0
    rw [hnil] at hpx
    cases ht : touchB l (tileR w h k)
    · rfl
    · exfalso
      unfold touchB at ht
      obtain ⟨r, hr, hrt⟩ := List.any_eq_true.1 ht
      have hne : (r.and (tileR w h k)).empty = false := by simpa using hrt
      have hc := has_corner hne
      rw [Rect.and_has, Bool.and_eq_true] at hc
      have := hpx (r.and (tileR w h k)).x (r.and (tileR w h k)).y
      rw [hc.2, show hasL l (r.and (tileR w h k)).x (r.and (tileR w h k)).y = true from by unfold hasL; exact List.any_eq_true.2 ⟨r, hr, hc.1⟩] at this
      cases this
  · intro ht
    have : listOf 2 (splitOf l w h) [tileR w h k] = listOf 0 [] [] := listOf_eq fun x y => by
      have h1 := hpx x y
      rw [listOf_has] at h1
      rw [h1]
      cases h2 : hasL l x y && (tileR w h k).has x y
      · rfl
      · exfalso
        rw [Bool.and_eq_true] at h2
        unfold hasL at h2
        obtain ⟨r, hr, hrx⟩ := List.any_eq_true.1 h2.1
        have h3 : (r.and (tileR w h k)).has x y = true := by rw [Rect.and_has, hrx, h2.2]; rfl
        have h4 := (Rect.has_inside.1 h3).1
        have h5 : touchB l (tileR w h k) = true := by
          unfold touchB
          exact List.any_eq_true.2 ⟨r, hr, by rw [h4]; rfl⟩
        rw [ht] at h5
        cases h5
    rw [this]
    rfl
end Go.Proofs.Ytjghghbldifhaaa
