/- The law TilesOne. -/
import Derived.Test.YtjghghbldifhaaaTileF
set_option linter.unusedVariables false
set_option linter.unusedSimpArgs false
namespace Go.Proofs.Ytjghghbldifhaaa
open Go.RowKit

/-- Is there such a pixel, and in which tile? -/
def hitB (w h x y : Int) : Bool := sizeOk w h && decide ((0 ≤ x ∧ x < w) ∧ 0 ≤ y ∧ y < h)
def hitAt (w x y : Int) : Nat := (y / 16).toNat * tilesIn w + (x / 16).toNat
theorem hitB_iff {w h x y : Int} : hitB w h x y = true ↔ sizeOk w h = true ∧ (0 ≤ x ∧ x < w) ∧ 0 ≤ y ∧ y < h := by
  unfold hitB
  rw [Bool.and_eq_true, decide_eq_true_eq]
theorem tile_has {w h x y : Int} (hok : sizeOk w h = true) {i : Nat} (hi : i < tileN w h) : (tileR w h i).has x y = (hitB w h x y && decide (i = hitAt w x y)) := by
  obtain ⟨P, Q, hP, hQ, p1, q1, hq⟩ := tileR_spec hok hi
  obtain ⟨⟨w1, w2⟩, w3, w4⟩ := sizeOk_iff.1 hok
  have a1 := tilesIn_bd w1 w2
  rw [hq, Bool.eq_iff_iff, Rect.has_inside, Bool.and_eq_true, hitB_iff, decide_eq_true_eq, Rect.empty_iff]
  have hdm := Nat.div_add_mod i (tilesIn w)
  rw [← hP, ← hQ] at hdm
  dsimp only
  unfold hitAt
  constructor
  · rintro ⟨_, h1, h2, h3, h4⟩
    have e1 : (x / 16).toNat = P := by omega
    have e2 : (y / 16).toNat = Q := by omega
    rw [e1, e2]
    refine ⟨⟨hok, by omega, by omega⟩, ?_⟩
    rw [Nat.mul_comm Q]
    omega
  · rintro ⟨⟨_, h1, h2⟩, he⟩
    have hx : (x / 16).toNat < tilesIn w := by unfold tilesIn; omega
    have eP : P = (x / 16).toNat := by rw [hP, he, Nat.mul_comm, Nat.mul_add_mod, Nat.mod_eq_of_lt hx]
    have eQ : Q = (y / 16).toNat := by rw [hQ, he, Nat.mul_comm, Nat.mul_add_div (by omega), Nat.div_eq_of_lt hx, Nat.add_zero]
    refine ⟨by omega, by omega, by omega, by omega, by omega⟩
theorem hitAt_lt {w h x y : Int} (hh : hitB w h x y = true) : hitAt w x y < tileN w h := by
  obtain ⟨hok, ⟨x1, x2⟩, y1, y2⟩ := hitB_iff.1 hh
  obtain ⟨⟨w1, w2⟩, w3, w4⟩ := sizeOk_iff.1 hok
  have hN : tileN w h = tilesIn w * tilesIn h := by unfold tileN; rw [hok]; rfl
  have hx : (x / 16).toNat < tilesIn w := by unfold tilesIn; omega
  have hy : (y / 16).toNat + 1 ≤ tilesIn h := by unfold tilesIn; omega
  have h1 := Nat.mul_le_mul_right (tilesIn w) hy
  rw [hN, Nat.mul_comm (tilesIn w)]
  unfold hitAt
  rw [Nat.add_mul] at h1
  omega
theorem tileN_none {w h : Int} (hok : sizeOk w h = false) : tileN w h = 0 := by unfold tileN; rw [hok]; rfl
theorem tile_ok {w h : Int} {i : Nat} (hi : i < tileN w h) : sizeOk w h = true := by
  cases hok : sizeOk w h
  · rw [tileN_none hok] at hi; omega
  · rfl
theorem has_corner {r : Rect} (h : r.empty = false) : r.has r.x r.y = true := by
  have := Rect.empty_iff.1 h
  exact Rect.has_inside.2 ⟨h, by omega, by omega, by omega, by omega⟩
theorem touch_one {w h x y : Int} {i : Nat} (hi : i < tileN w h) : touchB [⟨x, y, 1, 1⟩] (tileR w h i) = (hitB w h x y && decide (i = hitAt w x y)) := by
  have hok := tile_ok hi
  rw [← tile_has hok hi]
  unfold touchB
  simp only [List.any_cons, List.any_nil, Bool.or_false]
  obtain ⟨t, ht⟩ : ∃ t, tileR w h i = t := ⟨_, rfl⟩
  rw [ht]
  cases hem : (Rect.and ⟨x, y, 1, 1⟩ t).empty
  · have h1 := has_corner hem
    rw [Rect.and_has, Bool.and_eq_true] at h1
    obtain ⟨_, g1, g2, g3, g4⟩ := Rect.has_inside.1 h1.1
    dsimp only at g1 g2 g3 g4
    have e1 : (Rect.and ⟨x, y, 1, 1⟩ t).x = x := by omega
    have e2 : (Rect.and ⟨x, y, 1, 1⟩ t).y = y := by omega
    rw [e1, e2] at h1
    rw [h1.2]
    rfl
  · cases hh : t.has x y
    · rfl
    · exfalso
      obtain ⟨he, g1, g2, g3, g4⟩ := Rect.has_inside.1 hh
      have hg := Rect.empty_iff.1 he
      have h2 : Rect.has ⟨x, y, 1, 1⟩ x y = true := Rect.has_inside.2 ⟨Rect.empty_iff.2 (by dsimp only; omega), by dsimp only; omega, by dsimp only; omega, by dsimp only; omega, by dsimp only; omega⟩
      have h3 : (Rect.and ⟨x, y, 1, 1⟩ t).has x y = true := by rw [Rect.and_has, h2, hh]; rfl
      rw [(Rect.has_inside.1 h3).1] at hem
      cases hem
theorem touched_one (w h x y : Int) : touchedOf [⟨x, y, 1, 1⟩] w h = if hitB w h x y then [hitAt w x y] else [] := by
  have hm : ∀ i, i ∈ touchedOf [⟨x, y, 1, 1⟩] w h ↔ hitB w h x y = true ∧ i = hitAt w x y := fun i => by
    rw [touchedOf_mem]
    constructor
    · rintro ⟨h1, h2⟩
      rw [touch_one h1, Bool.and_eq_true, decide_eq_true_eq] at h2
      exact h2
    · rintro ⟨h1, rfl⟩
      have hlt := hitAt_lt h1
      exact ⟨hlt, by rw [touch_one hlt, h1]; simp⟩
  have hs := touchedOf_sorted [⟨x, y, 1, 1⟩] w h
  cases hh : hitB w h x y
  · rw [if_neg (by simp)]
    refine List.eq_nil_iff_forall_not_mem.2 fun i hi => ?_
    have := ((hm i).1 hi).1
    rw [hh] at this
    cases this
  · rw [if_pos rfl]
    match hT : touchedOf [⟨x, y, 1, 1⟩] w h, hs, hm with
    | [], _, hm => exact absurd ((hm (hitAt w x y)).2 ⟨hh, rfl⟩) (by simp)
    | [a], _, hm => rw [((hm a).1 (by simp)).2]
    | a :: b :: l, hs, hm =>
      have h1 := ((hm a).1 (by simp)).2
      have h2 := ((hm b).1 (by simp)).2
      have h3 := (List.pairwise_cons.1 hs).1 b (by simp)
      omega
/-- What the loop of TilesOne has counted. -/
theorem one_snoc {w h x y : Int} {k : Nat} (hk : k < tileN w h) : ((tileR w h k).has x y = true → (if hitB w h x y && decide (hitAt w x y < k) then (1 : Int) else 0) = 0 ∧ (if hitB w h x y && decide (hitAt w x y < k + 1) then (1 : Int) else 0) = 1 ∧ (if hitB w h x y && decide (hitAt w x y < k + 1) then (hitAt w x y : Int) else -1) = k) ∧
    ((tileR w h k).has x y = false → (if hitB w h x y && decide (hitAt w x y < k + 1) then (1 : Int) else 0) = (if hitB w h x y && decide (hitAt w x y < k) then (1 : Int) else 0) ∧ (if hitB w h x y && decide (hitAt w x y < k + 1) then (hitAt w x y : Int) else -1) = (if hitB w h x y && decide (hitAt w x y < k) then (hitAt w x y : Int) else -1)) := by
  rw [tile_has (tile_ok hk) hk]
  cases hh : hitB w h x y
  · simp
  · by_cases he : k = hitAt w x y
    · rw [← he]
      simp
    · have h1 : decide (hitAt w x y < k + 1) = decide (hitAt w x y < k) := by
        rw [decide_eq_decide]
        omega
      rw [h1, decide_eq_false he]
      simp

end Go.Proofs.Ytjghghbldifhaaa
