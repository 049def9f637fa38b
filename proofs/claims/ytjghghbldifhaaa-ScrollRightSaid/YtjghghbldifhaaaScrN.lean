/- What only moved: plain: alike pictures, an empty list, what the highest bytes are. -/
import Derived.Test.YtjghghbldifhaaaScrC
set_option linter.unusedVariables false
set_option linter.unusedSimpArgs false
namespace Go.Proofs.Ytjghghbldifhaaa
open Go.RowKit

theorem fits_same (W : Int) (pa : List Int) (t : Rect) (dx dy : Int) : fitsP W pa pa t dx dy = false := by
  unfold fitsP
  have : (cellsR t).any (otherAt W pa pa) = false := by
    rw [List.any_eq_false]
    intro c _
    simp [otherAt]
  rw [this, Bool.and_false]
theorem found_same (W H : Int) (pa : List Int) (box : Rect) : foundP W H pa pa box = none := find_miss fun i _ => by
  unfold tryAt tryP
  rw [fits_same, Bool.and_false]
theorem scroll_same (W H : Int) (xs : List Int) (l : List Rect) : scrollOf W H xs W H xs l = none := by
  unfold scrollOf
  split
  · exact found_same ..
  · rfl
theorem listOf_none : listOf 0 [] [] = [] := by rfl
theorem box_nil (W H : Int) : boxOf W H [] = Rect.zero := by
  unfold boxOf
  rw [show listOf 2 [] [⟨0, 0, W, H⟩] = listOf 0 [] [] from listOf_eq fun x y => by
    rw [show hasL [] x y = false from rfl]
    cases hasL [⟨0, 0, W, H⟩] x y <;> rfl, listOf_none]
  unfold boundsL
  rw [listOf_none]
  rfl
theorem try_zero (W : Int) (pa pb : List Int) (dx dy : Int) : tryP W pa pb Rect.zero dx dy = false := by
  have h : toQ Rect.zero dx dy = Rect.zero := by
    rcases toQ_form Rect.zero dx dy with h | h
    · exact h
    · exact absurd h.1 (by decide)
  unfold tryP fitsP
  rw [h, show cellsR Rect.zero = [] from rfl]
  simp
theorem scroll_nil (W H : Int) (xs : List Int) (W' H' : Int) (ys : List Int) : scrollOf W H xs W' H' ys [] = none := by
  unfold scrollOf
  split
  · rw [box_nil]
    exact find_miss fun i _ => try_zero ..
  · rfl
/-- Bits above the colour are turned. -/
def topX (m x : Int) : Int := bits .xor .u32 x m
theorem cut_top {x m : Int} (h₀ : 0 ≤ x) (h₁ : x ≤ 4294967295) (m₀ : 0 ≤ m) (m₁ : m ≤ 4294967295) (hm : m % 16777216 = 0) : cut24 (topX m x) = cut24 x ∧ 0 ≤ topX m x ∧ topX m x ≤ 4294967295 := by
  obtain ⟨a, rfl⟩ : ∃ a : Nat, (a : Int) = x := ⟨x.toNat, by omega⟩
  obtain ⟨b, rfl⟩ : ∃ b : Nat, (b : Int) = m := ⟨m.toNat, by omega⟩
  have hx : a ^^^ b < 2 ^ 32 := Nat.xor_lt_two_pow (by omega) (by omega)
  have h1 : (BitVec.ofInt 32 (a : Int)).toNat = a := by
    rw [BitVec.ofInt_natCast, BitVec.toNat_ofNat]; exact Nat.mod_eq_of_lt (by omega)
  have h2 : (BitVec.ofInt 32 (b : Int)).toNat = b := by
    rw [BitVec.ofInt_natCast, BitVec.toNat_ofNat]; exact Nat.mod_eq_of_lt (by omega)
  have h3 : topX (b : Int) (a : Int) = ((a ^^^ b : Nat) : Int) := by
    show IntKind.u32.wrap ((BitVec.ofInt 32 (a : Int) ^^^ BitVec.ofInt 32 (b : Int)).toNat : Int) = _
    rw [BitVec.toNat_xor, h1, h2]
    exact wraps_u32 _ (by omega) (by omega)
  have h4 : (a ^^^ b) % 2 ^ 24 = a % 2 ^ 24 := by
    rw [Nat.xor_mod_two_pow, show b % 2 ^ 24 = 0 by omega]
    simp
  unfold cut24
  rw [h3]
  omega
theorem map_top {m : Int} (m₀ : 0 ≤ m) (m₁ : m ≤ 4294967295) (hm : m % 16777216 = 0) {xs : List Int} (hx : ∀ x ∈ xs, 0 ≤ x ∧ x ≤ 4294967295) : (xs.map (topX m)).map cut24 = xs.map cut24 := by
  rw [List.map_map]
  exact List.map_congr_left fun x h => (cut_top (hx x h).1 (hx x h).2 m₀ m₁ hm).1
theorem scroll_top {m : Int} (m₀ : 0 ≤ m) (m₁ : m ≤ 4294967295) (hm : m % 16777216 = 0) (W H : Int) {xs : List Int} (hx : ∀ x ∈ xs, 0 ≤ x ∧ x ≤ 4294967295) (W' H' : Int) (ys : List Int) (l : List Rect) : scrollOf W H (xs.map (topX m)) W' H' ys l = scrollOf W H xs W' H' ys l := by
  unfold scrollOf
  rw [map_top m₀ m₁ hm hx, List.length_map]
theorem scroll_some {W H : Int} {xs : List Int} {W' H' : Int} {ys : List Int} {l : List Rect} {n : Nat} (h : scrollOf W H xs W' H' ys l = some n) : isPic W H xs.length = true ∧ isPic W' H' ys.length = true ∧ W = W' ∧ H = H' ∧ tryAt W (xs.map cut24) (ys.map cut24) (boxOf W H l) n = true := by
  unfold scrollOf at h
  split at h
  · rename_i hc
    simp only [Bool.and_eq_true, beq_iff_eq] at hc
    exact ⟨hc.1.1.1, hc.1.1.2, hc.1.2, hc.2, List.find?_some h⟩
  · cases h
end Go.Proofs.Ytjghghbldifhaaa
