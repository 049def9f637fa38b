/- The walks of package vignetteref03: Blit. -/
/- The walks of package vignetteref03: Copy. -/
/- The walks of package vignetteref03: Copy, the way that copies. -/
/- The walks of package vignetteref03: Part. -/
import Derived.Test.YtjghghbldifhaaaRefD
import Derived.StillTail
import Derived.StillTailTactics
set_option linter.unusedVariables false
set_option linter.unusedSimpArgs false
namespace Go.Proofs.Ytjghghbldifhaaa
open Go.RowKit

/-- Does the reference's Blit look at a pixel at all? -/
def blitNear (x y X Y : Int) : Bool := decide (x ≤ X) && (decide (y ≤ Y) && (decide (-4194304 ≤ x) && decide (-4194304 ≤ y)))
theorem blitNear_far {x y X Y : Int} (h : ¬ (x ≤ X ∧ y ≤ Y ∧ -4194304 ≤ x ∧ -4194304 ≤ y)) : blitNear x y X Y = false := by
  cases hh : blitNear x y X Y
  · rfl
  · simp [blitNear] at hh; omega
/-- What the reference's Blit makes of a pixel. -/
def blitPx (W x y W' H' : Int) (zs : List Int) (clip : Rect) (i : Nat) (p : Int) : Int :=
  if (blitNear x y ((i : Int) % W) ((i : Int) / W) && (Rect.has clip ((i : Int) % W) ((i : Int) / W) && picHas W' H' ((i : Int) % W - x) ((i : Int) / W - y))) = true then cut24 (zs.getD (((i : Int) / W - y) * W' + ((i : Int) % W - x)).toNat 0) else p

end Go.Proofs.Ytjghghbldifhaaa
set_option linter.unusedVariables false
set_option linter.unusedSimpArgs false
namespace Go.Proofs.Ytjghghbldifhaaa
open Go.RowKit
attribute [local go_sem ↓] eq_rect

/-- What the reference's Copy makes of a pixel. -/
def copyPx (W : Int) (to : Rect) (dx dy : Int) (xs : List Int) (i : Nat) (p : Int) : Int :=
  if Rect.has to ((i : Int) % W) ((i : Int) / W) = true then xs.getD ((i : Int) - dx - dy * W).toNat 0 else p
end Go.Proofs.Ytjghghbldifhaaa
set_option linter.unusedVariables false
set_option linter.unusedSimpArgs false
namespace Go.Proofs.Ytjghghbldifhaaa
open Go.RowKit
attribute [local go_sem ↓] eq_rect

theorem divmod {k : Nat} {W : Int} (h : 1 ≤ W) : (k : Int) / W * W + (k : Int) % W = k := by
  have := Int.mul_ediv_add_emod (k : Int) W
  rw [Int.mul_comm] at this
  exact this
theorem div_lt {k n : Nat} {W H : Int} (h : 1 ≤ W) (hk : k < n) (hn : (n : Int) = W * H) : (k : Int) / W < H := by
  apply Int.ediv_lt_of_lt_mul (by omega)
  rw [Int.mul_comm]
  omega

end Go.Proofs.Ytjghghbldifhaaa
set_option linter.unusedVariables false
set_option linter.unusedSimpArgs false
namespace Go.Proofs.Ytjghghbldifhaaa
open Go.RowKit

theorem shows_cut {w : World} {ab ao lo m : Nat} {xs : List Int} (h : ∀ i, i < xs.length → w.cell? ⟨ab, ao + i, none⟩ = some (.int .u32 (xs.getD i 0))) (hf : lo + m ≤ xs.length) : Shows w (some ⟨ab, ao + lo, none⟩) (nums .u32 ((xs.drop lo).take m)) := by
  intro _
  refine ⟨_, rfl, fun j u hu => ?_⟩
  have hl : ((xs.drop lo).take m).length = m := by simp; omega
  have hj : j < m := by
    rcases Nat.lt_or_ge j m with h1 | h1
    · exact h1
    · rw [List.getElem?_eq_none (by rw [nums_length, hl]; exact h1)] at hu; cases hu
  rw [nums_get (by rw [hl]; exact hj)] at hu
  injection hu with hu
  rw [add_plain, Nat.add_assoc, h (lo + j) (by omega), ← hu]
  simp [List.getD_eq_getElem?_getD, List.getElem?_take, hj, List.getElem?_drop]

end Go.Proofs.Ytjghghbldifhaaa
