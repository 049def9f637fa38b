/- Plain definitions and facts on rectangles: no program in sight. -/
import Derived.WalkKit
set_option linter.unusedVariables false
set_option linter.unusedSimpArgs false
namespace Go.Proofs.Ytilcggkbancniaa

/-- A rectangle's four numbers. -/
structure Rect where
  x : Int
  y : Int
  w : Int
  h : Int
  deriving DecidableEq

def within (n a b : Int) : Bool := decide (a ≤ n) && decide (n ≤ b)
def okSpan (at_ size : Int) : Bool := within at_ (-1048576) 1048576 && within size 0 (1048576 - at_)
def Rect.good (r : Rect) : Bool := okSpan r.x r.w && okSpan r.y r.h
def Rect.area (r : Rect) : Int := if r.good then r.w * r.h else 0
def Rect.empty (r : Rect) : Bool := r.area == 0
def Rect.has (r : Rect) (x y : Int) : Bool := r.good && (within x r.x (r.x + r.w - 1) && within y r.y (r.y + r.h - 1))

def mx (x y : Int) : Int := if x < y then y else x
def mn (x y : Int) : Int := if y < x then y else x
theorem mx_eq (x y : Int) : mx x y = max x y := by unfold mx; omega
theorem mn_eq (x y : Int) : mn x y = min x y := by unfold mn; omega
def Rect.zero : Rect := ⟨0, 0, 0, 0⟩
def Rect.meet (a b : Rect) : Rect := ⟨mx a.x b.x, mx a.y b.y, mn (a.x + a.w) (b.x + b.w) - mx a.x b.x, mn (a.y + a.h) (b.y + b.h) - mx a.y b.y⟩
def Rect.join (a b : Rect) : Rect := ⟨mn a.x b.x, mn a.y b.y, mx (a.x + a.w) (b.x + b.w) - mn a.x b.x, mx (a.y + a.h) (b.y + b.h) - mn a.y b.y⟩
def Rect.and (a b : Rect) : Rect := if a.empty || b.empty || decide ((a.meet b).w ≤ 0) || decide ((a.meet b).h ≤ 0) then Rect.zero else a.meet b
def Rect.eqB (a b : Rect) : Bool := a.x == b.x && (a.y == b.y && (a.w == b.w && a.h == b.h))
def Rect.within (a b : Rect) : Bool := a.empty || Rect.eqB (a.and b) a
def Rect.or (a b : Rect) : Rect := if a.empty then (if b.empty then Rect.zero else b) else if b.empty then a else a.join b
def Rect.move (r : Rect) (dx dy : Int) : Rect := ⟨r.x + dx, r.y + dy, r.w, r.h⟩
def Rect.shift (r : Rect) (dx dy : Int) : Rect := if r.good && Go.Proofs.Ytilcggkbancniaa.within dx (-4194304) 4194304 && Go.Proofs.Ytilcggkbancniaa.within dy (-4194304) 4194304 && (r.move dx dy).good then r.move dx dy else Rect.zero

theorem Rect.eqB_iff {a b : Rect} : Rect.eqB a b = true ↔ a = b := by
  cases a; cases b; simp [Rect.eqB]
theorem within_iff {n a b : Int} : within n a b = true ↔ a ≤ n ∧ n ≤ b := by simp [within]
theorem okSpan_iff {a s : Int} : okSpan a s = true ↔ -1048576 ≤ a ∧ a ≤ 1048576 ∧ 0 ≤ s ∧ s ≤ 1048576 - a := by
  simp only [okSpan, Bool.and_eq_true, within_iff]; omega
theorem Rect.good_iff {r : Rect} : r.good = true ↔ (-1048576 ≤ r.x ∧ r.x ≤ 1048576 ∧ 0 ≤ r.w ∧ r.w ≤ 1048576 - r.x) ∧ (-1048576 ≤ r.y ∧ r.y ≤ 1048576 ∧ 0 ≤ r.h ∧ r.h ≤ 1048576 - r.y) := by
  simp only [Rect.good, Bool.and_eq_true, okSpan_iff]
theorem Rect.empty_iff {r : Rect} : r.empty = false ↔ (-1048576 ≤ r.x ∧ r.x ≤ 1048576 ∧ 1 ≤ r.w ∧ r.w ≤ 1048576 - r.x) ∧ (-1048576 ≤ r.y ∧ r.y ≤ 1048576 ∧ 1 ≤ r.h ∧ r.h ≤ 1048576 - r.y) := by
  unfold Rect.empty Rect.area
  constructor
  · intro h
    have hg : r.good = true := by cases hg : r.good <;> simp [hg] at h ⊢
    have hi := Rect.good_iff.1 hg
    have hm : r.w * r.h ≠ 0 := by simpa [hg] using h
    have h1 : r.w ≠ 0 := fun e => hm (by rw [e]; simp)
    have h2 : r.h ≠ 0 := fun e => hm (by rw [e]; simp)
    omega
  · intro h
    have hg : r.good = true := Rect.good_iff.2 (by omega)
    have : r.w * r.h ≠ 0 := Int.mul_ne_zero (by omega) (by omega)
    simp [hg, this]
theorem Rect.area_bd (r : Rect) : 0 ≤ r.area ∧ r.area ≤ 4398046511104 := by
  unfold Rect.area
  split
  · rename_i h
    have hi := Rect.good_iff.1 h
    constructor
    · exact Int.mul_nonneg (by omega) (by omega)
    · calc r.w * r.h ≤ 2097152 * 2097152 := Int.mul_le_mul (by omega) (by omega) (by omega) (by omega)
        _ = 4398046511104 := by decide
  · omega
theorem mx_bd {x y l u : Int} (h1 : l ≤ x) (h2 : x ≤ u) (h3 : l ≤ y) (h4 : y ≤ u) : l ≤ mx x y ∧ mx x y ≤ u := by unfold mx; omega
theorem mn_bd {x y l u : Int} (h1 : l ≤ x) (h2 : x ≤ u) (h3 : l ≤ y) (h4 : y ≤ u) : l ≤ mn x y ∧ mn x y ≤ u := by unfold mn; omega
theorem Rect.and_empty_l {a b : Rect} (h : a.empty = true) : a.and b = Rect.zero := by simp [Rect.and, h]
theorem Rect.and_empty_r {a b : Rect} (h : b.empty = true) : a.and b = Rect.zero := by simp [Rect.and, h]
theorem Rect.and_flat {a b : Rect} (h : (a.meet b).w ≤ 0 ∨ (a.meet b).h ≤ 0) : a.and b = Rect.zero := by
  unfold Rect.and; rw [if_pos]; simp; omega
theorem Rect.and_meet {a b : Rect} (h1 : a.empty = false) (h2 : b.empty = false) (h3 : ¬ (a.meet b).w ≤ 0) (h4 : ¬ (a.meet b).h ≤ 0) : a.and b = a.meet b := by
  unfold Rect.and; rw [if_neg]; simp [h1, h2]; omega
end Go.Proofs.Ytilcggkbancniaa
