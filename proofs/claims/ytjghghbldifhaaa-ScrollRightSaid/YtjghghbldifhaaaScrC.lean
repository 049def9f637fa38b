/- What only moved: plain: boxes, steps, what is found. -/
import Derived.Test.YtjghghbldifhaaaScrB
set_option linter.unusedVariables false
set_option linter.unusedSimpArgs false
namespace Go.Proofs.Ytjghghbldifhaaa
open Go.RowKit

def boxOf (W H : Int) (l : List Rect) : Rect := boundsL (listOf 2 l [⟨0, 0, W, H⟩])
def InBox (W H : Int) (q : Rect) : Prop := q.empty = false ∧ 0 ≤ q.x ∧ 0 ≤ q.y ∧ q.x + q.w ≤ W ∧ q.y + q.h ≤ H
theorem or_inBox {W H : Int} (b1 : W ≤ 256) (b2 : H ≤ 256) {a b : Rect} (ha : a = Rect.zero ∨ InBox W H a) (hb : InBox W H b) : InBox W H (a.or b) := by
  rcases ha with rfl | ha
  · have : Rect.or Rect.zero b = b := by
      unfold Rect.or
      rw [if_pos (by decide), hb.1]
      rfl
    rw [this]
    exact hb
  · obtain ⟨a1, a2, a3, a4, a5⟩ := ha
    obtain ⟨c1, c2, c3, c4, c5⟩ := hb
    have : a.or b = a.join b := by
      unfold Rect.or
      rw [a1, c1]
      rfl
    rw [this]
    have g1 := Rect.empty_iff.1 a1
    have g2 := Rect.empty_iff.1 c1
    have hj : (a.join b).x = min a.x b.x ∧ (a.join b).y = min a.y b.y ∧ (a.join b).x + (a.join b).w = max (a.x + a.w) (b.x + b.w) ∧ (a.join b).y + (a.join b).h = max (a.y + a.h) (b.y + b.h) := ⟨by simp only [Rect.join, mn_eq], by simp only [Rect.join, mn_eq], by simp only [Rect.join, mx_eq, mn_eq]; omega, by simp only [Rect.join, mx_eq, mn_eq]; omega⟩
    refine ⟨Rect.empty_iff.2 ?_, ?_, ?_, ?_, ?_⟩ <;> omega
theorem bounds_inBox {W H : Int} (b1 : W ≤ 256) (b2 : H ≤ 256) : ∀ (l : List Rect) (acc : Rect), (acc = Rect.zero ∨ InBox W H acc) → (∀ q ∈ l, q.empty = true ∨ InBox W H q) → l.foldl Rect.or acc = Rect.zero ∨ InBox W H (l.foldl Rect.or acc)
  | [], _, h, _ => h
  | q :: l, acc, h, hl => by
    refine bounds_inBox b1 b2 l _ ?_ fun p hp => hl p (List.mem_cons_of_mem _ hp)
    rcases hl q (List.mem_cons_self ..) with he | hq
    · rcases h with rfl | ha
      · left
        unfold Rect.or
        rw [if_pos (by decide), he]
        rfl
      · right
        have : acc.or q = acc := by
          unfold Rect.or
          rw [ha.1, he]
          rfl
        rw [this]
        exact ha
    · exact .inr (or_inBox b1 b2 h hq)
theorem boxOf_in {W H : Int} (h1 : 1 ≤ W) (h2 : W ≤ 256) (h3 : 1 ≤ H) (h4 : H ≤ 256) (l : List Rect) : boxOf W H l = Rect.zero ∨ InBox W H (boxOf W H l) := by
  unfold boxOf boundsL boundsOf
  refine bounds_inBox h2 h4 _ _ (.inl rfl) fun q hq => ?_
  cases g1 : q.empty
  case true => exact .inl rfl
  refine .inr ?_
  have g := Rect.empty_iff.1 g1
  have hin : ∀ x y, q.x ≤ x → x < q.x + q.w → q.y ≤ y → y < q.y + q.h → 0 ≤ x ∧ x < W ∧ 0 ≤ y ∧ y < H := fun x y k1 k2 k3 k4 => by
    have h5 : hasL (listOf 0 (listOf 2 l [⟨0, 0, W, H⟩]) []) x y = true := hasL_iff.2 ⟨q, hq, g1, k1, k2, k3, k4⟩
    rw [listOf_has, show hasL [] x y = false from rfl, meant0, listOf_has, show ∀ p r, meant 2 p r = (p && r) from fun _ _ => rfl, Bool.and_eq_true] at h5
    obtain ⟨r, hr, e, e1, e2, e3, e4⟩ := hasL_iff.1 h5.2
    rw [List.mem_singleton] at hr
    subst hr
    dsimp only at e1 e2 e3 e4
    omega
  have c1 := hin q.x q.y (by omega) (by omega) (by omega) (by omega)
  have c2 := hin (q.x + q.w - 1) (q.y + q.h - 1) (by omega) (by omega) (by omega) (by omega)
  exact ⟨g1, by omega, by omega, by omega, by omega⟩
theorem cellsR_bd {t : Rect} {c : Int × Int} (h : c ∈ cellsR t) : t.x ≤ c.1 ∧ c.1 < t.x + t.w ∧ t.y ≤ c.2 ∧ c.2 < t.y + t.h := by
  unfold cellsR rowsR rowR at h
  rw [List.mem_flatMap] at h
  obtain ⟨j, hj, h⟩ := h
  rw [List.mem_map] at h
  obtain ⟨i, hi, rfl⟩ := h
  rw [List.mem_range] at hi hj
  dsimp only
  omega
theorem shift_form {r : Rect} {dx dy : Int} (h : (r.shift dx dy).empty = false) : r.shift dx dy = r.move dx dy := by
  unfold Rect.shift at h ⊢
  split
  · rfl
  · rename_i hn
    rw [if_neg hn] at h
    exact absurd h (by decide)
theorem and_form (a b : Rect) : a.and b = Rect.zero ∨ (a.empty = false ∧ b.empty = false ∧ a.and b = a.meet b ∧ 0 < (a.meet b).w ∧ 0 < (a.meet b).h) := by
  unfold Rect.and
  split
  · exact .inl rfl
  · rename_i hn
    simp only [Bool.or_eq_true, decide_eq_true_eq, not_or, Bool.not_eq_true] at hn
    obtain ⟨⟨⟨e1, e2⟩, e3⟩, e4⟩ := hn
    exact .inr ⟨e1, e2, rfl, by omega, by omega⟩
theorem toQ_form (box : Rect) (dx dy : Int) : toQ box dx dy = Rect.zero ∨ (box.empty = false ∧ 0 < (toQ box dx dy).w ∧ 0 < (toQ box dx dy).h ∧ (toQ box dx dy).x = max box.x (box.x + dx) ∧ (toQ box dx dy).y = max box.y (box.y + dy) ∧ (toQ box dx dy).x + (toQ box dx dy).w = min (box.x + box.w) (box.x + dx + box.w) ∧ (toQ box dx dy).y + (toQ box dx dy).h = min (box.y + box.h) (box.y + dy + box.h)) := by
  unfold toQ
  rcases and_form box (box.shift dx dy) with h | ⟨e1, e2, e3, e4, e5⟩
  · exact .inl h
  · refine .inr ?_
    rw [e3]
    rw [shift_form e2] at e4 e5 ⊢
    exact ⟨e1, e4, e5, by simp only [Rect.meet, Rect.move, mx_eq], by simp only [Rect.meet, Rect.move, mx_eq], by simp only [Rect.meet, Rect.move, mx_eq, mn_eq]; omega, by simp only [Rect.meet, Rect.move, mx_eq, mn_eq]; omega⟩
theorem step_in {W H : Int} (h1 : 1 ≤ W) (h2 : W ≤ 256) (h3 : 1 ≤ H) (h4 : H ≤ 256) {box : Rect} (hb : box = Rect.zero ∨ InBox W H box) (dx dy : Int) : StepIn W H (toQ box dx dy) dx dy := by
  rcases toQ_form box dx dy with h | ⟨e1, e2, e3, e4, e5, e6, e7⟩
  · rw [h]
    refine ⟨by decide, fun c hc => ?_⟩
    have := cellsR_bd hc
    simp [Rect.zero] at this
    omega
  · rcases hb with rfl | ⟨c1, c2, c3, c4, c5⟩
    · exact absurd e1 (by decide)
    · refine ⟨by omega, fun c hc => ?_⟩
      have := cellsR_bd hc
      exact ⟨(hasPx_iff h1 h2 h3 h4).2 (by omega), (hasPx_iff h1 h2 h3 h4).2 (by omega)⟩
/-- The steps in their order: 0 d, 0 -d, d 0, -d 0. -/
def stepAt (n : Nat) : Int × Int := match n % 4 with
  | 0 => (0, ((n / 4 + 1 : Nat) : Int))
  | 1 => (0, -((n / 4 + 1 : Nat) : Int))
  | 2 => (((n / 4 + 1 : Nat) : Int), 0)
  | _ => (-((n / 4 + 1 : Nat) : Int), 0)
def tryAt (W : Int) (pa pb : List Int) (box : Rect) (n : Nat) : Bool := tryP W pa pb box (stepAt n).1 (stepAt n).2
def manyOf (W H : Int) : Nat := 4 * ((max W H).toNat - 1)
def foundP (W H : Int) (pa pb : List Int) (box : Rect) : Option Nat := (List.range (manyOf W H)).find? (tryAt W pa pb box)
theorem stepAt0 (d : Nat) : stepAt (4 * d) = (0, ((d + 1 : Nat) : Int)) := by
  unfold stepAt
  rw [show 4 * d % 4 = 0 by omega, show 4 * d / 4 = d by omega]
  rfl
theorem stepAt1 (d : Nat) : stepAt (4 * d + 1) = (0, -((d + 1 : Nat) : Int)) := by
  unfold stepAt
  rw [show (4 * d + 1) % 4 = 1 by omega, show (4 * d + 1) / 4 = d by omega]
  rfl
theorem stepAt2 (d : Nat) : stepAt (4 * d + 2) = (((d + 1 : Nat) : Int), 0) := by
  unfold stepAt
  rw [show (4 * d + 2) % 4 = 2 by omega, show (4 * d + 2) / 4 = d by omega]
  rfl
theorem stepAt3 (d : Nat) : stepAt (4 * d + 3) = (-((d + 1 : Nat) : Int), 0) := by
  unfold stepAt
  rw [show (4 * d + 3) % 4 = 3 by omega, show (4 * d + 3) / 4 = d by omega]
  rfl
theorem find_hit {p : Nat → Bool} {n : Nat} (hn : ∀ i < n, p i = false) (hp : p n = true) : ∀ m, n < m → (List.range m).find? p = some n
  | 0, h => absurd h (by omega)
  | m + 1, h => by
    rw [List.range_succ, List.find?_append]
    by_cases e : n < m
    · rw [find_hit hn hp m e]; rfl
    · obtain rfl : n = m := by omega
      have : (List.range n).find? p = none := by
        rw [List.find?_eq_none]
        intro x hx
        rw [hn x (List.mem_range.1 hx)]
        simp
      rw [this]
      simp [hp]
theorem find_miss {p : Nat → Bool} {m : Nat} (hn : ∀ i < m, p i = false) : (List.range m).find? p = none := by
  rw [List.find?_eq_none]
  intro x hx
  rw [hn x (List.mem_range.1 hx)]
  simp
/-- Where the copy leads, and by which step. -/
def cpTo (box : Rect) (o : Option Nat) : Rect := match o with
  | none => Rect.zero
  | some n => toQ box (stepAt n).1 (stepAt n).2
def cpBy (o : Option Nat) : Int × Int := match o with
  | none => (0, 0)
  | some n => stepAt n
def copyV (box : Rect) (o : Option Nat) : Value := .agg #[.int .i64 (cpTo box o).x, .int .i64 (cpTo box o).y, .int .i64 (cpTo box o).w, .int .i64 (cpTo box o).h, .int .i64 (cpBy o).1, .int .i64 (cpBy o).2]
def scrollOf (W H : Int) (xs : List Int) (W' H' : Int) (ys : List Int) (l : List Rect) : Option Nat :=
  if isPic W H xs.length && isPic W' H' ys.length && W == W' && H == H' then foundP W H (xs.map cut24) (ys.map cut24) (boxOf W H l) else none
/-- What both functions answer. -/
def GivesC (box : Rect) (o : Option Nat) (w : World) : Ending → World → Prop := fun e w' => e = .returned (.tuple #[copyV box o, .bool o.isSome]) ∧ Ext w w'
end Go.Proofs.Ytjghghbldifhaaa
