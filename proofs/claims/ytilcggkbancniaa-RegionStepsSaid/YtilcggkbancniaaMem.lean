/- What memory holds: a slice that is read, a row of the call's own, a picture's buffer. No program in sight. -/
import Derived.Test.YtilcggkbancniaaLib
import Derived.Laws.OwnMore
import Derived.Laws.BitsLemmas
import Derived.Deep.OwnRows
import Derived.Deep.AppendLies
set_option linter.unusedVariables false
set_option linter.unusedSimpArgs false
namespace Go.Proofs.Ytilcggkbancniaa
open Go.RowKit

/-- A slice of whole numbers that is read. -/
def Reads (k : IntKind) (w : World) (A : Option Addr) (xs : List Int) : Prop :=
  ∀ i, i < xs.length → ∃ b off, A = some ⟨b, off, none⟩ ∧ w.cell? ⟨b, off + i, none⟩ = some (.int k (xs.getD i 0))
theorem Reads.ext {k : IntKind} {w w1 : World} {A : Option Addr} {xs : List Int} (h : Reads k w A xs) (hb : Ext w w1) : Reads k w1 A xs := fun i hi => by
  obtain ⟨b, off, e, hc⟩ := h i hi
  exact ⟨b, off, e, hb.cellOf hc⟩
theorem Reads.form {k : IntKind} {w : World} {A : Option Addr} {xs : List Int} (h : Reads k w A xs) (hn : 0 < xs.length) : ∃ b off, A = some ⟨b, off, none⟩ ∧ ∀ i, i < xs.length → w.cell? ⟨b, off + i, none⟩ = some (.int k (xs.getD i 0)) := by
  obtain ⟨b, off, e, hc⟩ := h 0 hn
  refine ⟨b, off, e, fun i hi => ?_⟩
  obtain ⟨b', off', e', hc'⟩ := h i hi
  rw [e] at e'
  injection e' with e'
  injection e' with e1 e2
  subst e1; subst e2
  exact hc'

theorem World.ownsRow.base_le {w : World} {base base' : Nat} {e : TypeId} {size : Nat} {v : Value} {n : Nat} {xs : List Value} (h : w.ownsRow base e size v n xs) (hb : base' ≤ base) : w.ownsRow base' e size v n xs := by
  obtain ⟨h1, h2⟩ := h
  refine ⟨h1, ?_⟩
  rcases h2 with h2 | ⟨g, cap, cur, e1, e2, e3⟩
  · exact .inl h2
  · exact .inr ⟨g, cap, cur, e1, Nat.le_trans hb e2, e3⟩

/-- The numbers of a list as cells. -/
def nums (k : IntKind) (xs : List Int) : List Value := xs.map (Value.int k)
theorem nums_length (k : IntKind) (xs : List Int) : (nums k xs).length = xs.length := by simp [nums]
theorem nums_get {k : IntKind} {xs : List Int} {i : Nat} (h : i < xs.length) : (nums k xs)[i]? = some (.int k (xs.getD i 0)) := by
  simp [nums, List.getD_eq_getElem?_getD, List.getElem?_eq_getElem h]

/-- A row of the call's own that holds these numbers. -/
abbrev Own (k : IntKind) (e : TypeId) (w : World) (base : Nat) (v : Value) (xs : List Int) : Prop := w.ownsRow base e 1 v xs.length (nums k xs)
theorem Own.ext {k : IntKind} {e : TypeId} {w w1 : World} {base : Nat} {v : Value} {xs : List Int} (h : Own k e w base v xs) (hb : Ext w w1) : Own k e w1 base v xs :=
  World.ownsRow.kept h ⟨hb.os, hb.tape, hb.output, hb.size, fun i hi _ => hb.block i hi⟩ (row := none) (by cases v.ownBlock <;> simp)
theorem Own.reads {k : IntKind} {e : TypeId} {w : World} {base : Nat} {v : Value} {xs : List Int} (h : Own k e w base v xs) : ∃ A c, v = .slice A xs.length c ∧ Reads k w A xs ∧ xs.length ≤ c ∧ c ≤ maxLen := by
  obtain ⟨h1, h2⟩ := h
  rcases h2 with ⟨rfl, h0⟩ | ⟨g, cap, cur, rfl, hb, hh, hnc, hcm, hcs, ht⟩
  · exact ⟨none, 0, by rw [h0], fun i hi => by omega, by omega, by simp⟩
  · refine ⟨_, cap, rfl, fun i hi => ⟨g, 0, rfl, ?_⟩, hnc, hcm⟩
    have := World.ownsRow.cellAt (w := w) (base := base) (e := e) (size := 1) (g := g) (n := xs.length) (cap := cap) (xs := nums k xs) ⟨h1, .inr ⟨g, cap, cur, rfl, hb, hh, hnc, hcm, hcs, ht⟩⟩ i (by omega)
    rw [Nat.zero_add, this, nums_get hi]

/-- A picture's buffer at block bb, its pixels in block bp. -/
structure BufAt (T : TypeId) (e : TypeId) (w : World) (base bb bp cap : Nat) (W H : Int) (px : List Int) : Prop where
  head : w.heap[bb]? = some (.cells #[.int .i64 W, .int .i64 H, .slice (some ⟨bp, 0, none⟩) px.length cap] T (0, 0))
  row : Own .u32 e w base (.slice (some ⟨bp, 0, none⟩) px.length cap) px
  ne : bb ≠ bp
  hb : base ≤ bb
  w1 : 1 ≤ W
  w2 : W ≤ 256
  h1 : 1 ≤ H
  h2 : H ≤ 256
  len : (px.length : Int) = W * H
  pix : ∀ p ∈ px, 0 ≤ p ∧ p ≤ 16777215
theorem BufAt.ext {T e : TypeId} {w w1 : World} {base bb bp cap : Nat} {W H : Int} {px : List Int} (h : BufAt T e w base bb bp cap W H px) (hb : Ext w w1) : BufAt T e w1 base bb bp cap W H px :=
  ⟨hb.keep h.head, h.row.ext hb, h.ne, h.hb, h.w1, h.w2, h.h1, h.h2, h.len, h.pix⟩

theorem own_made (W : World) (base : Nat) (e : TypeId) (k : IntKind) (m : Nat) (hb : base ≤ W.heap.size) (hm : m ≤ 9223372036854775807) :
    (W.alloc (.cells (madeCells #[.int k 0] m) e)).ownsRow base e 1 (.slice (some ⟨W.heap.size, 0, none⟩) m m) m (nums k (List.replicate m 0)) := by
  have h := World.ownsRow_lit (base := base) (e := e) (size := 1) W (madeCells #[.int k 0] m) m hb (by simpa [maxLen] using hm) (by simp [size_madeCells])
  have hl : (madeCells #[Value.int k 0] m).toList = nums k (List.replicate m 0) := by
    apply List.ext_getElem
    · simp [nums, madeCells]
    · intro i h1 h2
      simp [nums, madeCells, Nat.mod_one]
  rwa [hl] at h

def cut24 (x : Int) : Int := x % 16777216
theorem wraps_u32 (n : Int) (h₀ : 0 ≤ n) (h₁ : n < 2 ^ 32) : IntKind.u32.wrap n = n := by rw [IntKind.wrap_u32]; omega
theorem and_cut {x : Int} (h₀ : 0 ≤ x) (h₁ : x < 4294967296) : bits .and .u32 x 16777215 = cut24 x := bits_mask .u32 32 (by decide) wraps_u32 24 (by decide) x h₀ h₁
theorem cut24_bd (x : Int) : 0 ≤ cut24 x ∧ cut24 x ≤ 16777215 := by unfold cut24; omega
theorem cut24_same {x : Int} (h0 : 0 ≤ x) (h1 : x ≤ 16777215) : cut24 x = x := by unfold cut24; omega

/-- Is it a picture? -/
def isPic (W H : Int) (n : Nat) : Bool := decide (1 ≤ W) && decide (W ≤ 256) && decide (1 ≤ H) && decide (H ≤ 256) && decide ((n : Int) = W * H)
def okSize (W H : Int) : Bool := decide (1 ≤ W) && decide (W ≤ 256) && decide (1 ≤ H) && decide (H ≤ 256)
theorem okSize_iff {W H : Int} : okSize W H = true ↔ 1 ≤ W ∧ W ≤ 256 ∧ 1 ≤ H ∧ H ≤ 256 := by simp [okSize]; omega
theorem mul_bd {W H : Int} (h1 : 1 ≤ W) (h2 : W ≤ 256) (h3 : 1 ≤ H) (h4 : H ≤ 256) : 1 ≤ W * H ∧ W * H ≤ 65536 := by
  constructor
  · have := Int.mul_le_mul h1 h3 (by omega) (by omega); omega
  · have := Int.mul_le_mul h2 h4 (by omega) (by omega); omega
theorem Rect.and_in {r R : Rect} {W H : Int} (h1 : 1 ≤ W) (h2 : W ≤ 256) (h3 : 1 ≤ H) (h4 : H ≤ 256) (hR : Rect.and r ⟨0, 0, W, H⟩ = R) :
    (R = Rect.zero ∨ 0 ≤ R.x ∧ 1 ≤ R.w ∧ R.x + R.w ≤ W ∧ 0 ≤ R.y ∧ 1 ≤ R.h ∧ R.y + R.h ≤ H) ∧ 0 ≤ R.h := by
  subst hR
  unfold Rect.and
  split
  · exact ⟨.inl rfl, by simp [Rect.zero]⟩
  · rename_i hn
    simp only [Bool.or_eq_true, decide_eq_true_eq, not_or, Bool.not_eq_true] at hn
    obtain ⟨⟨⟨e1, e2⟩, e3⟩, e4⟩ := hn
    have g1 := Rect.empty_iff.1 e1
    simp only [Rect.meet, mx, mn] at e3 e4 ⊢
    refine ⟨.inr ⟨?_, ?_, ?_, ?_, ?_, ?_⟩, ?_⟩
    all_goals (repeat' split) <;> omega
end Go.Proofs.Ytilcggkbancniaa
