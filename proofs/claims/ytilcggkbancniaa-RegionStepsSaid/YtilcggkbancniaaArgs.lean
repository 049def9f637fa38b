/- What is handed in, as these laws meet it. -/
import Derived.Test.YtilcggkbancniaaOpen
set_option linter.unusedVariables false
set_option linter.unusedSimpArgs false
namespace Go.Proofs.Ytilcggkbancniaa
open Go.RowKit Go.ChangeShapes

theorem choose_list {α : Type} {Q : Nat → α → Prop} : ∀ {n : Nat}, (∀ i, i < n → ∃ v, Q i v) → ∃ xs : List α, xs.length = n ∧ ∀ i v, xs[i]? = some v → Q i v
  | 0, _ => ⟨[], rfl, fun i v h => by simp at h⟩
  | n + 1, h => by
    obtain ⟨xs, h1, h2⟩ := choose_list (n := n) (fun i hi => h i (by omega))
    obtain ⟨v, hv⟩ := h n (by omega)
    refine ⟨xs ++ [v], by simp [h1], fun i u hu => ?_⟩
    rcases Nat.lt_trichotomy i n with hlt | heq | hgt
    · rw [List.getElem?_append_left (by omega)] at hu; exact h2 i u hu
    · subst heq
      rw [List.getElem?_append_right (by omega), h1] at hu
      simp at hu
      subst hu
      exact hv
    · rw [List.getElem?_eq_none (by simp [h1]; omega)] at hu; cases hu
/-- A slice of whole numbers that is handed in. -/
def IntsAt (k : IntKind) (w : World) (A : Option Addr) (n c : Nat) (xs : List Int) : Prop :=
  xs.length = n ∧ n ≤ maxLen ∧ Reads k w A xs ∧ ∀ v ∈ xs, (Lit.int k v).wf = true
theorem ints_at {k : IntKind} {w : World} {v : Value} (h : (Sh.slice (.int k)).Is w [v]) : ∃ A n c xs, v = .slice A n c ∧ IntsAt k w A n c xs := by
  rcases h with h | ⟨a, len, cap, h, h1, h2, h3⟩
  · injection h with h
    exact ⟨none, 0, 0, [], h, rfl, Nat.zero_le _, fun i hi => by simp at hi, fun v hv => by cases hv⟩
  · injection h with h
    have h4 : ∀ i, i < len → ∃ n : Int, w.cell? (a.add i) = some (.int k n) ∧ (Lit.int k n).wf = true := fun i hi => by
      obtain ⟨l, hl, _, n, rfl, hw⟩ := h3 i hi
      have := hl 0 (.int k n) rfl
      rw [show i * (Sh.int k).size = i by simp [Sh.size]] at this
      refine ⟨n, ?_, hw⟩
      rw [show (a.add i).add 0 = a.add i by simp [Addr.add]] at this
      exact this
    obtain ⟨xs, hl, hq⟩ := choose_list h4
    refine ⟨some a, len, cap, xs, h, hl, Nat.le_trans h1 h2, fun i hi => ?_, fun u hu => ?_⟩
    · have h0 : w.cell? a = some (.int k (xs.getD 0 0)) := by
        have := (hq 0 (xs.getD 0 0) (by simp [List.getD_eq_getElem?_getD, List.getElem?_eq_getElem (show 0 < xs.length by omega)])).1
        rwa [show a.add 0 = a by simp [Addr.add]] at this
      have hs : a.spot = none := by
        unfold World.cell? at h0
        split at h0
        · split at h0
          · cases h0
          · rename_i hn; simpa using hn
        · cases h0
      obtain ⟨b, o, s⟩ := a
      dsimp only at hs
      subst hs
      refine ⟨b, o, rfl, ?_⟩
      have := (hq i (xs.getD i 0) (by simp [List.getD_eq_getElem?_getD, List.getElem?_eq_getElem hi])).1
      have e : (⟨b, o, none⟩ : Addr).add i = ⟨b, o + i, none⟩ := by unfold Addr.add; split <;> simp_all
      rwa [e] at this
    · obtain ⟨i, hi, rfl⟩ := List.getElem_of_mem hu
      exact (hq i _ (List.getElem?_eq_getElem hi)).2
theorem IntsAt.u32 {w : World} {A : Option Addr} {n c : Nat} {xs : List Int} (h : IntsAt .u32 w A n c xs) : ∀ v ∈ xs, 0 ≤ v ∧ v ≤ 4294967295 := fun v hv => by
  have := h.2.2.2 v hv
  simp only [Lit.wf, Bool.and_eq_true, decide_eq_true_eq, show IntKind.u32.min = 0 from rfl, show IntKind.u32.max = 4294967295 from rfl] at this
  exact this
def shImage : Sh := .cons (.int .i64) (.cons (.int .i64) (.cons (.slice (.int .u32)) .nil))
def shRect : Sh := .cons (.int .i64) (.cons (.int .i64) (.cons (.int .i64) (.cons (.int .i64) .nil)))
theorem is_int {k : IntKind} {b : Sh} {w : World} {cs : List Value} (h : (Sh.cons (.int k) b).Is w cs) : ∃ n r, cs = .int k n :: r ∧ (Lit.int k n).wf = true ∧ b.Is w r := by
  obtain ⟨l, r, rfl, _, ⟨n, rfl, hw⟩, hb⟩ := h
  exact ⟨n, r, rfl, hw, hb⟩
theorem is_slice {e b : Sh} {w : World} {cs : List Value} (h : (Sh.cons (.slice e) b).Is w cs) : ∃ v r, cs = v :: r ∧ (Sh.slice e).Is w [v] ∧ b.Is w r := by
  obtain ⟨l, r, rfl, hl, hs, hb⟩ := h
  obtain ⟨v, rfl⟩ : ∃ v, l = [v] := List.length_eq_one_iff.1 hl
  exact ⟨v, r, rfl, hs, hb⟩
theorem agg_of {v : Value} {l : List Value} (h : v.cells.toList = l) (hl : l.length ≠ 1) : v = .agg l.toArray := by
  cases v <;> first | (simp [Value.cells] at h; subst h; simp at hl; done) | (simp [Value.cells] at h; rw [← h])
theorem image_of {w : World} {v : Value} (h : shImage.Is w v.cells.toList) : ∃ W H A n c xs, v = .agg #[.int .i64 W, .int .i64 H, .slice A n c] ∧ IntsAt .u32 w A n c xs := by
  obtain ⟨W, r, e1, _, h⟩ := is_int h
  obtain ⟨H, r, rfl, _, h⟩ := is_int h
  obtain ⟨s, r, rfl, hs, h⟩ := is_slice h
  obtain rfl : r = [] := h
  obtain ⟨A, n, c, xs, rfl, hi⟩ := ints_at hs
  exact ⟨W, H, A, n, c, xs, agg_of e1 (by simp), hi⟩
theorem rect_of {w : World} {v : Value} (h : shRect.Is w v.cells.toList) : ∃ x y a b, v = .agg #[.int .i64 x, .int .i64 y, .int .i64 a, .int .i64 b] := by
  obtain ⟨x, r, e1, _, h⟩ := is_int h
  obtain ⟨y, r, rfl, _, h⟩ := is_int h
  obtain ⟨a, r, rfl, _, h⟩ := is_int h
  obtain ⟨b, r, rfl, _, h⟩ := is_int h
  obtain rfl : r = [] := h
  exact ⟨x, y, a, b, agg_of e1 (by simp)⟩
end Go.Proofs.Ytilcggkbancniaa
