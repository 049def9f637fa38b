/- The walks of package rect. -/
import Derived.Test.YtilcggkbancniaaProg
import Derived.Test.YtilcggkbancniaaPure
import Derived.Test.YtilcggkbancniaaLib
set_option linter.unusedSimpArgs false
set_option linter.unusedVariables false
namespace Go.Proofs.Ytilcggkbancniaa
open Go.RowKit

set_option maxHeartbeats 400000 in
theorem within_any (n a b : Int) (w : World) :
    Calls Try.prog 85 #[.int .i64 n, .int .i64 a, .int .i64 b] w fun e w' => e = .returned (.bool (within n a b)) ∧ w = w' := by
  by_cases h1 : a ≤ n
  all_goals
    go_enter Try.func85, Try.ntmps85
    go_wp2
    go_ret
    exact ⟨by simp [within]; omega, rfl⟩

set_option maxHeartbeats 400000 in
theorem okSpan_any (n s : Int) (w : World) :
    Calls Try.prog 110 #[.int .i64 n, .int .i64 s] w fun e w' => e = .returned (.bool (okSpan n s)) ∧ w = w' := by
  cases h1 : within n (-1048576) 1048576
  · go_enter Try.func110, Try.ntmps110
    go_wp2_with (go_at_call 85; refine (within_any _ _ _ _).mono ?_; rintro e w' ⟨rfl, rfl⟩)
    go_ret
    exact ⟨by simp [okSpan, h1], rfl⟩
  · have hb : -1048576 ≤ n ∧ n ≤ 1048576 := by simpa [within] using h1
    obtain ⟨hb1, hb2⟩ := hb
    go_enter Try.func110, Try.ntmps110
    go_wp2_with (go_at_call 85; refine (within_any _ _ _ _).mono ?_; rintro e w' ⟨rfl, rfl⟩)
    go_ret
    exact ⟨by simp [okSpan, h1], rfl⟩

set_option maxHeartbeats 400000 in
theorem good1_any (x y a b : Int) (B : Nat) (w : World) (h0 : w.cell? ⟨B, 0, none⟩ = some (.int .i64 x)) (h1 : w.cell? ⟨B, 1, none⟩ = some (.int .i64 y)) (h2 : w.cell? ⟨B, 2, none⟩ = some (.int .i64 a)) (h3 : w.cell? ⟨B, 3, none⟩ = some (.int .i64 b)) :
    Calls Try.prog 109 #[.func (.func 110) #[] #[], .pointer (some ⟨B, 0, none⟩)] w fun e w' => e = .returned (.bool (Rect.good ⟨x, y, a, b⟩)) ∧ w = w' := by
  cases g1 : okSpan x a
  all_goals
    go_enter Try.func109, Try.ntmps109
    go_wp2_with (go_at_call 110; refine (okSpan_any _ _ _).mono ?_; rintro e w' ⟨rfl, rfl⟩)
    go_ret
    exact ⟨by simp [Rect.good, g1], rfl⟩

set_option maxHeartbeats 400000 in
theorem good_any (x y a b : Int) (w : World) :
    Calls Try.prog 84 #[.agg #[.int .i64 x, .int .i64 y, .int .i64 a, .int .i64 b]] w fun e w' => e = .returned (.bool (Rect.good ⟨x, y, a, b⟩)) ∧ Ext w w' := by
  go_enter Try.func84, Try.ntmps84
  go_wp2_with (go_at_call 109; refine (good1_any x y a b w.heap.size _ (by go_simp) (by go_simp) (by go_simp) (by go_simp)).mono ?_; rintro e w' ⟨rfl, rfl⟩)
  go_ret
  exact ⟨rfl, (Ext.refl _).alloc _⟩

set_option maxHeartbeats 400000 in
theorem area_any (x y a b : Int) (w : World) :
    Calls Try.prog 82 #[.agg #[.int .i64 x, .int .i64 y, .int .i64 a, .int .i64 b]] w fun e w' => e = .returned (.int .i64 (Rect.area ⟨x, y, a, b⟩)) ∧ Ext w w' := by
  cases hg : Rect.good ⟨x, y, a, b⟩
  · go_enter Try.func82, Try.ntmps82
    go_wp2_with (go_at_call 84; refine (good_any _ _ _ _ _).mono ?_; rintro e w1 ⟨rfl, hb⟩)
    go_ret
    exact ⟨by simp [Rect.area, hg], ((Ext.refl _).alloc _).trans hb⟩
  · have hbd := Rect.area_bd ⟨x, y, a, b⟩
    simp only [Rect.area, hg, if_true] at hbd
    obtain ⟨hb1, hb2⟩ := hbd
    go_enter Try.func82, Try.ntmps82
    go_wp2_with (go_at_call 84; refine (good_any _ _ _ _ _).mono ?_; rintro e w1 ⟨rfl, hb⟩; obtain ⟨hc, hf⟩ := hb.rules)
    go_ret
    exact ⟨by simp [Rect.area, hg], ((Ext.refl _).alloc _).trans hb⟩

set_option maxHeartbeats 400000 in
theorem empty_any (x y a b : Int) (w : World) :
    Calls Try.prog 36 #[.agg #[.int .i64 x, .int .i64 y, .int .i64 a, .int .i64 b]] w fun e w' => e = .returned (.bool (Rect.empty ⟨x, y, a, b⟩)) ∧ Ext w w' := by
  go_enter Try.func36, Try.ntmps36
  go_wp2_with (go_at_call 82; refine (area_any _ _ _ _ _).mono ?_; rintro e w1 ⟨rfl, hb⟩)
  go_ret
  exact ⟨rfl, ((Ext.refl _).alloc _).trans hb⟩

set_option maxHeartbeats 400000 in
theorem has_any (x y a b p q : Int) (w : World) :
    Calls Try.prog 40 #[.agg #[.int .i64 x, .int .i64 y, .int .i64 a, .int .i64 b], .int .i64 p, .int .i64 q] w fun e w' => e = .returned (.bool (Rect.has ⟨x, y, a, b⟩ p q)) ∧ Ext w w' := by
  cases hg : Rect.good ⟨x, y, a, b⟩
  · go_enter Try.func40, Try.ntmps40
    go_wp2_with (go_at_call 84; refine (good_any _ _ _ _ _).mono ?_; rintro e w1 ⟨rfl, hb⟩)
    go_ret
    exact ⟨by simp [Rect.has, hg], ((Ext.refl _).alloc _).trans hb⟩
  · have hi := Rect.good_iff.1 hg
    dsimp only at hi
    obtain ⟨⟨g1, g2, g3, g4⟩, g5, g6, g7, g8⟩ := hi
    cases hx : within p x (x + a - 1)
    all_goals
      go_enter Try.func40, Try.ntmps40
      go_wp2_with (first | (go_at_call 84; refine (good_any _ _ _ _ _).mono ?_; rintro e w1 ⟨rfl, hb⟩; obtain ⟨hc, hf⟩ := hb.rules) | (go_at_call 85; refine (within_any _ _ _ _).mono ?_; rintro e w' ⟨rfl, rfl⟩))
      go_ret
      exact ⟨by simp [Rect.has, hg, hx], ((Ext.refl _).alloc _).trans hb⟩

end Go.Proofs.Ytilcggkbancniaa
