/- The walks of package rect, the second part: And. -/
import Derived.Test.YtilcggkbancniaaProg
import Derived.Test.YtilcggkbancniaaPure
import Derived.Test.YtilcggkbancniaaLib
import Derived.Test.YtilcggkbancniaaRect
set_option linter.unusedSimpArgs false
set_option linter.unusedVariables false
namespace Go.Proofs.Ytilcggkbancniaa
open Go.RowKit

set_option maxHeartbeats 400000 in
theorem most_any (x y : Int) (w : World) :
    Calls Try.prog 106 #[.int .i64 x, .int .i64 y] w fun e w' => e = .returned (.int .i64 (mx x y)) ∧ w = w' := by
  unfold mx
  go_enter Try.func106, Try.ntmps106
  go_wp2
  all_goals (go_ret; exact ⟨rfl, rfl⟩)
set_option maxHeartbeats 400000 in
theorem least_any (x y : Int) (w : World) :
    Calls Try.prog 107 #[.int .i64 x, .int .i64 y] w fun e w' => e = .returned (.int .i64 (mn x y)) ∧ w = w' := by
  unfold mn
  go_enter Try.func107, Try.ntmps107
  go_wp2
  all_goals (go_ret; exact ⟨rfl, rfl⟩)
set_option maxHeartbeats 400000 in
theorem span_in (a n b m : Int) (w : World) :
    Calls Try.prog 105 #[.int .i64 a, .int .i64 n, .int .i64 b, .int .i64 m, .func (.func 106) #[] #[], .func (.func 107) #[] #[]] w fun e w' => e = .returned (.tuple #[.int .i64 (mx a b), .int .i64 (wrap64 (mn (wrap64 (a + n)) (wrap64 (b + m)) - mx a b))]) ∧ w = w' := by
  go_enter Try.func105, Try.ntmps105
  go_wp2_with (first | (go_at_call 106; refine (most_any _ _ _).mono ?_; rintro e w' ⟨rfl, rfl⟩) | (go_at_call 107; refine (least_any _ _ _).mono ?_; rintro e w' ⟨rfl, rfl⟩))
  go_ret2
  exact ⟨rfl, rfl⟩
set_option maxHeartbeats 400000 in
theorem span_or (a n b m : Int) (w : World) :
    Calls Try.prog 105 #[.int .i64 a, .int .i64 n, .int .i64 b, .int .i64 m, .func (.func 107) #[] #[], .func (.func 106) #[] #[]] w fun e w' => e = .returned (.tuple #[.int .i64 (mn a b), .int .i64 (wrap64 (mx (wrap64 (a + n)) (wrap64 (b + m)) - mn a b))]) ∧ w = w' := by
  go_enter Try.func105, Try.ntmps105
  go_wp2_with (first | (go_at_call 106; refine (most_any _ _ _).mono ?_; rintro e w' ⟨rfl, rfl⟩) | (go_at_call 107; refine (least_any _ _ _).mono ?_; rintro e w' ⟨rfl, rfl⟩))
  go_ret2
  exact ⟨rfl, rfl⟩
set_option maxHeartbeats 1000000 in
theorem and_zero (x y a b p q c d : Int) (w : World) (h : Rect.empty ⟨x, y, a, b⟩ = true ∨ Rect.empty ⟨x, y, a, b⟩ = false ∧ Rect.empty ⟨p, q, c, d⟩ = true) :
    Calls Try.prog 75 #[.agg #[.int .i64 x, .int .i64 y, .int .i64 a, .int .i64 b], .agg #[.int .i64 p, .int .i64 q, .int .i64 c, .int .i64 d]] w fun e w' =>
      e = .returned (.agg #[.int .i64 0, .int .i64 0, .int .i64 0, .int .i64 0]) ∧ Ext w w' := by
  rcases h with h1 | ⟨h1, h2⟩
  all_goals
    go_enter Try.func75, Try.ntmps75
    go_wp2_with (first | (go_at_call 105; refine (span_in _ _ _ _ _).mono ?_; rintro e w' ⟨rfl, rfl⟩) | (go_at_call 36; refine (empty_any _ _ _ _ _).mono ?_; rintro e w1 ⟨rfl, hb⟩; obtain ⟨hc, hf⟩ := hb.rules; have hq : w.heap.size + 4 ≤ w1.heap.size := (by have := hb.size; (try simp at this); omega); obtain ⟨z0, z1, z2, z3⟩ := sz4 hq))
    have hE : Ext w w1 := by first | exact Ext.of_allocs2 (Ext.of_allocs2 hb) | exact (Ext.of_allocs2 (Ext.of_allocs2 (by assumption))).trans hb
    refine bodyPost_ret (v := .agg #[.int .i64 0, .int .i64 0, .int .i64 0, .int .i64 0]) (by simp only [results, Try.results75]; go_simp) rfl ⟨rfl, ?_⟩
    clear hc hf hb
    repeat' (first | exact hE | refine Ext.set ?_ ?_ _)
    all_goals (simp; omega)

set_option maxHeartbeats 1000000 in
theorem and_any (x y a b p q c d : Int) (w : World) :
    Calls Try.prog 75 #[.agg #[.int .i64 x, .int .i64 y, .int .i64 a, .int .i64 b], .agg #[.int .i64 p, .int .i64 q, .int .i64 c, .int .i64 d]] w fun e w' =>
      e = .returned (.agg #[.int .i64 (Rect.and ⟨x, y, a, b⟩ ⟨p, q, c, d⟩).x, .int .i64 (Rect.and ⟨x, y, a, b⟩ ⟨p, q, c, d⟩).y, .int .i64 (Rect.and ⟨x, y, a, b⟩ ⟨p, q, c, d⟩).w, .int .i64 (Rect.and ⟨x, y, a, b⟩ ⟨p, q, c, d⟩).h]) ∧ Ext w w' := by
  cases h1 : Rect.empty ⟨x, y, a, b⟩
  · cases h2 : Rect.empty ⟨p, q, c, d⟩
    · have g1 := Rect.empty_iff.1 h1
      have g2 := Rect.empty_iff.1 h2
      dsimp only at g1 g2
      obtain ⟨⟨a1, a2, a3, a4⟩, a5, a6, a7, a8⟩ := g1
      obtain ⟨⟨b1, b2, b3, b4⟩, b5, b6, b7, b8⟩ := g2
      obtain ⟨m1, m2⟩ := mx_bd a1 a2 b1 b2
      obtain ⟨m3, m4⟩ := mx_bd a5 a6 b5 b6
      obtain ⟨m5, m6⟩ := mn_bd (x := x + a) (y := p + c) (l := -1048576) (u := 1048576) (by omega) (by omega) (by omega) (by omega)
      obtain ⟨m7, m8⟩ := mn_bd (x := y + b) (y := q + d) (l := -1048576) (u := 1048576) (by omega) (by omega) (by omega) (by omega)
      have e1 : wrap64 (x + a) = x + a := IntWalk.wrap64_in _ (by omega)
      have e2 : wrap64 (y + b) = y + b := IntWalk.wrap64_in _ (by omega)
      have e3 : wrap64 (p + c) = p + c := IntWalk.wrap64_in _ (by omega)
      have e4 : wrap64 (q + d) = q + d := IntWalk.wrap64_in _ (by omega)
      have e5 : wrap64 (mn (x + a) (p + c) - mx x p) = mn (x + a) (p + c) - mx x p := IntWalk.wrap64_in _ (by omega)
      have e6 : wrap64 (mn (y + b) (q + d) - mx y q) = mn (y + b) (q + d) - mx y q := IntWalk.wrap64_in _ (by omega)
      obtain ⟨R, hr, h34⟩ : ∃ R : Rect, Rect.and ⟨x, y, a, b⟩ ⟨p, q, c, d⟩ = R ∧ (decide (mn (x + a) (p + c) - mx x p ≤ 0) = true ∧ R = Rect.zero ∨ decide (mn (x + a) (p + c) - mx x p ≤ 0) = false ∧ (decide (mn (y + b) (q + d) - mx y q ≤ 0) = true ∧ R = Rect.zero ∨ decide (mn (y + b) (q + d) - mx y q ≤ 0) = false ∧ R = ⟨mx x p, mx y q, mn (x + a) (p + c) - mx x p, mn (y + b) (q + d) - mx y q⟩)) := by
        refine ⟨_, rfl, ?_⟩
        by_cases h3 : mn (x + a) (p + c) - mx x p ≤ 0
        · exact .inl ⟨by simpa using h3, Rect.and_flat (.inl h3)⟩
        · by_cases h4 : mn (y + b) (q + d) - mx y q ≤ 0
          · exact .inr ⟨by simpa using h3, .inl ⟨by simpa using h4, Rect.and_flat (.inr h4)⟩⟩
          · exact .inr ⟨by simpa using h3, .inr ⟨by simpa using h4, Rect.and_meet h1 h2 h3 h4⟩⟩
      rw [hr]
      clear hr m1 m2 m3 m4 m5 m6 m7 m8 a1 a2 a3 a4 a5 a6 a7 a8 b1 b2 b3 b4 b5 b6 b7 b8
      rcases h34 with ⟨h3, rfl⟩ | ⟨h3, ⟨h4, rfl⟩ | ⟨h4, rfl⟩⟩
      all_goals
        go_enter Try.func75, Try.ntmps75
        go_wp2_with (first | (go_at_call 105; refine (span_in _ _ _ _ _).mono ?_; simp only [e1, e2, e3, e4, e5, e6]; rintro e w' ⟨rfl, rfl⟩) | (go_at_call 36; refine (empty_any _ _ _ _ _).mono ?_; rintro e w1 ⟨rfl, hb⟩; obtain ⟨hc, hf⟩ := hb.rules; have hq : w.heap.size + 4 ≤ w1.heap.size := (by have := hb.size; (try simp at this); omega); obtain ⟨z0, z1, z2, z3⟩ := sz4 hq))
        have hE : Ext w w1 := (Ext.of_allocs2 (Ext.of_allocs2 (by assumption))).trans hb
        first
          | refine bodyPost_ret (v := .agg #[.int .i64 0, .int .i64 0, .int .i64 0, .int .i64 0]) (by simp only [results, Try.results75]; go_simp; done) rfl ⟨rfl, ?_⟩
          | refine bodyPost_ret (v := .agg #[.int .i64 (mx x p), .int .i64 (mx y q), .int .i64 (mn (x + a) (p + c) - mx x p), .int .i64 (mn (y + b) (q + d) - mx y q)]) (by simp only [results, Try.results75]; go_simp; done) rfl ⟨rfl, ?_⟩
        clear hc hf hb
        repeat' (first | exact hE | refine Ext.set ?_ ?_ _)
        all_goals (simp; omega)
    · rw [Rect.and_empty_r h2]
      exact and_zero x y a b p q c d w (.inr ⟨h1, h2⟩)
  · rw [Rect.and_empty_l h1]
    exact and_zero x y a b p q c d w (.inl h1)
end Go.Proofs.Ytilcggkbancniaa
