/- The walks of package rect. -/
/- The walks of package rect, the second part: And. -/
/- The walks of package rect, the third part: In, Or, Shift. -/
/- The walks of package rect, the fourth part: Shift. -/
import Derived.Test.YtjghghbldifhaaaProg
import Derived.Test.YtjghghbldifhaaaApp
set_option linter.unusedSimpArgs false
set_option linter.unusedVariables false
namespace Go.Proofs.Ytjghghbldifhaaa
open Go.RowKit

set_option maxHeartbeats 400000 in
theorem within_any (n a b : Int) (w : World) :
    Calls Try.prog 77 #[.int .i64 n, .int .i64 a, .int .i64 b] w fun e w' => e = .returned (.bool (within n a b)) ∧ w = w' := by
  by_cases h1 : a ≤ n
  all_goals
    go_enter Try.func77, Try.ntmps77
    go_wp2
    go_ret
    exact ⟨by simp [within]; omega, rfl⟩

set_option maxHeartbeats 400000 in
theorem okSpan_any (n s : Int) (w : World) :
    Calls Try.prog 111 #[.int .i64 n, .int .i64 s] w fun e w' => e = .returned (.bool (okSpan n s)) ∧ w = w' := by
  cases h1 : within n (-1048576) 1048576
  · go_enter Try.func111, Try.ntmps111
    go_wp2_with (go_at_call 77; refine (within_any _ _ _ _).mono ?_; rintro e w' ⟨rfl, rfl⟩)
    go_ret
    exact ⟨by simp [okSpan, h1], rfl⟩
  · have hb : -1048576 ≤ n ∧ n ≤ 1048576 := by simpa [within] using h1
    obtain ⟨hb1, hb2⟩ := hb
    go_enter Try.func111, Try.ntmps111
    go_wp2_with (go_at_call 77; refine (within_any _ _ _ _).mono ?_; rintro e w' ⟨rfl, rfl⟩)
    go_ret
    exact ⟨by simp [okSpan, h1], rfl⟩

set_option maxHeartbeats 400000 in
theorem good1_any (x y a b : Int) (B : Nat) (w : World) (h0 : w.cell? ⟨B, 0, none⟩ = some (.int .i64 x)) (h1 : w.cell? ⟨B, 1, none⟩ = some (.int .i64 y)) (h2 : w.cell? ⟨B, 2, none⟩ = some (.int .i64 a)) (h3 : w.cell? ⟨B, 3, none⟩ = some (.int .i64 b)) :
    Calls Try.prog 110 #[.func (.func 111) #[] #[], .pointer (some ⟨B, 0, none⟩)] w fun e w' => e = .returned (.bool (Rect.good ⟨x, y, a, b⟩)) ∧ w = w' := by
  cases g1 : okSpan x a
  all_goals
    go_enter Try.func110, Try.ntmps110
    go_wp2_with (go_at_call 111; refine (okSpan_any _ _ _).mono ?_; rintro e w' ⟨rfl, rfl⟩)
    go_ret
    exact ⟨by simp [Rect.good, g1], rfl⟩

set_option maxHeartbeats 400000 in
theorem good_any (x y a b : Int) (w : World) :
    Calls Try.prog 76 #[.agg #[.int .i64 x, .int .i64 y, .int .i64 a, .int .i64 b]] w fun e w' => e = .returned (.bool (Rect.good ⟨x, y, a, b⟩)) ∧ Ext w w' := by
  go_enter Try.func76, Try.ntmps76
  go_wp2_with (go_at_call 110; refine (good1_any x y a b w.heap.size _ (by go_simp) (by go_simp) (by go_simp) (by go_simp)).mono ?_; rintro e w' ⟨rfl, rfl⟩)
  go_ret
  exact ⟨rfl, (Ext.refl _).alloc _⟩

set_option maxHeartbeats 400000 in
theorem area_any (x y a b : Int) (w : World) :
    Calls Try.prog 49 #[.agg #[.int .i64 x, .int .i64 y, .int .i64 a, .int .i64 b]] w fun e w' => e = .returned (.int .i64 (Rect.area ⟨x, y, a, b⟩)) ∧ Ext w w' := by
  cases hg : Rect.good ⟨x, y, a, b⟩
  · go_enter Try.func49, Try.ntmps49
    go_wp2_with (go_at_call 76; refine (good_any _ _ _ _ _).mono ?_; rintro e w1 ⟨rfl, hb⟩)
    go_ret
    exact ⟨by simp [Rect.area, hg], ((Ext.refl _).alloc _).trans hb⟩
  · have hbd := Rect.area_bd ⟨x, y, a, b⟩
    simp only [Rect.area, hg, if_true] at hbd
    obtain ⟨hb1, hb2⟩ := hbd
    go_enter Try.func49, Try.ntmps49
    go_wp2_with (go_at_call 76; refine (good_any _ _ _ _ _).mono ?_; rintro e w1 ⟨rfl, hb⟩; obtain ⟨hc, hf⟩ := hb.rules)
    go_ret
    exact ⟨by simp [Rect.area, hg], ((Ext.refl _).alloc _).trans hb⟩

set_option maxHeartbeats 400000 in
theorem empty_any (x y a b : Int) (w : World) :
    Calls Try.prog 16 #[.agg #[.int .i64 x, .int .i64 y, .int .i64 a, .int .i64 b]] w fun e w' => e = .returned (.bool (Rect.empty ⟨x, y, a, b⟩)) ∧ Ext w w' := by
  go_enter Try.func16, Try.ntmps16
  go_wp2_with (go_at_call 49; refine (area_any _ _ _ _ _).mono ?_; rintro e w1 ⟨rfl, hb⟩)
  go_ret
  exact ⟨rfl, ((Ext.refl _).alloc _).trans hb⟩

set_option maxHeartbeats 400000 in
theorem has_any (x y a b p q : Int) (w : World) :
    Calls Try.prog 30 #[.agg #[.int .i64 x, .int .i64 y, .int .i64 a, .int .i64 b], .int .i64 p, .int .i64 q] w fun e w' => e = .returned (.bool (Rect.has ⟨x, y, a, b⟩ p q)) ∧ Ext w w' := by
  cases hg : Rect.good ⟨x, y, a, b⟩
  · go_enter Try.func30, Try.ntmps30
    go_wp2_with (go_at_call 76; refine (good_any _ _ _ _ _).mono ?_; rintro e w1 ⟨rfl, hb⟩)
    go_ret
    exact ⟨by simp [Rect.has, hg], ((Ext.refl _).alloc _).trans hb⟩
  · have hi := Rect.good_iff.1 hg
    dsimp only at hi
    obtain ⟨⟨g1, g2, g3, g4⟩, g5, g6, g7, g8⟩ := hi
    cases hx : within p x (x + a - 1)
    all_goals
      go_enter Try.func30, Try.ntmps30
      go_wp2_with (first | (go_at_call 76; refine (good_any _ _ _ _ _).mono ?_; rintro e w1 ⟨rfl, hb⟩; obtain ⟨hc, hf⟩ := hb.rules) | (go_at_call 77; refine (within_any _ _ _ _).mono ?_; rintro e w' ⟨rfl, rfl⟩))
      go_ret
      exact ⟨by simp [Rect.has, hg, hx], ((Ext.refl _).alloc _).trans hb⟩

end Go.Proofs.Ytjghghbldifhaaa
set_option linter.unusedSimpArgs false
set_option linter.unusedVariables false
namespace Go.Proofs.Ytjghghbldifhaaa
open Go.RowKit

set_option maxHeartbeats 400000 in
theorem most_any (x y : Int) (w : World) :
    Calls Try.prog 119 #[.int .i64 x, .int .i64 y] w fun e w' => e = .returned (.int .i64 (mx x y)) ∧ w = w' := by
  unfold mx
  go_enter Try.func119, Try.ntmps119
  go_wp2
  all_goals (go_ret; exact ⟨rfl, rfl⟩)
set_option maxHeartbeats 400000 in
theorem least_any (x y : Int) (w : World) :
    Calls Try.prog 118 #[.int .i64 x, .int .i64 y] w fun e w' => e = .returned (.int .i64 (mn x y)) ∧ w = w' := by
  unfold mn
  go_enter Try.func118, Try.ntmps118
  go_wp2
  all_goals (go_ret; exact ⟨rfl, rfl⟩)
set_option maxHeartbeats 400000 in
theorem span_in (a n b m : Int) (w : World) :
    Calls Try.prog 117 #[.int .i64 a, .int .i64 n, .int .i64 b, .int .i64 m, .func (.func 119) #[] #[], .func (.func 118) #[] #[]] w fun e w' => e = .returned (.tuple #[.int .i64 (mx a b), .int .i64 (wrap64 (mn (wrap64 (a + n)) (wrap64 (b + m)) - mx a b))]) ∧ w = w' := by
  go_enter Try.func117, Try.ntmps117
  go_wp2_with (first | (go_at_call 119; refine (most_any _ _ _).mono ?_; rintro e w' ⟨rfl, rfl⟩) | (go_at_call 118; refine (least_any _ _ _).mono ?_; rintro e w' ⟨rfl, rfl⟩))
  go_ret2
  exact ⟨rfl, rfl⟩
set_option maxHeartbeats 400000 in
theorem span_or (a n b m : Int) (w : World) :
    Calls Try.prog 117 #[.int .i64 a, .int .i64 n, .int .i64 b, .int .i64 m, .func (.func 118) #[] #[], .func (.func 119) #[] #[]] w fun e w' => e = .returned (.tuple #[.int .i64 (mn a b), .int .i64 (wrap64 (mx (wrap64 (a + n)) (wrap64 (b + m)) - mn a b))]) ∧ w = w' := by
  go_enter Try.func117, Try.ntmps117
  go_wp2_with (first | (go_at_call 119; refine (most_any _ _ _).mono ?_; rintro e w' ⟨rfl, rfl⟩) | (go_at_call 118; refine (least_any _ _ _).mono ?_; rintro e w' ⟨rfl, rfl⟩))
  go_ret2
  exact ⟨rfl, rfl⟩
set_option maxHeartbeats 1000000 in
theorem and_zero (x y a b p q c d : Int) (w : World) (h : Rect.empty ⟨x, y, a, b⟩ = true ∨ Rect.empty ⟨x, y, a, b⟩ = false ∧ Rect.empty ⟨p, q, c, d⟩ = true) :
    Calls Try.prog 95 #[.agg #[.int .i64 x, .int .i64 y, .int .i64 a, .int .i64 b], .agg #[.int .i64 p, .int .i64 q, .int .i64 c, .int .i64 d]] w fun e w' =>
      e = .returned (.agg #[.int .i64 0, .int .i64 0, .int .i64 0, .int .i64 0]) ∧ Ext w w' := by
  rcases h with h1 | ⟨h1, h2⟩
  all_goals
    go_enter Try.func95, Try.ntmps95
    go_wp2_with (first | (go_at_call 117; refine (span_in _ _ _ _ _).mono ?_; rintro e w' ⟨rfl, rfl⟩) | (go_at_call 16; refine (empty_any _ _ _ _ _).mono ?_; rintro e w1 ⟨rfl, hb⟩; obtain ⟨hc, hf⟩ := hb.rules; have hq : w.heap.size + 4 ≤ w1.heap.size := (by have := hb.size; (try simp at this); omega); obtain ⟨z0, z1, z2, z3⟩ := sz4 hq))
    have hE : Ext w w1 := by first | exact Ext.of_allocs2 (Ext.of_allocs2 hb) | exact (Ext.of_allocs2 (Ext.of_allocs2 (by assumption))).trans hb
    refine bodyPost_ret (v := .agg #[.int .i64 0, .int .i64 0, .int .i64 0, .int .i64 0]) (by simp only [results, Try.results95]; go_simp) rfl ⟨rfl, ?_⟩
    clear hc hf hb
    repeat' (first | exact hE | refine Ext.set ?_ ?_ _)
    all_goals (simp; omega)

set_option maxHeartbeats 1000000 in
theorem and_any (x y a b p q c d : Int) (w : World) :
    Calls Try.prog 95 #[.agg #[.int .i64 x, .int .i64 y, .int .i64 a, .int .i64 b], .agg #[.int .i64 p, .int .i64 q, .int .i64 c, .int .i64 d]] w fun e w' =>
      e = .returned (.agg #[.int .i64 (Rect.and ⟨x, y, a, b⟩ ⟨p, q, c, d⟩).x, .int .i64 (Rect.and ⟨x, y, a, b⟩ ⟨p, q, c, d⟩).y, .int .i64 (Rect.and ⟨x, y, a, b⟩ ⟨p, q, c, d⟩).w, .int .i64 (Rect.and ⟨x, y, a, b⟩ ⟨p, q, c, d⟩).h]) ∧ Ext w w' := by
  cases h1 : Rect.empty ⟨x, y, a, b⟩
  · cases h2 : Rect.empty ⟨p, q, c, d⟩
    · have g1 := Rect.empty_iff.1 h1
      have g2 := Rect.empty_iff.1 h2
      dsimp only at g1 g2
      obtain ⟨⟨a1, a2, a3, a4⟩, a5, a6, a7, a8⟩ := g1
      obtain ⟨⟨b1, b2, b3, b4⟩, b5, b6, b7, b8⟩ := g2
      obtain ⟨m1, m2⟩ := mx_bd a1 a2 b1 b2
      obtain ⟨m3, m4⟩ := mx_bd a5 a6 b5 b6
      obtain ⟨m5, m6⟩ := mn_bd (x := x + a) (y := p + c) (l := -1048576) (u := 1048576) (by omega) (by omega) (by omega) (by omega)
      obtain ⟨m7, m8⟩ := mn_bd (x := y + b) (y := q + d) (l := -1048576) (u := 1048576) (by omega) (by omega) (by omega) (by omega)
      have e1 : wrap64 (x + a) = x + a := IntWalk.wrap64_in _ (by omega)
      have e2 : wrap64 (y + b) = y + b := IntWalk.wrap64_in _ (by omega)
      have e3 : wrap64 (p + c) = p + c := IntWalk.wrap64_in _ (by omega)
      have e4 : wrap64 (q + d) = q + d := IntWalk.wrap64_in _ (by omega)
      have e5 : wrap64 (mn (x + a) (p + c) - mx x p) = mn (x + a) (p + c) - mx x p := IntWalk.wrap64_in _ (by omega)
      have e6 : wrap64 (mn (y + b) (q + d) - mx y q) = mn (y + b) (q + d) - mx y q := IntWalk.wrap64_in _ (by omega)
      obtain ⟨R, hr, h34⟩ : ∃ R : Rect, Rect.and ⟨x, y, a, b⟩ ⟨p, q, c, d⟩ = R ∧ (decide (mn (x + a) (p + c) - mx x p ≤ 0) = true ∧ R = Rect.zero ∨ decide (mn (x + a) (p + c) - mx x p ≤ 0) = false ∧ (decide (mn (y + b) (q + d) - mx y q ≤ 0) = true ∧ R = Rect.zero ∨ decide (mn (y + b) (q + d) - mx y q ≤ 0) = false ∧ R = ⟨mx x p, mx y q, mn (x + a) (p + c) - mx x p, mn (y + b) (q + d) - mx y q⟩)) := by
        refine ⟨_, rfl, ?_⟩
        by_cases h3 : mn (x + a) (p + c) - mx x p ≤ 0
        · exact .inl ⟨by simpa using h3, Rect.and_flat (.inl h3)⟩
        · by_cases h4 : mn (y + b) (q + d) - mx y q ≤ 0
          · exact .inr ⟨by simpa using h3, .inl ⟨by simpa using h4, Rect.and_flat (.inr h4)⟩⟩
          · exact .inr ⟨by simpa using h3, .inr ⟨by simpa using h4, Rect.and_meet h1 h2 h3 h4⟩⟩
      rw [hr]
      clear hr m1 m2 m3 m4 m5 m6 m7 m8 a1 a2 a3 a4 a5 a6 a7 a8 b1 b2 b3 b4 b5 b6 b7 b8
      rcases h34 with ⟨h3, rfl⟩ | ⟨h3, ⟨h4, rfl⟩ | ⟨h4, rfl⟩⟩
      all_goals
        go_enter Try.func95, Try.ntmps95
        go_wp2_with (first | (go_at_call 117; refine (span_in _ _ _ _ _).mono ?_; simp only [e1, e2, e3, e4, e5, e6]; rintro e w' ⟨rfl, rfl⟩) | (go_at_call 16; refine (empty_any _ _ _ _ _).mono ?_; rintro e w1 ⟨rfl, hb⟩; obtain ⟨hc, hf⟩ := hb.rules; have hq : w.heap.size + 4 ≤ w1.heap.size := (by have := hb.size; (try simp at this); omega); obtain ⟨z0, z1, z2, z3⟩ := sz4 hq))
        have hE : Ext w w1 := (Ext.of_allocs2 (Ext.of_allocs2 (by assumption))).trans hb
        first
          | refine bodyPost_ret (v := .agg #[.int .i64 0, .int .i64 0, .int .i64 0, .int .i64 0]) (by simp only [results, Try.results95]; go_simp; done) rfl ⟨rfl, ?_⟩
          | refine bodyPost_ret (v := .agg #[.int .i64 (mx x p), .int .i64 (mx y q), .int .i64 (mn (x + a) (p + c) - mx x p), .int .i64 (mn (y + b) (q + d) - mx y q)]) (by simp only [results, Try.results95]; go_simp; done) rfl ⟨rfl, ?_⟩
        clear hc hf hb
        repeat' (first | exact hE | refine Ext.set ?_ ?_ _)
        all_goals (simp; omega)
    · rw [Rect.and_empty_r h2]
      exact and_zero x y a b p q c d w (.inr ⟨h1, h2⟩)
  · rw [Rect.and_empty_l h1]
    exact and_zero x y a b p q c d w (.inl h1)
end Go.Proofs.Ytjghghbldifhaaa
set_option linter.unusedSimpArgs false
set_option linter.unusedVariables false
namespace Go.Proofs.Ytjghghbldifhaaa
open Go.RowKit

theorem eq_rect (x y a b p q c d : Int) (w : World) : (binOp .eql 26 (.agg #[.int .i64 x, .int .i64 y, .int .i64 a, .int .i64 b]) (.agg #[.int .i64 p, .int .i64 q, .int .i64 c, .int .i64 d])).run Try.prog w = .ok (.bool (Rect.eqB ⟨x, y, a, b⟩ ⟨p, q, c, d⟩)) w := by
  have hS : Try.prog.underlying 26 = some (.struct (Try.prog.fieldsOf 26)) := by kernel_rfl
  have hp : Try.prog.stoodInHeld 26 = false := by kernel_rfl
  rw [run_eql_struct, show (10000 : Nat) = 9999 + 1 from rfl, run_equalIn_agg w 9999 26 _ _ hS hp]
  simp only [Program.fieldsOf, Try.underlying26]
  go_simp
  simp only [Rect.eqB]
  by_cases h1 : x = p <;> by_cases h2 : y = q <;> by_cases h3 : a = c <;> by_cases h4 : b = d <;> simp [h1, h2, h3, h4]
attribute [local go_sem ↓] eq_rect
set_option maxHeartbeats 1000000 in
theorem in_any (x y a b p q c d : Int) (w : World) :
    Calls Try.prog 50 #[.agg #[.int .i64 x, .int .i64 y, .int .i64 a, .int .i64 b], .agg #[.int .i64 p, .int .i64 q, .int .i64 c, .int .i64 d]] w fun e w' =>
      e = .returned (.bool (Rect.within ⟨x, y, a, b⟩ ⟨p, q, c, d⟩)) ∧ Ext w w' := by
  have k0 := After.blk (w := (w.alloc (.cells #[.int .i64 x, .int .i64 y, .int .i64 a, .int .i64 b] 26)).alloc (.cells #[.int .i64 p, .int .i64 q, .int .i64 c, .int .i64 d] 26)) (g := w.heap.size) (cs := #[.int .i64 x, .int .i64 y, .int .i64 a, .int .i64 b]) (t := 26) (fr := (0, 0)) (by rw [Below.heap_alloc _ _ _ (by simp)]; exact heap_alloc_new _ _)
  have k1 := After.blk (w := (w.alloc (.cells #[.int .i64 x, .int .i64 y, .int .i64 a, .int .i64 b] 26)).alloc (.cells #[.int .i64 p, .int .i64 q, .int .i64 c, .int .i64 d] 26)) (g := w.heap.size + 1) (cs := #[.int .i64 p, .int .i64 q, .int .i64 c, .int .i64 d]) (t := 26) (fr := (0, 0)) (by simpa using heap_alloc_new (w.alloc (.cells #[.int .i64 x, .int .i64 y, .int .i64 a, .int .i64 b] 26)) _)
  cases h1 : Rect.empty ⟨x, y, a, b⟩
  all_goals
    have he := fun w => empty_any x y a b w
    simp only [h1] at he
    go_enter Try.func50, Try.ntmps50
    go_wp2
    refine wp_region_after (by kernel_rfl) (by kernel_rfl) ?_
    repeat (go_big_quiet_step (first | exact Calls.after (he _) | exact Calls.after (and_any _ _ _ _ _ _ _ _ _)))
    refine wpQuiet_nil ?_
    intro _ hw'
    obtain ⟨x, rfl⟩ := hw'
    have hE := x.ext
    go_wp2
    go_ret
    exact ⟨by simp [Rect.within, h1], Ext.of_allocs2 hE⟩
set_option maxHeartbeats 1000000 in
theorem or_any (x y a b p q c d : Int) (w : World) :
    Calls Try.prog 86 #[.agg #[.int .i64 x, .int .i64 y, .int .i64 a, .int .i64 b], .agg #[.int .i64 p, .int .i64 q, .int .i64 c, .int .i64 d]] w fun e w' =>
      e = .returned (.agg #[.int .i64 (Rect.or ⟨x, y, a, b⟩ ⟨p, q, c, d⟩).x, .int .i64 (Rect.or ⟨x, y, a, b⟩ ⟨p, q, c, d⟩).y, .int .i64 (Rect.or ⟨x, y, a, b⟩ ⟨p, q, c, d⟩).w, .int .i64 (Rect.or ⟨x, y, a, b⟩ ⟨p, q, c, d⟩).h]) ∧ Ext w w' := by
  obtain ⟨R, hr⟩ : ∃ R : Rect, Rect.or ⟨x, y, a, b⟩ ⟨p, q, c, d⟩ = R := ⟨_, rfl⟩
  rw [hr]
  cases h1 : Rect.empty ⟨x, y, a, b⟩
  all_goals cases h2 : Rect.empty ⟨p, q, c, d⟩
  all_goals simp only [Rect.or, h1, h2, if_true, Bool.false_eq_true, if_false] at hr
  all_goals subst hr
  · have g1 := Rect.empty_iff.1 h1
    have g2 := Rect.empty_iff.1 h2
    dsimp only at g1 g2
    obtain ⟨⟨a1, a2, a3, a4⟩, a5, a6, a7, a8⟩ := g1
    obtain ⟨⟨b1, b2, b3, b4⟩, b5, b6, b7, b8⟩ := g2
    obtain ⟨m1, m2⟩ := mn_bd a1 a2 b1 b2
    obtain ⟨m3, m4⟩ := mn_bd a5 a6 b5 b6
    obtain ⟨m5, m6⟩ := mx_bd (x := x + a) (y := p + c) (l := -1048576) (u := 1048576) (by omega) (by omega) (by omega) (by omega)
    obtain ⟨m7, m8⟩ := mx_bd (x := y + b) (y := q + d) (l := -1048576) (u := 1048576) (by omega) (by omega) (by omega) (by omega)
    have e1 : wrap64 (x + a) = x + a := IntWalk.wrap64_in _ (by omega)
    have e2 : wrap64 (y + b) = y + b := IntWalk.wrap64_in _ (by omega)
    have e3 : wrap64 (p + c) = p + c := IntWalk.wrap64_in _ (by omega)
    have e4 : wrap64 (q + d) = q + d := IntWalk.wrap64_in _ (by omega)
    have e5 : wrap64 (mx (x + a) (p + c) - mn x p) = mx (x + a) (p + c) - mn x p := IntWalk.wrap64_in _ (by omega)
    have e6 : wrap64 (mx (y + b) (q + d) - mn y q) = mx (y + b) (q + d) - mn y q := IntWalk.wrap64_in _ (by omega)
    clear m1 m2 m3 m4 m5 m6 m7 m8 a1 a2 a3 a4 a5 a6 a7 a8 b1 b2 b3 b4 b5 b6 b7 b8
    go_enter Try.func86, Try.ntmps86
    go_wp2_with (first | (go_at_call 117; refine (span_or _ _ _ _ _).mono ?_; simp only [e1, e2, e3, e4, e5, e6]; rintro e w' ⟨rfl, rfl⟩) | (go_at_call 16; refine (empty_any _ _ _ _ _).mono ?_; rintro e w1 ⟨rfl, hb⟩; obtain ⟨hc, hf⟩ := hb.rules; have hq : w.heap.size + 3 ≤ w1.heap.size := (by have := hb.size; (try simp at this); omega); obtain ⟨z0, z1, z2⟩ := sz3 hq; have hE : Ext w w1 := (by first | exact Ext.of_alloc (Ext.of_allocs2 hb) | exact Ext.trans (by assumption) hb); clear hb))
    refine bodyPost_ret (v := .agg #[.int .i64 (mn x p), .int .i64 (mn y q), .int .i64 (mx (x + a) (p + c) - mn x p), .int .i64 (mx (y + b) (q + d) - mn y q)]) (by simp only [results, Try.results86]; go_simp; done) rfl ⟨rfl, ?_⟩
    clear hc hf
    repeat' (first | exact hE | refine Ext.set ?_ ?_ _ | refine Ext.alloc ?_ _)
    all_goals (simp; omega)
  all_goals
    go_enter Try.func86, Try.ntmps86
    go_wp2_with (first | (go_at_call 16; refine (empty_any _ _ _ _ _).mono ?_; rintro e w1 ⟨rfl, hb⟩; obtain ⟨hc, hf⟩ := hb.rules; have hq : w.heap.size + 3 ≤ w1.heap.size := (by have := hb.size; (try simp at this); omega); obtain ⟨z0, z1, z2⟩ := sz3 hq; have hE : Ext w w1 := (by first | exact Ext.of_alloc (Ext.of_allocs2 hb) | exact Ext.trans (by assumption) hb); clear hb))
    first
      | refine bodyPost_ret (v := .agg #[.int .i64 0, .int .i64 0, .int .i64 0, .int .i64 0]) (by simp only [results, Try.results86]; go_simp; done) rfl ⟨rfl, ?_⟩
      | refine bodyPost_ret (v := .agg #[.int .i64 x, .int .i64 y, .int .i64 a, .int .i64 b]) (by simp only [results, Try.results86]; go_simp; done) rfl ⟨rfl, ?_⟩
      | refine bodyPost_ret (v := .agg #[.int .i64 p, .int .i64 q, .int .i64 c, .int .i64 d]) (by simp only [results, Try.results86]; go_simp; done) rfl ⟨rfl, ?_⟩
    clear hc hf
    repeat' (first | exact hE | refine Ext.set ?_ ?_ _ | refine Ext.alloc ?_ _)
    all_goals (simp; omega)
end Go.Proofs.Ytjghghbldifhaaa
set_option linter.unusedSimpArgs false
set_option linter.unusedVariables false
namespace Go.Proofs.Ytjghghbldifhaaa
open Go.RowKit

theorem shift_cases (x y a b dx dy : Int) {R : Rect} (hr : Rect.shift ⟨x, y, a, b⟩ dx dy = R) :
    Rect.good ⟨x, y, a, b⟩ = false ∧ R = Rect.zero ∨ Rect.good ⟨x, y, a, b⟩ = true ∧ within dx (-4194304) 4194304 = false ∧ R = Rect.zero ∨ Rect.good ⟨x, y, a, b⟩ = true ∧ within dx (-4194304) 4194304 = true ∧ within dy (-4194304) 4194304 = false ∧ R = Rect.zero ∨
      Rect.good ⟨x, y, a, b⟩ = true ∧ within dx (-4194304) 4194304 = true ∧ within dy (-4194304) 4194304 = true ∧ wrap64 (x + dx) = x + dx ∧ wrap64 (y + dy) = y + dy ∧ (Rect.good ⟨x + dx, y + dy, a, b⟩ = false ∧ R = Rect.zero ∨ Rect.good ⟨x + dx, y + dy, a, b⟩ = true ∧ R = ⟨x + dx, y + dy, a, b⟩) := by
  unfold Rect.shift at hr
  cases h1 : Rect.good ⟨x, y, a, b⟩ <;> simp only [h1, Bool.false_and, Bool.true_and, Bool.false_eq_true, if_false] at hr
  · exact .inl ⟨rfl, hr.symm⟩
  · refine .inr ?_
    have hg := Rect.good_iff.1 h1
    dsimp only at hg
    cases h2 : within dx (-4194304) 4194304 <;> simp only [h2, Bool.false_and, Bool.true_and, Bool.false_eq_true, if_false] at hr
    · exact .inl ⟨rfl, rfl, hr.symm⟩
    · refine .inr ?_
      have g2 := within_iff.1 h2
      cases h3 : within dy (-4194304) 4194304 <;> simp only [h3, Bool.false_and, Bool.true_and, Bool.false_eq_true, if_false] at hr
      · exact .inl ⟨rfl, rfl, rfl, hr.symm⟩
      · have g3 := within_iff.1 h3
        refine .inr ⟨rfl, rfl, rfl, IntWalk.wrap64_in _ (by omega), IntWalk.wrap64_in _ (by omega), ?_⟩
        simp only [Rect.move] at hr
        cases h4 : Rect.good ⟨x + dx, y + dy, a, b⟩ <;> simp only [h4, Bool.false_eq_true, if_false, if_true] at hr
        · exact .inl ⟨rfl, hr.symm⟩
        · exact .inr ⟨rfl, hr.symm⟩
set_option maxHeartbeats 1000000 in
theorem shift_any (x y a b dx dy : Int) (w : World) :
    Calls Try.prog 17 #[.agg #[.int .i64 x, .int .i64 y, .int .i64 a, .int .i64 b], .int .i64 dx, .int .i64 dy] w fun e w' =>
      e = .returned (.agg #[.int .i64 (Rect.shift ⟨x, y, a, b⟩ dx dy).x, .int .i64 (Rect.shift ⟨x, y, a, b⟩ dx dy).y, .int .i64 (Rect.shift ⟨x, y, a, b⟩ dx dy).w, .int .i64 (Rect.shift ⟨x, y, a, b⟩ dx dy).h]) ∧ Ext w w' := by
  obtain ⟨R, hr⟩ : ∃ R : Rect, Rect.shift ⟨x, y, a, b⟩ dx dy = R := ⟨_, rfl⟩
  rw [hr]
  have key := shift_cases x y a b dx dy hr
  clear hr
  rcases key with ⟨h1, rfl⟩ | ⟨h1, h2, rfl⟩ | ⟨h1, h2, h3, rfl⟩ | ⟨h1, h2, h3, e1, e2, ⟨h4, rfl⟩ | ⟨h4, rfl⟩⟩
  all_goals
    go_enter Try.func17, Try.ntmps17
    go_wp2_with fail
    refine (good_any _ _ _ _ _).mono ?_
    rintro e w1 ⟨rfl, hb⟩
    obtain ⟨k0, k1, hE⟩ := ext2 hb
    obtain ⟨c0, f0⟩ := blk_rules k0
    obtain ⟨c1, f1⟩ := blk_rules k1
    clear hb
    go_wp2_with (go_at_call 77; refine (within_any _ _ _ _).mono ?_; rintro e w' ⟨rfl, rfl⟩)
    first
      | refine bodyPost_ret (v := .agg #[.int .i64 0, .int .i64 0, .int .i64 0, .int .i64 0]) (by simp only [results, Try.results17]; go_simp; done) rfl ⟨rfl, ?_⟩
      | (refine (good_any _ _ _ _ _).mono ?_
         rintro e w2 ⟨rfl, hb⟩
         have j0 := hb.keep (blk_set (blk_set k0 _ _) _ _)
         have j1 := hb.keep (blk_set_ne (blk_set_ne k1 (by omega) _ _) (by omega) _ _)
         have hE := Ext.trans (Ext.set (Ext.set hE (by simp) _) (by simp) _) hb
         clear hb
         obtain ⟨d0, g0⟩ := blk_rules j0
         obtain ⟨d1, g1⟩ := blk_rules j1
         go_wp2
         first
           | refine bodyPost_ret (v := .agg #[.int .i64 0, .int .i64 0, .int .i64 0, .int .i64 0]) (by simp only [results, Try.results17]; go_simp; done) rfl ⟨rfl, ?_⟩
           | refine bodyPost_ret (v := .agg #[.int .i64 (x + dx), .int .i64 (y + dy), .int .i64 a, .int .i64 b]) (by simp only [results, Try.results17]; go_simp; done) rfl ⟨rfl, ?_⟩)
    repeat' (first | exact hE | refine Ext.set ?_ ?_ _)
    all_goals (simp; done)
end Go.Proofs.Ytjghghbldifhaaa
