/- The walks of package rect, the third part: In, Or, Shift. -/
import Derived.Test.YtilcggkbancniaaProg
import Derived.Test.YtilcggkbancniaaPure
import Derived.Test.YtilcggkbancniaaLib
import Derived.Test.YtilcggkbancniaaRectB
set_option linter.unusedSimpArgs false
set_option linter.unusedVariables false
namespace Go.Proofs.Ytilcggkbancniaa
open Go.RowKit

theorem eq_rect (x y a b p q c d : Int) (w : World) : (binOp .eql 38 (.agg #[.int .i64 x, .int .i64 y, .int .i64 a, .int .i64 b]) (.agg #[.int .i64 p, .int .i64 q, .int .i64 c, .int .i64 d])).run Try.prog w = .ok (.bool (Rect.eqB ⟨x, y, a, b⟩ ⟨p, q, c, d⟩)) w := by
  have hS : Try.prog.underlying 38 = some (.struct (Try.prog.fieldsOf 38)) := by kernel_rfl
  have hp : Try.prog.stoodInHeld 38 = false := by kernel_rfl
  rw [run_eql_struct, show (10000 : Nat) = 9999 + 1 from rfl, run_equalIn_agg w 9999 38 _ _ hS hp]
  simp only [Program.fieldsOf, Try.underlying38]
  go_simp
  simp only [Rect.eqB]
  by_cases h1 : x = p <;> by_cases h2 : y = q <;> by_cases h3 : a = c <;> by_cases h4 : b = d <;> simp [h1, h2, h3, h4]
attribute [local go_sem ↓] eq_rect
set_option maxHeartbeats 1000000 in
theorem in_any (x y a b p q c d : Int) (w : World) :
    Calls Try.prog 37 #[.agg #[.int .i64 x, .int .i64 y, .int .i64 a, .int .i64 b], .agg #[.int .i64 p, .int .i64 q, .int .i64 c, .int .i64 d]] w fun e w' =>
      e = .returned (.bool (Rect.within ⟨x, y, a, b⟩ ⟨p, q, c, d⟩)) ∧ Ext w w' := by
  have k0 := After.blk (w := (w.alloc (.cells #[.int .i64 x, .int .i64 y, .int .i64 a, .int .i64 b] 38)).alloc (.cells #[.int .i64 p, .int .i64 q, .int .i64 c, .int .i64 d] 38)) (g := w.heap.size) (cs := #[.int .i64 x, .int .i64 y, .int .i64 a, .int .i64 b]) (t := 38) (fr := (0, 0)) (by rw [Below.heap_alloc _ _ _ (by simp)]; exact heap_alloc_new _ _)
  have k1 := After.blk (w := (w.alloc (.cells #[.int .i64 x, .int .i64 y, .int .i64 a, .int .i64 b] 38)).alloc (.cells #[.int .i64 p, .int .i64 q, .int .i64 c, .int .i64 d] 38)) (g := w.heap.size + 1) (cs := #[.int .i64 p, .int .i64 q, .int .i64 c, .int .i64 d]) (t := 38) (fr := (0, 0)) (by simpa using heap_alloc_new (w.alloc (.cells #[.int .i64 x, .int .i64 y, .int .i64 a, .int .i64 b] 38)) _)
  cases h1 : Rect.empty ⟨x, y, a, b⟩
  all_goals
    have he := fun w => empty_any x y a b w
    simp only [h1] at he
    go_enter Try.func37, Try.ntmps37
    go_wp2
    refine wp_region_after (by kernel_rfl) (by kernel_rfl) ?_
    repeat (go_big_quiet_step (first | exact Calls.after (he _) | exact Calls.after (and_any _ _ _ _ _ _ _ _ _)))
    refine wpQuiet_nil ?_
    intro _ hw'
    obtain ⟨x, rfl⟩ := hw'
    have hE := x.ext
    go_wp2
    go_ret
    exact ⟨by simp [Rect.within, h1], Ext.of_allocs2 hE⟩
set_option maxHeartbeats 1000000 in
theorem or_any (x y a b p q c d : Int) (w : World) :
    Calls Try.prog 97 #[.agg #[.int .i64 x, .int .i64 y, .int .i64 a, .int .i64 b], .agg #[.int .i64 p, .int .i64 q, .int .i64 c, .int .i64 d]] w fun e w' =>
      e = .returned (.agg #[.int .i64 (Rect.or ⟨x, y, a, b⟩ ⟨p, q, c, d⟩).x, .int .i64 (Rect.or ⟨x, y, a, b⟩ ⟨p, q, c, d⟩).y, .int .i64 (Rect.or ⟨x, y, a, b⟩ ⟨p, q, c, d⟩).w, .int .i64 (Rect.or ⟨x, y, a, b⟩ ⟨p, q, c, d⟩).h]) ∧ Ext w w' := by
  obtain ⟨R, hr⟩ : ∃ R : Rect, Rect.or ⟨x, y, a, b⟩ ⟨p, q, c, d⟩ = R := ⟨_, rfl⟩
  rw [hr]
  cases h1 : Rect.empty ⟨x, y, a, b⟩
  all_goals cases h2 : Rect.empty ⟨p, q, c, d⟩
  all_goals simp only [Rect.or, h1, h2, if_true, Bool.false_eq_true, if_false] at hr
  all_goals subst hr
  · have g1 := Rect.empty_iff.1 h1
    have g2 := Rect.empty_iff.1 h2
    dsimp only at g1 g2
    obtain ⟨⟨a1, a2, a3, a4⟩, a5, a6, a7, a8⟩ := g1
    obtain ⟨⟨b1, b2, b3, b4⟩, b5, b6, b7, b8⟩ := g2
    obtain ⟨m1, m2⟩ := mn_bd a1 a2 b1 b2
    obtain ⟨m3, m4⟩ := mn_bd a5 a6 b5 b6
    obtain ⟨m5, m6⟩ := mx_bd (x := x + a) (y := p + c) (l := -1048576) (u := 1048576) (by omega) (by omega) (by omega) (by omega)
    obtain ⟨m7, m8⟩ := mx_bd (x := y + b) (y := q + d) (l := -1048576) (u := 1048576) (by omega) (by omega) (by omega) (by omega)
    have e1 : wrap64 (x + a) = x + a := IntWalk.wrap64_in _ (by omega)
    have e2 : wrap64 (y + b) = y + b := IntWalk.wrap64_in _ (by omega)
    have e3 : wrap64 (p + c) = p + c := IntWalk.wrap64_in _ (by omega)
    have e4 : wrap64 (q + d) = q + d := IntWalk.wrap64_in _ (by omega)
    have e5 : wrap64 (mx (x + a) (p + c) - mn x p) = mx (x + a) (p + c) - mn x p := IntWalk.wrap64_in _ (by omega)
    have e6 : wrap64 (mx (y + b) (q + d) - mn y q) = mx (y + b) (q + d) - mn y q := IntWalk.wrap64_in _ (by omega)
    clear m1 m2 m3 m4 m5 m6 m7 m8 a1 a2 a3 a4 a5 a6 a7 a8 b1 b2 b3 b4 b5 b6 b7 b8
    go_enter Try.func97, Try.ntmps97
    go_wp2_with (first | (go_at_call 105; refine (span_or _ _ _ _ _).mono ?_; simp only [e1, e2, e3, e4, e5, e6]; rintro e w' ⟨rfl, rfl⟩) | (go_at_call 36; refine (empty_any _ _ _ _ _).mono ?_; rintro e w1 ⟨rfl, hb⟩; obtain ⟨hc, hf⟩ := hb.rules; have hq : w.heap.size + 3 ≤ w1.heap.size := (by have := hb.size; (try simp at this); omega); obtain ⟨z0, z1, z2⟩ := sz3 hq; have hE : Ext w w1 := (by first | exact Ext.of_alloc (Ext.of_allocs2 hb) | exact Ext.trans (by assumption) hb); clear hb))
    refine bodyPost_ret (v := .agg #[.int .i64 (mn x p), .int .i64 (mn y q), .int .i64 (mx (x + a) (p + c) - mn x p), .int .i64 (mx (y + b) (q + d) - mn y q)]) (by simp only [results, Try.results97]; go_simp; done) rfl ⟨rfl, ?_⟩
    clear hc hf
    repeat' (first | exact hE | refine Ext.set ?_ ?_ _ | refine Ext.alloc ?_ _)
    all_goals (simp; omega)
  all_goals
    go_enter Try.func97, Try.ntmps97
    go_wp2_with (first | (go_at_call 36; refine (empty_any _ _ _ _ _).mono ?_; rintro e w1 ⟨rfl, hb⟩; obtain ⟨hc, hf⟩ := hb.rules; have hq : w.heap.size + 3 ≤ w1.heap.size := (by have := hb.size; (try simp at this); omega); obtain ⟨z0, z1, z2⟩ := sz3 hq; have hE : Ext w w1 := (by first | exact Ext.of_alloc (Ext.of_allocs2 hb) | exact Ext.trans (by assumption) hb); clear hb))
    first
      | refine bodyPost_ret (v := .agg #[.int .i64 0, .int .i64 0, .int .i64 0, .int .i64 0]) (by simp only [results, Try.results97]; go_simp; done) rfl ⟨rfl, ?_⟩
      | refine bodyPost_ret (v := .agg #[.int .i64 x, .int .i64 y, .int .i64 a, .int .i64 b]) (by simp only [results, Try.results97]; go_simp; done) rfl ⟨rfl, ?_⟩
      | refine bodyPost_ret (v := .agg #[.int .i64 p, .int .i64 q, .int .i64 c, .int .i64 d]) (by simp only [results, Try.results97]; go_simp; done) rfl ⟨rfl, ?_⟩
    clear hc hf
    repeat' (first | exact hE | refine Ext.set ?_ ?_ _ | refine Ext.alloc ?_ _)
    all_goals (simp; omega)
end Go.Proofs.Ytilcggkbancniaa
