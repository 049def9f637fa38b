/- The walks of package rect, the fourth part: Shift. -/
import Derived.Test.YtilcggkbancniaaProg
import Derived.Test.YtilcggkbancniaaPure
import Derived.Test.YtilcggkbancniaaLib
import Derived.Test.YtilcggkbancniaaRectC
set_option linter.unusedSimpArgs false
set_option linter.unusedVariables false
namespace Go.Proofs.Ytilcggkbancniaa
open Go.RowKit

theorem shift_cases (x y a b dx dy : Int) {R : Rect} (hr : Rect.shift ⟨x, y, a, b⟩ dx dy = R) :
    Rect.good ⟨x, y, a, b⟩ = false ∧ R = Rect.zero ∨ Rect.good ⟨x, y, a, b⟩ = true ∧ within dx (-4194304) 4194304 = false ∧ R = Rect.zero ∨ Rect.good ⟨x, y, a, b⟩ = true ∧ within dx (-4194304) 4194304 = true ∧ within dy (-4194304) 4194304 = false ∧ R = Rect.zero ∨
      Rect.good ⟨x, y, a, b⟩ = true ∧ within dx (-4194304) 4194304 = true ∧ within dy (-4194304) 4194304 = true ∧ wrap64 (x + dx) = x + dx ∧ wrap64 (y + dy) = y + dy ∧ (Rect.good ⟨x + dx, y + dy, a, b⟩ = false ∧ R = Rect.zero ∨ Rect.good ⟨x + dx, y + dy, a, b⟩ = true ∧ R = ⟨x + dx, y + dy, a, b⟩) := by
  unfold Rect.shift at hr
  cases h1 : Rect.good ⟨x, y, a, b⟩ <;> simp only [h1, Bool.false_and, Bool.true_and, Bool.false_eq_true, if_false] at hr
  · exact .inl ⟨rfl, hr.symm⟩
  · refine .inr ?_
    have hg := Rect.good_iff.1 h1
    dsimp only at hg
    cases h2 : within dx (-4194304) 4194304 <;> simp only [h2, Bool.false_and, Bool.true_and, Bool.false_eq_true, if_false] at hr
    · exact .inl ⟨rfl, rfl, hr.symm⟩
    · refine .inr ?_
      have g2 := within_iff.1 h2
      cases h3 : within dy (-4194304) 4194304 <;> simp only [h3, Bool.false_and, Bool.true_and, Bool.false_eq_true, if_false] at hr
      · exact .inl ⟨rfl, rfl, rfl, hr.symm⟩
      · have g3 := within_iff.1 h3
        refine .inr ⟨rfl, rfl, rfl, IntWalk.wrap64_in _ (by omega), IntWalk.wrap64_in _ (by omega), ?_⟩
        simp only [Rect.move] at hr
        cases h4 : Rect.good ⟨x + dx, y + dy, a, b⟩ <;> simp only [h4, Bool.false_eq_true, if_false, if_true] at hr
        · exact .inl ⟨rfl, hr.symm⟩
        · exact .inr ⟨rfl, hr.symm⟩
set_option maxHeartbeats 1000000 in
theorem shift_any (x y a b dx dy : Int) (w : World) :
    Calls Try.prog 39 #[.agg #[.int .i64 x, .int .i64 y, .int .i64 a, .int .i64 b], .int .i64 dx, .int .i64 dy] w fun e w' =>
      e = .returned (.agg #[.int .i64 (Rect.shift ⟨x, y, a, b⟩ dx dy).x, .int .i64 (Rect.shift ⟨x, y, a, b⟩ dx dy).y, .int .i64 (Rect.shift ⟨x, y, a, b⟩ dx dy).w, .int .i64 (Rect.shift ⟨x, y, a, b⟩ dx dy).h]) ∧ Ext w w' := by
  obtain ⟨R, hr⟩ : ∃ R : Rect, Rect.shift ⟨x, y, a, b⟩ dx dy = R := ⟨_, rfl⟩
  rw [hr]
  have key := shift_cases x y a b dx dy hr
  clear hr
  rcases key with ⟨h1, rfl⟩ | ⟨h1, h2, rfl⟩ | ⟨h1, h2, h3, rfl⟩ | ⟨h1, h2, h3, e1, e2, ⟨h4, rfl⟩ | ⟨h4, rfl⟩⟩
  all_goals
    go_enter Try.func39, Try.ntmps39
    go_wp2_with fail
    refine (good_any _ _ _ _ _).mono ?_
    rintro e w1 ⟨rfl, hb⟩
    obtain ⟨k0, k1, hE⟩ := ext2 hb
    obtain ⟨c0, f0⟩ := blk_rules k0
    obtain ⟨c1, f1⟩ := blk_rules k1
    clear hb
    go_wp2_with (go_at_call 85; refine (within_any _ _ _ _).mono ?_; rintro e w' ⟨rfl, rfl⟩)
    first
      | refine bodyPost_ret (v := .agg #[.int .i64 0, .int .i64 0, .int .i64 0, .int .i64 0]) (by simp only [results, Try.results39]; go_simp; done) rfl ⟨rfl, ?_⟩
      | (refine (good_any _ _ _ _ _).mono ?_
         rintro e w2 ⟨rfl, hb⟩
         have j0 := hb.keep (blk_set (blk_set k0 _ _) _ _)
         have j1 := hb.keep (blk_set_ne (blk_set_ne k1 (by omega) _ _) (by omega) _ _)
         have hE := Ext.trans (Ext.set (Ext.set hE (by simp) _) (by simp) _) hb
         clear hb
         obtain ⟨d0, g0⟩ := blk_rules j0
         obtain ⟨d1, g1⟩ := blk_rules j1
         go_wp2
         first
           | refine bodyPost_ret (v := .agg #[.int .i64 0, .int .i64 0, .int .i64 0, .int .i64 0]) (by simp only [results, Try.results39]; go_simp; done) rfl ⟨rfl, ?_⟩
           | refine bodyPost_ret (v := .agg #[.int .i64 (x + dx), .int .i64 (y + dy), .int .i64 a, .int .i64 b]) (by simp only [results, Try.results39]; go_simp; done) rfl ⟨rfl, ?_⟩)
    repeat' (first | exact hE | refine Ext.set ?_ ?_ _)
    all_goals (simp; done)
end Go.Proofs.Ytilcggkbancniaa
