/- The walks of package vignetteref01: the same rectangles, told by the reference. -/
import Derived.Test.YtilcggkbancniaaRectD
import Derived.Test.YtilcggkbancniaaRefA
set_option linter.unusedVariables false
set_option linter.unusedSimpArgs false
namespace Go.Proofs.Ytilcggkbancniaa
open Go.RowKit
attribute [local go_sem ↓] eq_rect max_mx min_mn

set_option maxHeartbeats 1000000 in
theorem rin_any (x y a b p q c d : Int) (w : World) :
    Calls Try.prog 79 #[.agg #[.int .i64 x, .int .i64 y, .int .i64 a, .int .i64 b], .agg #[.int .i64 p, .int .i64 q, .int .i64 c, .int .i64 d]] w fun e w' =>
      e = .returned (.bool (Rect.within ⟨x, y, a, b⟩ ⟨p, q, c, d⟩)) ∧ Ext w w' := by
  have k0 := After.blk (w := (w.alloc (.cells #[.int .i64 x, .int .i64 y, .int .i64 a, .int .i64 b] 38)).alloc (.cells #[.int .i64 p, .int .i64 q, .int .i64 c, .int .i64 d] 38)) (g := w.heap.size) (cs := #[.int .i64 x, .int .i64 y, .int .i64 a, .int .i64 b]) (t := 38) (fr := (0, 0)) (by rw [Below.heap_alloc _ _ _ (by simp)]; exact heap_alloc_new _ _)
  have k1 := After.blk (w := (w.alloc (.cells #[.int .i64 x, .int .i64 y, .int .i64 a, .int .i64 b] 38)).alloc (.cells #[.int .i64 p, .int .i64 q, .int .i64 c, .int .i64 d] 38)) (g := w.heap.size + 1) (cs := #[.int .i64 p, .int .i64 q, .int .i64 c, .int .i64 d]) (t := 38) (fr := (0, 0)) (by simpa using heap_alloc_new (w.alloc (.cells #[.int .i64 x, .int .i64 y, .int .i64 a, .int .i64 b] 38)) _)
  cases h1 : Rect.empty ⟨x, y, a, b⟩
  all_goals
    have he := fun w => rempty_any x y a b w
    simp only [h1] at he
    go_enter Try.func79, Try.ntmps79
    go_wp2
    refine wp_region_after (by kernel_rfl) (by kernel_rfl) ?_
    repeat (go_big_quiet_step (first | exact Calls.after (he _) | exact Calls.after (rand_any _ _ _ _ _ _ _ _ _)))
    refine wpQuiet_nil ?_
    intro _ hw'
    obtain ⟨x, rfl⟩ := hw'
    have hE := x.ext
    go_wp2
    go_ret
    exact ⟨by simp [Rect.within, h1], Ext.of_allocs2 hE⟩
set_option maxHeartbeats 1000000 in
theorem rshift_any (x y a b dx dy : Int) (w : World) :
    Calls Try.prog 80 #[.agg #[.int .i64 x, .int .i64 y, .int .i64 a, .int .i64 b], .int .i64 dx, .int .i64 dy] w fun e w' =>
      e = .returned (.agg #[.int .i64 (Rect.shift ⟨x, y, a, b⟩ dx dy).x, .int .i64 (Rect.shift ⟨x, y, a, b⟩ dx dy).y, .int .i64 (Rect.shift ⟨x, y, a, b⟩ dx dy).w, .int .i64 (Rect.shift ⟨x, y, a, b⟩ dx dy).h]) ∧ Ext w w' := by
  obtain ⟨R, hr⟩ : ∃ R : Rect, Rect.shift ⟨x, y, a, b⟩ dx dy = R := ⟨_, rfl⟩
  rw [hr]
  have key := shift_cases x y a b dx dy hr
  clear hr
  have out : ∀ n, within n (-4194304) 4194304 = false → n < -4194304 ∨ -4194304 ≤ n ∧ 4194304 < n := fun n h => by
    by_cases h1 : n < -4194304
    · exact .inl h1
    · refine .inr ⟨by omega, ?_⟩
      have : ¬ (within n (-4194304) 4194304 = true) := by rw [h]; simp
      rw [within_iff] at this
      omega
  have inn : ∀ n, within n (-4194304) 4194304 = true → -4194304 ≤ n ∧ n ≤ 4194304 := fun n h => within_iff.1 h
  replace key : Rect.good ⟨x, y, a, b⟩ = false ∧ R = Rect.zero ∨ Rect.good ⟨x, y, a, b⟩ = true ∧ dx < -4194304 ∧ R = Rect.zero ∨ Rect.good ⟨x, y, a, b⟩ = true ∧ (-4194304 ≤ dx ∧ 4194304 < dx) ∧ R = Rect.zero ∨
      Rect.good ⟨x, y, a, b⟩ = true ∧ (-4194304 ≤ dx ∧ dx ≤ 4194304) ∧ dy < -4194304 ∧ R = Rect.zero ∨ Rect.good ⟨x, y, a, b⟩ = true ∧ (-4194304 ≤ dx ∧ dx ≤ 4194304) ∧ (-4194304 ≤ dy ∧ 4194304 < dy) ∧ R = Rect.zero ∨
      Rect.good ⟨x, y, a, b⟩ = true ∧ (-4194304 ≤ dx ∧ dx ≤ 4194304) ∧ (-4194304 ≤ dy ∧ dy ≤ 4194304) ∧ wrap64 (x + dx) = x + dx ∧ wrap64 (y + dy) = y + dy ∧ (Rect.good ⟨x + dx, y + dy, a, b⟩ = false ∧ R = Rect.zero ∨ Rect.good ⟨x + dx, y + dy, a, b⟩ = true ∧ R = ⟨x + dx, y + dy, a, b⟩) := by
    rcases key with ⟨h1, h⟩ | ⟨h1, h2, h⟩ | ⟨h1, h2, h3, h⟩ | ⟨h1, h2, h3, e1, e2, h⟩
    · exact .inl ⟨h1, h⟩
    · rcases out _ h2 with h2 | h2
      · exact .inr (.inl ⟨h1, h2, h⟩)
      · exact .inr (.inr (.inl ⟨h1, h2, h⟩))
    · rcases out _ h3 with h3 | h3
      · exact .inr (.inr (.inr (.inl ⟨h1, inn _ h2, h3, h⟩)))
      · exact .inr (.inr (.inr (.inr (.inl ⟨h1, inn _ h2, h3, h⟩))))
    · exact .inr (.inr (.inr (.inr (.inr ⟨h1, inn _ h2, inn _ h3, e1, e2, h⟩))))
  clear out inn
  rcases key with ⟨h1, rfl⟩ | ⟨h1, h2, rfl⟩ | ⟨h1, ⟨h2, h2'⟩, rfl⟩ | ⟨h1, ⟨h2, h2'⟩, h3, rfl⟩ | ⟨h1, ⟨h2, h2'⟩, ⟨h3, h3'⟩, rfl⟩ | ⟨h1, ⟨h2, h2'⟩, ⟨h3, h3'⟩, e1, e2, ⟨h4, rfl⟩ | ⟨h4, rfl⟩⟩
  all_goals
    go_enter Try.func80, Try.ntmps80
    go_wp2_with fail
    refine (rgood_any _ _ _ _ _).mono ?_
    rintro e w1 ⟨rfl, hb⟩
    obtain ⟨k0, k1, hE⟩ := ext2 hb
    obtain ⟨c0, f0⟩ := blk_rules k0
    obtain ⟨c1, f1⟩ := blk_rules k1
    clear hb
    go_wp2_with fail
    first
      | refine bodyPost_ret (v := .agg #[.int .i64 0, .int .i64 0, .int .i64 0, .int .i64 0]) (by simp only [results, Try.results80]; go_simp; done) rfl ⟨rfl, ?_⟩
      | (refine (rgood_any _ _ _ _ _).mono ?_
         rintro e w2 ⟨rfl, hb⟩
         have j0 := hb.keep (blk_set (blk_set k0 _ _) _ _)
         have j1 := hb.keep (blk_set_ne (blk_set_ne k1 (by omega) _ _) (by omega) _ _)
         have hE := Ext.trans (Ext.set (Ext.set hE (by simp) _) (by simp) _) hb
         clear hb
         obtain ⟨d0, g0⟩ := blk_rules j0
         obtain ⟨d1, g1⟩ := blk_rules j1
         go_wp2
         first
           | refine bodyPost_ret (v := .agg #[.int .i64 0, .int .i64 0, .int .i64 0, .int .i64 0]) (by simp only [results, Try.results80]; go_simp; done) rfl ⟨rfl, ?_⟩
           | refine bodyPost_ret (v := .agg #[.int .i64 (x + dx), .int .i64 (y + dy), .int .i64 a, .int .i64 b]) (by simp only [results, Try.results80]; go_simp; done) rfl ⟨rfl, ?_⟩)
    repeat' (first | exact hE | refine Ext.set ?_ ?_ _)
    all_goals (simp; done)
end Go.Proofs.Ytilcggkbancniaa
