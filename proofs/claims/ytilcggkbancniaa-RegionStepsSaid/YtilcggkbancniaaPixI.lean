/- The walks of package pixbuf, the ninth part: Copy. -/
import Derived.Test.YtilcggkbancniaaPixH
set_option linter.unusedVariables false
set_option linter.unusedSimpArgs false
namespace Go.Proofs.Ytilcggkbancniaa
open Go.RowKit Go.Shelf

/-- Is a step far off? -/
def farB (n : Int) : Bool := decide (n < -4194304) || decide (4194304 < n)
theorem farB_iff {n : Int} : farB n = false ↔ -4194304 ≤ n ∧ n ≤ 4194304 := by simp [farB]
set_option maxHeartbeats 1000000 in
theorem far_any (n : Int) (w : World) : Calls Try.prog 77 #[.int .i64 n] w fun e w' => e = .returned (.bool (farB n)) ∧ w = w' := by
  by_cases h1 : n < -4194304
  · go_enter Try.func77, Try.ntmps77
    go_wp2
    go_ret
    exact ⟨by simp [farB, h1], rfl⟩
  · go_enter Try.func77, Try.ntmps77
    go_wp2
    go_ret
    exact ⟨by have h2 : decide (n < -4194304) = false := by simp; omega
              simp [farB, h2], rfl⟩
set_option maxHeartbeats 1000000 in
theorem copy_empty {w : World} {p : Addr} (x y a b dx dy : Int) (h1 : Rect.empty ⟨x, y, a, b⟩ = true) :
    Calls Try.prog 29 #[.pointer (some p), .agg #[.int .i64 x, .int .i64 y, .int .i64 a, .int .i64 b, .int .i64 dx, .int .i64 dy]] w fun e w' => e = .returned (.int .i64 0) ∧ Ext w w' := by
  have he := fun w => empty_any x y a b w
  simp only [h1] at he
  go_enter Try.func29, Try.ntmps29
  go_wp2_with fail
  refine (he _).mono ?_
  rintro e w1 ⟨rfl, hb⟩
  go_wp2
  go_ret
  exact ⟨rfl, ((Ext.refl _).alloc _).trans hb⟩
set_option maxRecDepth 100000 in
set_option maxHeartbeats 2000000 in
theorem copy_far {w : World} {base bb bp cap : Nat} {W H : Int} {px : List Int} (hB : BufAt 90 35 w base bb bp cap W H px) (x y a b dx dy : Int) (h1 : Rect.empty ⟨x, y, a, b⟩ = false)
    (h2 : farB dx = true ∨ farB dx = false ∧ farB dy = true ∨ farB dx = false ∧ farB dy = false ∧ Rect.within ⟨x, y, a, b⟩ ⟨0, 0, W, H⟩ = false) :
    Calls Try.prog 29 #[.pointer (some ⟨bb, 0, none⟩), .agg #[.int .i64 x, .int .i64 y, .int .i64 a, .int .i64 b, .int .i64 dx, .int .i64 dy]] w fun e w' => e = .returned (.int .i64 5) ∧ Ext w w' := by
  have he := fun w => empty_any x y a b w
  simp only [h1] at he
  have hfx := far_any dx
  have hfy := far_any dy
  have hi := fun w => in_any x y a b 0 0 W H w
  rcases h2 with h2 | ⟨h2, h3⟩ | ⟨h2, h3, h4⟩
  · simp only [h2] at hfx
    go_enter Try.func29, Try.ntmps29
    go_wp2_with fail
    refine (he _).mono ?_
    rintro e w1 ⟨rfl, hb⟩
    obtain ⟨k0, hE⟩ := ext1 hb
    obtain ⟨c0, f0⟩ := blk_rules k0
    have j0 := After.blk k0
    have hB1 := hB.ext hE
    clear hb he
    go_wp2_with fail
    refine wp_region_after (by kernel_rfl) (by kernel_rfl) ?_
    repeat (go_big_quiet_step (first | with_reducible exact Calls.after_same (hfx _) | with_reducible exact Calls.after_same (hfy _) | with_reducible exact Calls.after (hi _) | exact Calls.after (all_any (hB1.ext (After.ext _)))))
    refine wpQuiet_nil ?_
    intro _ hw'
    obtain ⟨q, rfl⟩ := hw'
    have hE2 := Ext.trans hE q.ext
    go_wp2
    go_ret
    exact ⟨rfl, hE2⟩
  · simp only [h2] at hfx
    simp only [h3] at hfy
    go_enter Try.func29, Try.ntmps29
    go_wp2_with fail
    refine (he _).mono ?_
    rintro e w1 ⟨rfl, hb⟩
    obtain ⟨k0, hE⟩ := ext1 hb
    obtain ⟨c0, f0⟩ := blk_rules k0
    have j0 := After.blk k0
    have hB1 := hB.ext hE
    clear hb he
    go_wp2_with fail
    refine wp_region_after (by kernel_rfl) (by kernel_rfl) ?_
    repeat (go_big_quiet_step (first | with_reducible exact Calls.after_same (hfx _) | with_reducible exact Calls.after_same (hfy _) | with_reducible exact Calls.after (hi _) | exact Calls.after (all_any (hB1.ext (After.ext _)))))
    refine wpQuiet_nil ?_
    intro _ hw'
    obtain ⟨q, rfl⟩ := hw'
    have hE2 := Ext.trans hE q.ext
    go_wp2
    go_ret
    exact ⟨rfl, hE2⟩
  · simp only [h2] at hfx
    simp only [h3] at hfy
    simp only [h4] at hi
    go_enter Try.func29, Try.ntmps29
    go_wp2_with fail
    refine (he _).mono ?_
    rintro e w1 ⟨rfl, hb⟩
    obtain ⟨k0, hE⟩ := ext1 hb
    obtain ⟨c0, f0⟩ := blk_rules k0
    have j0 := After.blk k0
    have hB1 := hB.ext hE
    clear hb he
    go_wp2_with fail
    refine wp_region_after (by kernel_rfl) (by kernel_rfl) ?_
    repeat (go_big_quiet_step (first | with_reducible exact Calls.after_same (hfx _) | with_reducible exact Calls.after_same (hfy _) | with_reducible exact Calls.after (hi _) | exact Calls.after (all_any (hB1.ext (After.ext _)))))
    refine wpQuiet_nil ?_
    intro _ hw'
    obtain ⟨q, rfl⟩ := hw'
    have hE2 := Ext.trans hE q.ext
    go_wp2
    go_ret
    exact ⟨rfl, hE2⟩
set_option maxRecDepth 100000 in
set_option maxHeartbeats 2000000 in
theorem copy_bad {w : World} {base bb bp cap : Nat} {W H : Int} {px : List Int} (hB : BufAt 90 35 w base bb bp cap W H px) (x y a b dx dy : Int) (h1 : Rect.empty ⟨x, y, a, b⟩ = false) (h2 : farB dx = false) (h3 : farB dy = false) (h4 : Rect.within ⟨x, y, a, b⟩ ⟨0, 0, W, H⟩ = true) {F : Rect} (hF : Rect.shift ⟨x, y, a, b⟩ (-dx) (-dy) = F) (h5 : Rect.empty F = true ∨ Rect.empty F = false ∧ Rect.within F ⟨0, 0, W, H⟩ = false) :
    Calls Try.prog 29 #[.pointer (some ⟨bb, 0, none⟩), .agg #[.int .i64 x, .int .i64 y, .int .i64 a, .int .i64 b, .int .i64 dx, .int .i64 dy]] w fun e w' => e = .returned (.int .i64 5) ∧ Ext w w' := by
  have he := fun w => empty_any x y a b w
  simp only [h1] at he
  have hfx := far_any dx
  have hfy := far_any dy
  have hi := fun w => in_any x y a b 0 0 W H w
  simp only [h2] at hfx
  simp only [h3] at hfy
  simp only [h4] at hi
  go_enter Try.func29, Try.ntmps29
  go_wp2_with fail
  refine (he _).mono ?_
  rintro e w1 ⟨rfl, hb⟩
  obtain ⟨k0, hE⟩ := ext1 hb
  obtain ⟨c0, f0⟩ := blk_rules k0
  have j0 := After.blk k0
  have hB1 := hB.ext hE
  clear hb he
  go_wp2_with fail
  refine wp_region_after (by kernel_rfl) (by kernel_rfl) ?_
  repeat (go_big_quiet_step (first | with_reducible exact Calls.after_same (hfx _) | with_reducible exact Calls.after_same (hfy _) | with_reducible exact Calls.after (hi _) | exact Calls.after (all_any (hB1.ext (After.ext _)))))
  refine wpQuiet_nil ?_
  intro _ hw'
  obtain ⟨q, rfl⟩ := hw'
  have hE2 := Ext.trans hE q.ext
  clear c0 f0 j0 hfx hfy hi
  replace k0 := q.ext.keep k0
  obtain ⟨c0, f0⟩ := blk_rules k0
  replace hB1 := hB.ext hE2
  obtain ⟨hx1, hx2⟩ := farB_iff.1 h2
  obtain ⟨hy1, hy2⟩ := farB_iff.1 h3
  have nx : IntKind.i64.wrap (-dx) = -dx := IntWalk.i64_in _ (by omega)
  have ny : IntKind.i64.wrap (-dy) = -dy := IntWalk.i64_in _ (by omega)
  have cF := fun w => shift_any x y a b (-dx) (-dy) w
  simp only [hF] at cF
  generalize q.now = w2 at *
  go_wp2_with fail
  refine (cF _).mono ?_
  rintro e w3 ⟨rfl, hb⟩
  clear c0 f0
  have kF := blk_new w3 (.cells #[.int .i64 F.x, .int .i64 F.y, .int .i64 F.w, .int .i64 F.h] 38)
  replace k0 := hb.keep k0
  have k0' := blk_old k0 (.cells #[.int .i64 F.x, .int .i64 F.y, .int .i64 F.w, .int .i64 F.h] 38)
  obtain ⟨c0, f0⟩ := blk_rules k0
  have hE3 := (hE2.trans hb).alloc (.cells #[.int .i64 F.x, .int .i64 F.y, .int .i64 F.w, .int .i64 F.h] 38)
  have hB3 := hB.ext hE3
  clear hb hB1
  go_wp2_with fail
  refine (part_bad hB3 F.x F.y F.w F.h h5).mono ?_
  rintro e w4 ⟨rfl, hb⟩
  have hE4 := hE3.trans hb
  go_wp2
  go_ret
  exact ⟨rfl, by repeat' (first | exact hE4 | refine Ext.alloc ?_ _ | refine Ext.set ?_ ?_ _ | exact hE4.size)⟩
end Go.Proofs.Ytilcggkbancniaa
