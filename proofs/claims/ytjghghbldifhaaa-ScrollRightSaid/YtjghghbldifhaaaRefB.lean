/- The walks of package vignetteref01: the same rectangles, told by the reference. -/
/- The walks of package vignetteref01: the same rectangles, told by the reference. -/
import Derived.Test.YtjghghbldifhaaaRectD
set_option linter.unusedVariables false
set_option linter.unusedSimpArgs false
namespace Go.Proofs.Ytjghghbldifhaaa
open Go.RowKit
attribute [local go_sem ↓] eq_rect max_mx min_mn

set_option maxHeartbeats 1000000 in
theorem rgood_any (x y a b : Int) (w : World) :
    Calls Try.prog 120 #[.agg #[.int .i64 x, .int .i64 y, .int .i64 a, .int .i64 b]] w fun e w' => e = .returned (.bool (Rect.good ⟨x, y, a, b⟩)) ∧ Ext w w' := by
  go_enter Try.func120, Try.ntmps120
  go_wp2
  all_goals
    go_ret
    exact ⟨by simp [Rect.good, okSpan, within] <;> first | omega | (rw [Bool.eq_iff_iff]; simp; omega), (Ext.refl _).alloc _⟩

theorem Rect.empty_cases (x y a b : Int) : Rect.good ⟨x, y, a, b⟩ = false ∧ Rect.empty ⟨x, y, a, b⟩ = true ∨ Rect.good ⟨x, y, a, b⟩ = true ∧ (a == 0) = true ∧ Rect.empty ⟨x, y, a, b⟩ = true ∨ Rect.good ⟨x, y, a, b⟩ = true ∧ (a == 0) = false ∧ (b == 0) = true ∧ Rect.empty ⟨x, y, a, b⟩ = true ∨ Rect.good ⟨x, y, a, b⟩ = true ∧ (a == 0) = false ∧ (b == 0) = false ∧ Rect.empty ⟨x, y, a, b⟩ = false := by
  unfold Rect.empty Rect.area
  cases h : Rect.good ⟨x, y, a, b⟩
  · simp
  · by_cases h1 : a = 0
    · simp [h1]
    · by_cases h2 : b = 0
      · simp [h1, h2]
      · simp [h1, h2]

set_option maxHeartbeats 1000000 in
theorem rempty_any (x y a b : Int) (w : World) :
    Calls Try.prog 98 #[.agg #[.int .i64 x, .int .i64 y, .int .i64 a, .int .i64 b]] w fun e w' => e = .returned (.bool (Rect.empty ⟨x, y, a, b⟩)) ∧ Ext w w' := by
  rcases Rect.empty_cases x y a b with ⟨h1, h4⟩ | ⟨h1, h2, h4⟩ | ⟨h1, h2, h3, h4⟩ | ⟨h1, h2, h3, h4⟩
  all_goals
    rw [h4]
    go_enter Try.func98, Try.ntmps98
    go_wp2_with fail
    refine (rgood_any _ _ _ _ _).mono ?_
    rintro e w1 ⟨rfl, hb⟩
    obtain ⟨k0, hE⟩ := ext1 hb
    obtain ⟨c0, f0⟩ := blk_rules k0
    clear hb
    go_wp2
    go_ret
    exact ⟨rfl, hE⟩

set_option maxHeartbeats 1000000 in
theorem rhas_any (x y a b p q : Int) (w : World) :
    Calls Try.prog 90 #[.agg #[.int .i64 x, .int .i64 y, .int .i64 a, .int .i64 b], .int .i64 p, .int .i64 q] w fun e w' => e = .returned (.bool (Rect.has ⟨x, y, a, b⟩ p q)) ∧ Ext w w' := by
  cases h1 : Rect.empty ⟨x, y, a, b⟩
  · have hi := Rect.empty_iff.1 h1
    dsimp only at hi
    obtain ⟨⟨g1, g2, g3, g4⟩, g5, g6, g7, g8⟩ := hi
    have hg : Rect.good ⟨x, y, a, b⟩ = true := Rect.good_iff.2 (by dsimp only; omega)
    go_enter Try.func90, Try.ntmps90
    go_wp2_with fail
    refine (rempty_any _ _ _ _ _).mono ?_
    rintro e w1 ⟨rfl, hb⟩
    obtain ⟨k0, hE⟩ := ext1 hb
    obtain ⟨c0, f0⟩ := blk_rules k0
    clear hb
    go_wp2
    all_goals
      go_ret
      exact ⟨by simp [Rect.has, hg, within] <;> first | omega | (rw [Bool.eq_iff_iff]; simp; omega), hE⟩
  · have hh : Rect.has ⟨x, y, a, b⟩ p q = false := by
      cases hg : Rect.good ⟨x, y, a, b⟩
      · simp [Rect.has, hg]
      · have hi := Rect.good_iff.1 hg
        have hn : ¬ (1 ≤ a ∧ 1 ≤ b) := fun hh => by rw [Rect.empty_iff.2 (by dsimp only at hi ⊢; omega)] at h1; cases h1
        dsimp only at hi
        simp [Rect.has, hg, within]
        omega
    rw [hh]
    go_enter Try.func90, Try.ntmps90
    go_wp2_with fail
    refine (rempty_any _ _ _ _ _).mono ?_
    rintro e w1 ⟨rfl, hb⟩
    obtain ⟨k0, hE⟩ := ext1 hb
    obtain ⟨c0, f0⟩ := blk_rules k0
    clear hb
    go_wp2
    go_ret
    exact ⟨rfl, hE⟩

set_option maxHeartbeats 1000000 in
theorem rand_zero (x y a b p q c d : Int) (w : World) (h : Rect.empty ⟨x, y, a, b⟩ = true ∨ Rect.empty ⟨x, y, a, b⟩ = false ∧ Rect.empty ⟨p, q, c, d⟩ = true) :
    Calls Try.prog 94 #[.agg #[.int .i64 x, .int .i64 y, .int .i64 a, .int .i64 b], .agg #[.int .i64 p, .int .i64 q, .int .i64 c, .int .i64 d]] w fun e w' =>
      e = .returned (.agg #[.int .i64 0, .int .i64 0, .int .i64 0, .int .i64 0]) ∧ Ext w w' := by
  rcases h with h1 | ⟨h1, h2⟩
  all_goals
    go_enter Try.func94, Try.ntmps94
    go_wp2_with fail
    refine (rempty_any _ _ _ _ _).mono ?_
    rintro e w1 ⟨rfl, hb⟩
    obtain ⟨k0, k1, k2, hE⟩ := ext3 hb
    obtain ⟨c0, f0⟩ := blk_rules k0
    obtain ⟨c1, f1⟩ := blk_rules k1
    obtain ⟨c2, f2⟩ := blk_rules k2
    clear hb
    go_wp2_with fail
    try
      refine (rempty_any _ _ _ _ _).mono ?_
      rintro e w2 ⟨rfl, hb⟩
      have j2 := hb.keep k2
      obtain ⟨d2, g2⟩ := blk_rules j2
      replace hE := Ext.trans hE hb
      clear hb
      go_wp2
    refine bodyPost_ret (v := .agg #[.int .i64 0, .int .i64 0, .int .i64 0, .int .i64 0]) (by simp only [results, Try.results94]; go_simp; done) rfl ⟨rfl, ?_⟩
    repeat' (first | exact hE | refine Ext.set ?_ ?_ _)
    all_goals (simp; omega)

set_option maxHeartbeats 2000000 in
theorem rand_any (x y a b p q c d : Int) (w : World) :
    Calls Try.prog 94 #[.agg #[.int .i64 x, .int .i64 y, .int .i64 a, .int .i64 b], .agg #[.int .i64 p, .int .i64 q, .int .i64 c, .int .i64 d]] w fun e w' =>
      e = .returned (.agg #[.int .i64 (Rect.and ⟨x, y, a, b⟩ ⟨p, q, c, d⟩).x, .int .i64 (Rect.and ⟨x, y, a, b⟩ ⟨p, q, c, d⟩).y, .int .i64 (Rect.and ⟨x, y, a, b⟩ ⟨p, q, c, d⟩).w, .int .i64 (Rect.and ⟨x, y, a, b⟩ ⟨p, q, c, d⟩).h]) ∧ Ext w w' := by
  cases h1 : Rect.empty ⟨x, y, a, b⟩
  · cases h2 : Rect.empty ⟨p, q, c, d⟩
    · have g1 := Rect.empty_iff.1 h1
      have g2 := Rect.empty_iff.1 h2
      dsimp only at g1 g2
      obtain ⟨⟨a1, a2, a3, a4⟩, a5, a6, a7, a8⟩ := g1
      obtain ⟨⟨b1, b2, b3, b4⟩, b5, b6, b7, b8⟩ := g2
      obtain ⟨m1, m2⟩ := mx_bd a1 a2 b1 b2
      obtain ⟨m3, m4⟩ := mx_bd a5 a6 b5 b6
      obtain ⟨m5, m6⟩ := mn_bd (x := x + a) (y := p + c) (l := -1048576) (u := 1048576) (by omega) (by omega) (by omega) (by omega)
      obtain ⟨m7, m8⟩ := mn_bd (x := y + b) (y := q + d) (l := -1048576) (u := 1048576) (by omega) (by omega) (by omega) (by omega)
      obtain ⟨R, hr, h34⟩ : ∃ R : Rect, Rect.and ⟨x, y, a, b⟩ ⟨p, q, c, d⟩ = R ∧ (decide (mn (x + a) (p + c) - mx x p ≤ 0) = true ∧ R = Rect.zero ∨ decide (mn (x + a) (p + c) - mx x p ≤ 0) = false ∧ (decide (mn (y + b) (q + d) - mx y q ≤ 0) = true ∧ R = Rect.zero ∨ decide (mn (y + b) (q + d) - mx y q ≤ 0) = false ∧ R = ⟨mx x p, mx y q, mn (x + a) (p + c) - mx x p, mn (y + b) (q + d) - mx y q⟩)) := by
        refine ⟨_, rfl, ?_⟩
        by_cases h3 : mn (x + a) (p + c) - mx x p ≤ 0
        · exact .inl ⟨by simpa using h3, Rect.and_flat (.inl h3)⟩
        · by_cases h4 : mn (y + b) (q + d) - mx y q ≤ 0
          · exact .inr ⟨by simpa using h3, .inl ⟨by simpa using h4, Rect.and_flat (.inr h4)⟩⟩
          · exact .inr ⟨by simpa using h3, .inr ⟨by simpa using h4, Rect.and_meet h1 h2 h3 h4⟩⟩
      rw [hr]
      clear hr
      rcases h34 with ⟨h3, rfl⟩ | ⟨h3, ⟨h4, rfl⟩ | ⟨h4, rfl⟩⟩
      all_goals
        go_enter Try.func94, Try.ntmps94
        go_wp2_with fail
        refine (rempty_any _ _ _ _ _).mono ?_
        rintro e w1 ⟨rfl, hb⟩
        obtain ⟨k0, k1, k2, hE⟩ := ext3 hb
        obtain ⟨c0, f0⟩ := blk_rules k0
        obtain ⟨c1, f1⟩ := blk_rules k1
        clear hb
        go_wp2_with fail
        refine (rempty_any _ _ _ _ _).mono ?_
        rintro e w2 ⟨rfl, hb⟩
        have j0 := After.blk (hb.keep k0)
        have j1 := After.blk (hb.keep k1)
        replace k0 := hb.keep k0
        replace k1 := hb.keep k1
        replace k2 := hb.keep k2
        replace hE := Ext.trans hE hb
        clear hb c0 c1 f0 f1
        go_wp2_with fail
        refine wp_region_after (by kernel_rfl) (by kernel_rfl) ?_
        repeat (go_big_quiet_step (fail))
        refine wpQuiet_nil ?_
        intro _ hw'
        obtain ⟨w3, rfl⟩ := hw'
        clear j0 j1
        obtain ⟨d0, g0⟩ := blk_rules (w3.ext.keep k0)
        obtain ⟨d1, g1⟩ := blk_rules (w3.ext.keep k1)
        obtain ⟨d2, g2⟩ := blk_rules (w3.ext.keep k2)
        have z0 := blk_lt (w3.ext.keep k0)
        have z1 := blk_lt (w3.ext.keep k1)
        have z2 := blk_lt (w3.ext.keep k2)
        replace hE := Ext.trans hE w3.ext
        go_wp2
        first
          | refine bodyPost_ret (v := .agg #[.int .i64 0, .int .i64 0, .int .i64 0, .int .i64 0]) (by simp only [results, Try.results94]; go_simp; done) rfl ⟨rfl, ?_⟩
          | refine bodyPost_ret (v := .agg #[.int .i64 (mx x p), .int .i64 (mx y q), .int .i64 (mn (x + a) (p + c) - mx x p), .int .i64 (mn (y + b) (q + d) - mx y q)]) (by simp only [results, Try.results94]; go_simp; done) rfl ⟨rfl, ?_⟩
        repeat' (first | exact hE | refine Ext.set ?_ ?_ _ | refine Ext.alloc ?_ _)
        all_goals (simp; omega)
    · rw [Rect.and_empty_r h2]
      exact rand_zero x y a b p q c d w (.inr ⟨h1, h2⟩)
  · rw [Rect.and_empty_l h1]
    exact rand_zero x y a b p q c d w (.inl h1)
end Go.Proofs.Ytjghghbldifhaaa
set_option linter.unusedVariables false
set_option linter.unusedSimpArgs false
namespace Go.Proofs.Ytjghghbldifhaaa
open Go.RowKit
attribute [local go_sem ↓] eq_rect max_mx min_mn

set_option maxHeartbeats 1000000 in
theorem rshift_any (x y a b dx dy : Int) (w : World) :
    Calls Try.prog 91 #[.agg #[.int .i64 x, .int .i64 y, .int .i64 a, .int .i64 b], .int .i64 dx, .int .i64 dy] w fun e w' =>
      e = .returned (.agg #[.int .i64 (Rect.shift ⟨x, y, a, b⟩ dx dy).x, .int .i64 (Rect.shift ⟨x, y, a, b⟩ dx dy).y, .int .i64 (Rect.shift ⟨x, y, a, b⟩ dx dy).w, .int .i64 (Rect.shift ⟨x, y, a, b⟩ dx dy).h]) ∧ Ext w w' := by
  obtain ⟨R, hr⟩ : ∃ R : Rect, Rect.shift ⟨x, y, a, b⟩ dx dy = R := ⟨_, rfl⟩
  rw [hr]
  have key := shift_cases x y a b dx dy hr
  clear hr
  have out : ∀ n, within n (-4194304) 4194304 = false → n < -4194304 ∨ -4194304 ≤ n ∧ 4194304 < n := fun n h => by
    by_cases h1 : n < -4194304
    · exact .inl h1
    · refine .inr ⟨by omega, ?_⟩
      have : ¬ (within n (-4194304) 4194304 = true) := by rw [h]; simp
      rw [within_iff] at this
      omega
  have inn : ∀ n, within n (-4194304) 4194304 = true → -4194304 ≤ n ∧ n ≤ 4194304 := fun n h => within_iff.1 h
  replace key : Rect.good ⟨x, y, a, b⟩ = false ∧ R = Rect.zero ∨ Rect.good ⟨x, y, a, b⟩ = true ∧ dx < -4194304 ∧ R = Rect.zero ∨ Rect.good ⟨x, y, a, b⟩ = true ∧ (-4194304 ≤ dx ∧ 4194304 < dx) ∧ R = Rect.zero ∨
      Rect.good ⟨x, y, a, b⟩ = true ∧ (-4194304 ≤ dx ∧ dx ≤ 4194304) ∧ dy < -4194304 ∧ R = Rect.zero ∨ Rect.good ⟨x, y, a, b⟩ = true ∧ (-4194304 ≤ dx ∧ dx ≤ 4194304) ∧ (-4194304 ≤ dy ∧ 4194304 < dy) ∧ R = Rect.zero ∨
      Rect.good ⟨x, y, a, b⟩ = true ∧ (-4194304 ≤ dx ∧ dx ≤ 4194304) ∧ (-4194304 ≤ dy ∧ dy ≤ 4194304) ∧ wrap64 (x + dx) = x + dx ∧ wrap64 (y + dy) = y + dy ∧ (Rect.good ⟨x + dx, y + dy, a, b⟩ = false ∧ R = Rect.zero ∨ Rect.good ⟨x + dx, y + dy, a, b⟩ = true ∧ R = ⟨x + dx, y + dy, a, b⟩) := by
    rcases key with ⟨h1, h⟩ | ⟨h1, h2, h⟩ | ⟨h1, h2, h3, h⟩ | ⟨h1, h2, h3, e1, e2, h⟩
    · exact .inl ⟨h1, h⟩
    · rcases out _ h2 with h2 | h2
      · exact .inr (.inl ⟨h1, h2, h⟩)
      · exact .inr (.inr (.inl ⟨h1, h2, h⟩))
    · rcases out _ h3 with h3 | h3
      · exact .inr (.inr (.inr (.inl ⟨h1, inn _ h2, h3, h⟩)))
      · exact .inr (.inr (.inr (.inr (.inl ⟨h1, inn _ h2, h3, h⟩))))
    · exact .inr (.inr (.inr (.inr (.inr ⟨h1, inn _ h2, inn _ h3, e1, e2, h⟩))))
  clear out inn
  rcases key with ⟨h1, rfl⟩ | ⟨h1, h2, rfl⟩ | ⟨h1, ⟨h2, h2'⟩, rfl⟩ | ⟨h1, ⟨h2, h2'⟩, h3, rfl⟩ | ⟨h1, ⟨h2, h2'⟩, ⟨h3, h3'⟩, rfl⟩ | ⟨h1, ⟨h2, h2'⟩, ⟨h3, h3'⟩, e1, e2, ⟨h4, rfl⟩ | ⟨h4, rfl⟩⟩
  all_goals
    go_enter Try.func91, Try.ntmps91
    go_wp2_with fail
    refine (rgood_any _ _ _ _ _).mono ?_
    rintro e w1 ⟨rfl, hb⟩
    obtain ⟨k0, k1, hE⟩ := ext2 hb
    obtain ⟨c0, f0⟩ := blk_rules k0
    obtain ⟨c1, f1⟩ := blk_rules k1
    clear hb
    go_wp2_with fail
    first
      | refine bodyPost_ret (v := .agg #[.int .i64 0, .int .i64 0, .int .i64 0, .int .i64 0]) (by simp only [results, Try.results91]; go_simp; done) rfl ⟨rfl, ?_⟩
      | (refine (rgood_any _ _ _ _ _).mono ?_
         rintro e w2 ⟨rfl, hb⟩
         have j0 := hb.keep (blk_set (blk_set k0 _ _) _ _)
         have j1 := hb.keep (blk_set_ne (blk_set_ne k1 (by omega) _ _) (by omega) _ _)
         have hE := Ext.trans (Ext.set (Ext.set hE (by simp) _) (by simp) _) hb
         clear hb
         obtain ⟨d0, g0⟩ := blk_rules j0
         obtain ⟨d1, g1⟩ := blk_rules j1
         go_wp2
         first
           | refine bodyPost_ret (v := .agg #[.int .i64 0, .int .i64 0, .int .i64 0, .int .i64 0]) (by simp only [results, Try.results91]; go_simp; done) rfl ⟨rfl, ?_⟩
           | refine bodyPost_ret (v := .agg #[.int .i64 (x + dx), .int .i64 (y + dy), .int .i64 a, .int .i64 b]) (by simp only [results, Try.results91]; go_simp; done) rfl ⟨rfl, ?_⟩)
    repeat' (first | exact hE | refine Ext.set ?_ ?_ _)
    all_goals (simp; done)
end Go.Proofs.Ytjghghbldifhaaa
