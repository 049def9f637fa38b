/- The walks of package vignetteref03: Copy. -/
import Derived.Test.YtilcggkbancniaaRefE
set_option linter.unusedVariables false
set_option linter.unusedSimpArgs false
namespace Go.Proofs.Ytilcggkbancniaa
open Go.RowKit
attribute [local go_sem ↓] eq_rect

set_option maxHeartbeats 2000000 in
theorem rcopy_empty (W H : Int) (A : Option Addr) (d : Nat) (xs : List Int) (x y a b dx dy : Int) (w : World) (hr : Reads .u32 w A xs) (hx : ∀ x ∈ xs, 0 ≤ x ∧ x ≤ 4294967295) (hn : xs.length ≤ 65536) (h1 : Rect.empty ⟨x, y, a, b⟩ = true) :
    Calls Try.prog 30 #[.agg #[.int .i64 W, .int .i64 H, .slice A xs.length d], .agg #[.int .i64 x, .int .i64 y, .int .i64 a, .int .i64 b, .int .i64 dx, .int .i64 dy]] w fun e w' => ∃ B d', e = .returned (.tuple #[.agg #[.int .i64 W, .int .i64 H, .slice B xs.length d'], .int .i64 0]) ∧ w'.ownsRow w.heap.size 35 1 (.slice B xs.length d') xs.length (nums .u32 (xs.map cut24)) ∧ Ext w w' := by
  have hO := fun (w' : World) (h : Ext w w') => rown_any W H A d xs w' (hr.ext h) hx hn
  obtain ⟨ys, hys⟩ : ∃ ys, xs.map cut24 = ys := ⟨_, rfl⟩
  have hyl : ys.length = xs.length := by rw [← hys, List.length_map]
  rw [hys] at hO ⊢
  clear hys
  have he := fun w => rempty_any x y a b w
  simp only [h1] at he
  go_enter Try.func30, Try.ntmps30
  go_wp2_with fail
  refine (he _).mono ?_
  rintro e w1 ⟨rfl, hb⟩
  obtain ⟨k0, k1, k2, hE⟩ := ext3 hb
  obtain ⟨c0, f0⟩ := blk_rules k0
  obtain ⟨c1, f1⟩ := blk_rules k1
  have z0 := blk_lt k0
  have z1 := blk_lt k1
  clear hb he
  go_wp2_with fail
  clear z0 z1
  · skip
    refine (hO _ hE).mono ?_
    rintro e wO ⟨B, dB, rfl, hown, hb⟩
    replace hown := World.ownsRow.base_le (base' := w.heap.size) hown hE.size
    replace k2 := hb.keep k2
    replace hE := hE.trans hb
    clear hb hO
    clear c0 f0 c1 f1
    obtain ⟨c2, f2⟩ := blk_rules k2
    have HT := Lib.hid hown
    clear hown
    go_wp2_with fail
    refine bodyPost_ret (v := .tuple #[.agg #[.int .i64 W, .int .i64 H, .slice B xs.length dB], .int .i64 0]) (by simp only [results, Try.results30]; go_simp; done) rfl ⟨_, _, rfl, ?_, ?_⟩
    · exact row_set (row_set (row_set HT.out k2 (by decide) 0 (.int .i64 W)) (blk_set k2 0 (.int .i64 W)) (by decide) 1 (.int .i64 H)) (blk_set (blk_set k2 0 (.int .i64 W)) 1 (.int .i64 H)) (by decide) 2 (.slice B xs.length dB)
    · repeat' (first | exact hE | refine Ext.set ?_ ?_ _)
      all_goals (simp; omega)

set_option maxHeartbeats 4000000 in
theorem rcopy_far (W H : Int) (A : Option Addr) (d : Nat) (xs : List Int) (x y a b dx dy : Int) (w : World) (hr : Reads .u32 w A xs) (hx : ∀ x ∈ xs, 0 ≤ x ∧ x ≤ 4294967295) (hn : xs.length ≤ 65536) (h1 : Rect.empty ⟨x, y, a, b⟩ = false) (h2 : Rect.within ⟨x, y, a, b⟩ ⟨0, 0, W, H⟩ = false ∨ Rect.within ⟨x, y, a, b⟩ ⟨0, 0, W, H⟩ = true ∧ (dx < -4194304 ∨ -4194304 ≤ dx ∧ (4194304 < dx ∨ dx ≤ 4194304 ∧ (dy < -4194304 ∨ -4194304 ≤ dy ∧ 4194304 < dy)))) :
    Calls Try.prog 30 #[.agg #[.int .i64 W, .int .i64 H, .slice A xs.length d], .agg #[.int .i64 x, .int .i64 y, .int .i64 a, .int .i64 b, .int .i64 dx, .int .i64 dy]] w fun e w' => ∃ B d', e = .returned (.tuple #[.agg #[.int .i64 W, .int .i64 H, .slice B xs.length d'], .int .i64 5]) ∧ w'.ownsRow w.heap.size 35 1 (.slice B xs.length d') xs.length (nums .u32 (xs.map cut24)) ∧ Ext w w' := by
  have hO := fun (w' : World) (h : Ext w w') => rown_any W H A d xs w' (hr.ext h) hx hn
  obtain ⟨ys, hys⟩ : ∃ ys, xs.map cut24 = ys := ⟨_, rfl⟩
  have hyl : ys.length = xs.length := by rw [← hys, List.length_map]
  rw [hys] at hO ⊢
  clear hys
  have he := fun w => rempty_any x y a b w
  simp only [h1] at he
  have hi := fun w => rin_any x y a b 0 0 W H w
  have h2' : Rect.within ⟨x, y, a, b⟩ ⟨0, 0, W, H⟩ = false ∨ (Rect.within ⟨x, y, a, b⟩ ⟨0, 0, W, H⟩ = true ∧ dx < -4194304) ∨ (Rect.within ⟨x, y, a, b⟩ ⟨0, 0, W, H⟩ = true ∧ -4194304 ≤ dx ∧ 4194304 < dx) ∨ (Rect.within ⟨x, y, a, b⟩ ⟨0, 0, W, H⟩ = true ∧ -4194304 ≤ dx ∧ dx ≤ 4194304 ∧ dy < -4194304) ∨ (Rect.within ⟨x, y, a, b⟩ ⟨0, 0, W, H⟩ = true ∧ -4194304 ≤ dx ∧ dx ≤ 4194304 ∧ -4194304 ≤ dy ∧ 4194304 < dy) := by
    rcases h2 with h | ⟨h, h3⟩
    · exact .inl h
    · rcases h3 with h3 | ⟨h3, h4⟩
      · exact .inr (.inl ⟨h, h3⟩)
      · rcases h4 with h4 | ⟨h4, h5⟩
        · exact .inr (.inr (.inl ⟨h, h3, h4⟩))
        · rcases h5 with h5 | ⟨h5, h6⟩
          · exact .inr (.inr (.inr (.inl ⟨h, h3, h4, h5⟩)))
          · exact .inr (.inr (.inr (.inr ⟨h, h3, h4, h5, h6⟩)))
  clear h2
  rcases h2' with h2 | ⟨h2, h3⟩ | ⟨h2, h3, h4⟩ | ⟨h2, h3, h4, h5⟩ | ⟨h2, h3, h4, h5, h6⟩
  all_goals simp only [h2] at hi
  all_goals
    go_enter Try.func30, Try.ntmps30
    go_wp2_with fail
    refine (he _).mono ?_
    rintro e w1 ⟨rfl, hb⟩
    obtain ⟨k0, k1, k2, hE⟩ := ext3 hb
    obtain ⟨c0, f0⟩ := blk_rules k0
    obtain ⟨c1, f1⟩ := blk_rules k1
    have z0 := blk_lt k0
    have z1 := blk_lt k1
    clear hb he
    go_wp2_with fail
    clear z0 z1
    have hE2 := (Ext.refl w1).alloc (.cells #[.int .i64 0, .int .i64 0, .int .i64 W, .int .i64 H] 38)
    refine (hi _).mono ?_
    rintro e w2 ⟨rfl, hb⟩
    have hE3 := hE2.trans hb
    replace k0 := hE3.keep k0
    replace k1 := hE3.keep k1
    replace k2 := hE3.keep k2
    replace hE := hE.trans hE3
    clear c0 f0 c1 f1 hb hE2 hE3 hi
    obtain ⟨c0, f0⟩ := blk_rules k0
    obtain ⟨c1, f1⟩ := blk_rules k1
    go_wp2_with fail
    refine (hO _ hE).mono ?_
    rintro e wO ⟨B, dB, rfl, hown, hb⟩
    replace hown := World.ownsRow.base_le (base' := w.heap.size) hown hE.size
    replace k2 := hb.keep k2
    replace hE := hE.trans hb
    clear hb hO
    clear c0 f0 c1 f1
    obtain ⟨c2, f2⟩ := blk_rules k2
    have HT := Lib.hid hown
    clear hown
    go_wp2_with fail
    refine bodyPost_ret (v := .tuple #[.agg #[.int .i64 W, .int .i64 H, .slice B xs.length dB], .int .i64 5]) (by simp only [results, Try.results30]; go_simp; done) rfl ⟨_, _, rfl, ?_, ?_⟩
    · exact row_set (row_set (row_set HT.out k2 (by decide) 0 (.int .i64 W)) (blk_set k2 0 (.int .i64 W)) (by decide) 1 (.int .i64 H)) (blk_set (blk_set k2 0 (.int .i64 W)) 1 (.int .i64 H)) (by decide) 2 (.slice B xs.length dB)
    · repeat' (first | exact hE | refine Ext.set ?_ ?_ _)
      all_goals (simp; omega)

set_option maxHeartbeats 4000000 in
theorem rcopy_away (W H : Int) (A : Option Addr) (d : Nat) (xs : List Int) (x y a b dx dy : Int) (w : World) (hr : Reads .u32 w A xs) (hx : ∀ x ∈ xs, 0 ≤ x ∧ x ≤ 4294967295) (hn : xs.length ≤ 65536) (h1 : Rect.empty ⟨x, y, a, b⟩ = false) (h2 : Rect.within ⟨x, y, a, b⟩ ⟨0, 0, W, H⟩ = true) (h3 : -4194304 ≤ dx ∧ dx ≤ 4194304) (h4 : -4194304 ≤ dy ∧ dy ≤ 4194304) {F : Rect} (hF : Rect.shift ⟨x, y, a, b⟩ (-dx) (-dy) = F) (h5 : Rect.eqB F Rect.zero = true ∨ Rect.eqB F Rect.zero = false ∧ Rect.within F ⟨0, 0, W, H⟩ = false) :
    Calls Try.prog 30 #[.agg #[.int .i64 W, .int .i64 H, .slice A xs.length d], .agg #[.int .i64 x, .int .i64 y, .int .i64 a, .int .i64 b, .int .i64 dx, .int .i64 dy]] w fun e w' => ∃ B d', e = .returned (.tuple #[.agg #[.int .i64 W, .int .i64 H, .slice B xs.length d'], .int .i64 5]) ∧ w'.ownsRow w.heap.size 35 1 (.slice B xs.length d') xs.length (nums .u32 (xs.map cut24)) ∧ Ext w w' := by
  have hO := fun (w' : World) (h : Ext w w') => rown_any W H A d xs w' (hr.ext h) hx hn
  obtain ⟨ys, hys⟩ : ∃ ys, xs.map cut24 = ys := ⟨_, rfl⟩
  have hyl : ys.length = xs.length := by rw [← hys, List.length_map]
  rw [hys] at hO ⊢
  clear hys
  have he := fun w => rempty_any x y a b w
  simp only [h1] at he
  have hi := fun w => rin_any x y a b 0 0 W H w
  simp only [h2] at hi
  have hs := fun w => rshift_any x y a b (-dx) (-dy) w
  simp only [hF] at hs
  have hj := fun w => rin_any F.x F.y F.w F.h 0 0 W H w
  simp only [show Rect.mk F.x F.y F.w F.h = F from rfl] at hj
  have hz : Rect.eqB ⟨F.x, F.y, F.w, F.h⟩ ⟨0, 0, 0, 0⟩ = Rect.eqB F Rect.zero := rfl
  obtain ⟨h3, h3'⟩ := h3
  obtain ⟨h4, h4'⟩ := h4
  rcases h5 with h5 | ⟨h5, h6⟩
  all_goals rw [h5] at hz
  all_goals try simp only [h6] at hj
  all_goals
    go_enter Try.func30, Try.ntmps30
    go_wp2_with fail
    refine (he _).mono ?_
    rintro e w1 ⟨rfl, hb⟩
    obtain ⟨k0, k1, k2, hE⟩ := ext3 hb
    obtain ⟨c0, f0⟩ := blk_rules k0
    obtain ⟨c1, f1⟩ := blk_rules k1
    have z0 := blk_lt k0
    have z1 := blk_lt k1
    clear hb he
    go_wp2_with fail
    clear z0 z1
    have hE2 := (Ext.refl w1).alloc (.cells #[.int .i64 0, .int .i64 0, .int .i64 W, .int .i64 H] 38)
    have ka := blk_new w1 (.cells #[.int .i64 0, .int .i64 0, .int .i64 W, .int .i64 H] 38)
    refine (hi _).mono ?_
    rintro e w2 ⟨rfl, hb⟩
    have hE3 := hE2.trans hb
    replace k0 := hE3.keep k0
    replace k1 := hE3.keep k1
    replace k2 := hE3.keep k2
    replace ka := hb.keep ka
    replace hE := hE.trans hE3
    clear c0 f0 c1 f1 hb hE2 hE3 hi
    obtain ⟨c1, f1⟩ := blk_rules k1
    have z1 := blk_lt k1
    go_wp2_with fail
    clear z1
    refine (hs _).mono ?_
    rintro e w3 ⟨rfl, hb⟩
    have hE4 := hb.alloc (.cells #[.int .i64 F.x, .int .i64 F.y, .int .i64 F.w, .int .i64 F.h] 38)
    have kf := blk_new w3 (.cells #[.int .i64 F.x, .int .i64 F.y, .int .i64 F.w, .int .i64 F.h] 38)
    replace k0 := hE4.keep k0
    replace k1 := hE4.keep k1
    replace k2 := hE4.keep k2
    replace ka := hE4.keep ka
    replace hE := hE.trans hE4
    clear c1 f1 hb hs hE4
    obtain ⟨c0, f0⟩ := blk_rules k0
    obtain ⟨ca, fa⟩ := blk_rules ka
    have z0 := blk_lt k0
    have za := blk_lt ka
    go_wp2_with fail
    clear z0 za
    first
      | skip
        refine (hj _).mono ?_
        rintro e w4 ⟨rfl, hb⟩
        replace k0 := hb.keep k0
        replace k2 := hb.keep k2
        replace hE := hE.trans hb
        clear c0 f0 ca fa hb hj
        obtain ⟨c0, f0⟩ := blk_rules k0
        go_wp2_with fail
      | skip
    refine (hO _ hE).mono ?_
    rintro e wO ⟨B, dB, rfl, hown, hb⟩
    replace hown := World.ownsRow.base_le (base' := w.heap.size) hown hE.size
    replace k2 := hb.keep k2
    replace hE := hE.trans hb
    clear hb hO
    clear c0 f0
    obtain ⟨c2, f2⟩ := blk_rules k2
    have HT := Lib.hid hown
    clear hown
    go_wp2_with fail
    refine bodyPost_ret (v := .tuple #[.agg #[.int .i64 W, .int .i64 H, .slice B xs.length dB], .int .i64 5]) (by simp only [results, Try.results30]; go_simp; done) rfl ⟨_, _, rfl, ?_, ?_⟩
    · exact row_set (row_set (row_set HT.out k2 (by decide) 0 (.int .i64 W)) (blk_set k2 0 (.int .i64 W)) (by decide) 1 (.int .i64 H)) (blk_set (blk_set k2 0 (.int .i64 W)) 1 (.int .i64 H)) (by decide) 2 (.slice B xs.length dB)
    · repeat' (first | exact hE | refine Ext.set ?_ ?_ _)
      all_goals (simp; omega)

/-- What the reference's Copy makes of a pixel. -/
def copyPx (W : Int) (to : Rect) (dx dy : Int) (xs : List Int) (i : Nat) (p : Int) : Int :=
  if Rect.has to ((i : Int) % W) ((i : Int) / W) = true then xs.getD ((i : Int) - dx - dy * W).toNat 0 else p
end Go.Proofs.Ytilcggkbancniaa
