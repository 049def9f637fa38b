/- The law PixbufBlits walked. -/
import Derived.Test.YtilcggkbancniaaPicA
set_option linter.unusedVariables false
set_option linter.unusedSimpArgs false
namespace Go.Proofs.Ytilcggkbancniaa
open Go.RowKit

theorem blit_twice {W H p q x y : Int} {R : Rect} {src px : List Int} (w1 : 1 ≤ W) (w2 : W ≤ 256) (w3 : 1 ≤ H) (w4 : H ≤ 256) (hl : (px.length : Int) = W * H) (g1 : 1 ≤ p) (g2 : p ≤ 256) (g3 : 1 ≤ q) (g4 : q ≤ 256) (hs : (src.length : Int) = p * q)
    (hR : R = Rect.zero ∨ 0 ≤ R.x ∧ 1 ≤ R.w ∧ R.x + R.w ≤ W ∧ 0 ≤ R.y ∧ 1 ≤ R.h ∧ R.y + R.h ≤ H ∧ x ≤ R.x ∧ R.x + R.w ≤ x + p ∧ y ≤ R.y ∧ R.y + R.h ≤ y + q) :
    blitRows W p x y R src (List.range R.h.toNat) (blitRows W p x y R src (List.range R.h.toNat) px) = blitRows W p x y R src (List.range R.h.toNat) px := by
  have hl' : ((blitRows W p x y R src (List.range R.h.toNat) px).length : Int) = W * H := by rw [blitRows_length]; exact hl
  refine px_ext w1 w3 (by rw [blitRows_length]; exact hl') hl' fun u v e1 e2 e3 e4 => ?_
  rw [blitRows_px w1 w2 w3 w4 hl' g1 g2 g3 g4 hs hR e1 e2 e3 e4, blitRows_px w1 w2 w3 w4 hl g1 g2 g3 g4 hs hR e1 e2 e3 e4]
  split <;> rfl

set_option maxRecDepth 100000 in
set_option maxHeartbeats 2000000 in
theorem blits_any (W H p q : Int) (A B : Option Addr) (c d : Nat) (xs ys : List Int) (x y a b r s : Int) (w : World) (hx : Reads .u32 w A xs) (hxb : ∀ v ∈ xs, 0 ≤ v ∧ v ≤ 4294967295) (hy : Reads .u32 w B ys) (hyb : ∀ v ∈ ys, 0 ≤ v ∧ v ≤ 4294967295) (hn : xs.length ≤ 9223372036854775807) (hm : ys.length ≤ 9223372036854775807) :
    Calls Try.prog 5 #[.agg #[.int .i64 W, .int .i64 H, .slice A xs.length c], .agg #[.int .i64 p, .int .i64 q, .slice B ys.length d], .int .i64 x, .int .i64 y, .agg #[.int .i64 a, .int .i64 b, .int .i64 r, .int .i64 s]] w fun e w' => e = .returned (.bool true) ∧ Ext w w' := by
  have g1 := fun w => great_nil W H A c xs.length w hn
  have g2 := fun w => great_nil p q B d ys.length w hm
  by_cases n1 : 1000 < xs.length
  · rw [decide_eq_true n1] at g1
    go_enter Try.func5, Try.ntmps5
    go_wp2_with fail
    refine (g1 _).mono ?_
    rintro e w1 ⟨rfl, hb⟩
    obtain ⟨k0, k1, k2, hE⟩ := ext3 hb
    clear hb g1 g2
    go_wp2_with fail
    refine (wakes3_any _).mono ?_
    rintro e w2 ⟨rfl, hb⟩
    go_wp2
    go_ret
    exact ⟨rfl, hE.trans hb⟩
  rw [decide_eq_false n1] at g1
  by_cases n2 : 1000 < ys.length
  · rw [decide_eq_true n2] at g2
    go_enter Try.func5, Try.ntmps5
    go_wp2_with fail
    refine (g1 _).mono ?_
    rintro e w1 ⟨rfl, hb⟩
    obtain ⟨k0, k1, k2, hE⟩ := ext3 hb
    obtain ⟨c1, f1⟩ := blk_rules k1
    clear hb g1
    go_wp2_with fail
    refine (g2 _).mono ?_
    rintro e w2 ⟨rfl, hb⟩
    clear g2
    go_wp2_with fail
    refine (wakes3_any _).mono ?_
    rintro e w3 ⟨rfl, hb3⟩
    go_wp2
    go_ret
    exact ⟨rfl, Ext.trans (hE.trans hb) hb3⟩
  rw [decide_eq_false n2] at g2
  have hx1 := hxb
  clear hn hm
  go_enter Try.func5, Try.ntmps5
  go_wp2_with fail
  refine (g1 _).mono ?_
  rintro e w1 ⟨rfl, hb⟩
  obtain ⟨k0, k1, k2, hE⟩ := ext3 hb
  obtain ⟨c1, f1⟩ := blk_rules k1
  clear hb g1
  go_wp2_with fail
  refine (g2 _).mono ?_
  rintro e w2 ⟨rfl, hb⟩
  replace hE := hE.trans hb
  replace k0 := hb.keep k0
  replace k1 := hb.keep k1
  replace k2 := hb.keep k2
  clear g2 c1 f1 hb
  obtain ⟨c0, f0⟩ := blk_rules k0
  replace hx := hx.ext hE
  replace hy := hy.ext hE
  go_wp2_with fail
  cases hp : isPic W H xs.length
  · refine (from_bad _ _ _ _ _ _ hp).mono ?_
    rintro e w3 ⟨rfl, hb⟩
    obtain ⟨c1, f1⟩ := blk_rules (hb.keep k1)
    replace hE := hE.trans hb
    replace hy := hy.ext hb
    clear c0 f0 hb
    go_wp2_with fail
    cases hq : isPic p q ys.length
    · refine (from_bad _ _ _ _ _ _ hq).mono ?_
      rintro e w4 ⟨rfl, hb⟩
      replace hE := hE.trans hb
      go_wp2_with fail
      refine (wakes3_any _).mono ?_
      rintro e w5 ⟨rfl, hb5⟩
      go_wp2
      go_ret
      exact ⟨rfl, hE.trans hb5⟩
    · refine (from_good _ _ _ _ _ _ hq hy hyb).mono ?_
      rintro e w4 ⟨bb, bp, cap, rfl, _, hb⟩
      replace hE := hE.trans hb
      go_wp2_with fail
      refine (wakes3_any _).mono ?_
      rintro e w5 ⟨rfl, hb5⟩
      go_wp2
      go_ret
      exact ⟨rfl, hE.trans hb5⟩
  refine (from_good _ _ _ _ _ _ hp hx hxb).mono ?_
  rintro e w3 ⟨ba, pa, ca, rfl, hA, hb⟩
  replace hA := hA.base_le (base' := w.heap.size) hE.size
  replace k1 := hb.keep k1
  replace k2 := hb.keep k2
  obtain ⟨c1, f1⟩ := blk_rules k1
  replace hE := hE.trans hb
  replace hy := hy.ext hb
  clear c0 f0 hb k0
  go_wp2_with fail
  cases hq : isPic p q ys.length
  · refine (from_bad _ _ _ _ _ _ hq).mono ?_
    rintro e w4 ⟨rfl, hb⟩
    replace k1 := hb.keep k1
    replace k2 := hb.keep k2
    replace hE := hE.trans hb
    replace hA := hA.ext hb
    clear c1 f1 hb
    go_wp2_with fail
    refine (clone_any hA).mono ?_
    rintro e w5 ⟨b2, p2, c2, rfl, hB, _, hb⟩
    replace k1 := hb.keep k1
    replace k2 := hb.keep k2
    obtain ⟨c1, f1⟩ := blk_rules k1
    obtain ⟨c2, f2⟩ := blk_rules k2
    replace hE := hE.trans hb
    replace hA := hA.ext hb
    clear hb
    go_wp2_with fail
    refine (blit_bad x y p q B d ys a b r s hq).mono ?_
    rintro e w6 ⟨rfl, hb⟩
    replace hE := hE.trans hb
    replace hA := hA.ext hb
    replace hB := hB.ext hb
    clear c1 f1 c2 f2 hb
    go_wp2_with fail
    have hs := same_any hA hB
    rw [show (W == W && (H == H && eqL (xs.map cut24) (xs.map cut24))) = true by simp [eqL]] at hs
    refine hs.mono ?_
    rintro e w7 ⟨rfl, hb⟩
    replace hE := hE.trans hb
    clear hs
    go_wp2_with fail
    refine (wakes3_any _).mono ?_
    rintro e w8 ⟨rfl, hb8⟩
    go_wp2
    go_ret
    exact ⟨rfl, hE.trans hb8⟩
  refine (from_good _ _ _ _ _ _ hq hy hyb).mono ?_
  rintro e w4 ⟨bo, po, co, rfl, hO, hb⟩
  replace hO := hO.base_le (base' := w.heap.size) hE.size
  replace k1 := hb.keep k1
  replace k2 := hb.keep k2
  replace hE := hE.trans hb
  replace hA := hA.ext hb
  replace hy := hy.ext hb
  clear c1 f1 hb
  go_wp2_with fail
  refine (clone_any hA).mono ?_
  rintro e w5 ⟨b2, p2, c2, rfl, hB, hp2, hb⟩
  replace hB := hB.base_le (base' := w.heap.size) hE.size
  have k1' := hb.keep k1
  have k2' := hb.keep k2
  obtain ⟨c1, f1⟩ := blk_rules k1'
  obtain ⟨c2', f2⟩ := blk_rules k2'
  go_wp2_with fail
  refine (blit_good hB x y p q B d ys a b r s hq (hy.ext hb) hyb).mono ?_
  rintro e w6 ⟨rfl, hB6, hg⟩
  have hE46 := Ext.grownRow hb hg hp2
  replace k1 := hE46.keep k1
  replace k2 := hE46.keep k2
  replace hE := hE.trans hE46
  replace hA := hA.ext hE46
  replace hO := hO.ext hE46
  replace hy := hy.ext hE46
  clear c1 f1 c2' f2 k1' k2' hb hg hE46 hB hp2
  go_wp2_with fail
  have hw1 := hA.w1
  have hw2 := hA.w2
  have hh1 := hA.h1
  have hh2 := hA.h2
  have hl : (xs.length : Int) = W * H := by have := hA.len; simpa using this
  have HL := Lib.hid hl
  have q1 : IntKind.i64.wrap (W * H) = xs.length := by rw [← hl]; exact IntWalk.i64_in _ (by omega)
  obtain ⟨px, hpx⟩ : ∃ px, xs.map cut24 = px := ⟨_, rfl⟩
  obtain ⟨src, hsrc⟩ : ∃ src, ys.map cut24 = src := ⟨_, rfl⟩
  obtain ⟨R, hR⟩ : ∃ R, blitAt W H p q x y ⟨a, b, r, s⟩ = R := ⟨_, rfl⟩
  obtain ⟨px', hpx'⟩ : ∃ px', blitRows W p x y R src (List.range R.h.toNat) px = px' := ⟨_, rfl⟩
  rw [hpx, hsrc, hR, hpx'] at hB6
  rw [hpx] at hA
  rw [hsrc] at hO
  have hsrc' := hsrc
  clear hl hxb hx1 hpx hsrc
  have hpxs : ∀ u v, 0 ≤ u → u < W → 0 ≤ v → v < H → pxAt W px' u v = if R.holds u v then pxAt p src (u - x) (v - y) else pxAt W px u v := by
    intro u v e1 e2 e3 e4
    rw [← hpx']
    exact blitRows_px hw1 hw2 hh1 hh2 hA.len hO.w1 hO.w2 hO.h1 hO.h2 hO.len ((blitAt_in hR hw1 hw2 hh1 hh2 hO.w1 hO.w2 hO.h1 hO.h2).1) e1 e2 e3 e4
  have hhas : ∀ u v, 0 ≤ u → u < W → 0 ≤ v → v < H → (R.holds u v ↔ (Rect.has ⟨a, b, r, s⟩ u v && (Rect.shift ⟨0, 0, p, q⟩ x y).has u v) = true) := by
    intro u v e1 e2 e3 e4
    rw [← hR]
    exact blitAt_has hw1 hw2 hh1 hh2 hO.w1 hO.w2 hO.h1 hO.h2 e1 e2 e3 e4
  have hRin := (blitAt_in hR hw1 hw2 hh1 hh2 hO.w1 hO.w2 hO.h1 hO.h2).1
  go_loopw [16] (fun i wr => ∃ k : Nat, k ≤ xs.length ∧ i = .int .i64 k ∧ Ext w6 wr) (fun i _ => xs.length - (intOf i).toNat)
  case atStart => exact ⟨0, Nat.zero_le _, rfl, Ext.refl _⟩
  case round =>
    obtain ⟨k, hk, rfl, hE6⟩ := hrel
    replace hA := hA.ext hE6
    replace hO := hO.ext hE6
    replace hB6 := hB6.ext hE6
    replace hy := hy.ext hE6
    replace k1 := hE6.keep k1
    replace k2 := hE6.keep k2
    by_cases hlt : k < xs.length
    · obtain ⟨u, hu⟩ : ∃ u : Int, (k : Int) % W = u := ⟨_, rfl⟩
      obtain ⟨v, hv⟩ : ∃ v : Int, (k : Int) / W = v := ⟨_, rfl⟩
      have hu0 : 0 ≤ u := by rw [← hu]; exact Int.emod_nonneg _ (by omega)
      have hu1 : u < W := by rw [← hu]; exact Int.emod_lt_of_pos _ (by omega)
      have hv0 : 0 ≤ v := by rw [← hv]; exact Int.ediv_nonneg (by omega) (by omega)
      have hv1 : v < H := by rw [← hv]; exact Int.ediv_lt_of_lt_mul (by omega) (by rw [Int.mul_comm]; have := HL.out; omega)
      go_wp2_with (first | (go_at_call 20; refine (w_any hA).mono ?_; rintro e w' ⟨rfl, rfl⟩) | (go_at_call 21; refine (h_any hA).mono ?_; rintro e w' ⟨rfl, rfl⟩))
      refine wp_region_after (by kernel_rfl) (by kernel_rfl) ?_
      repeat (go_big_quiet_step (first | exact Calls.after_same (w_any (hA.ext (After.ext _)))))
      refine wpQuiet_nil ?_
      intro _ hw'
      obtain ⟨z, rfl⟩ := hw'
      simp only [hu, hv]
      replace hE6 := Ext.trans hE6 z.ext
      replace hA := hA.ext z.ext
      replace hO := hO.ext z.ext
      replace hB6 := hB6.ext z.ext
      replace k2 := z.ext.keep k2
      obtain ⟨e2, f2⟩ := blk_rules k2
      generalize z.now = wz at *
      have hp1 : hasPx W H u v = true := (hasPx_iff hw1 hw2 hh1 hh2).2 ⟨hu0, hu1, hv0, hv1⟩
      have ha := at_any hA u v
      simp only [hp1, if_true] at ha
      have hpv := hpxs u v hu0 hu1 hv0 hv1
      have hhv := hhas u v hu0 hu1 hv0 hv1
      clear hpxs hhas q1 hu hv k1 hy
      have hcl := fun w => has_any a b r s u v w
      have hsv := fun w => has_any (Rect.shift ⟨0, 0, p, q⟩ x y).x (Rect.shift ⟨0, 0, p, q⟩ x y).y (Rect.shift ⟨0, 0, p, q⟩ x y).w (Rect.shift ⟨0, 0, p, q⟩ x y).h u v w
      simp only [show Rect.mk (Rect.shift ⟨0, 0, p, q⟩ x y).x (Rect.shift ⟨0, 0, p, q⟩ x y).y (Rect.shift ⟨0, 0, p, q⟩ x y).w (Rect.shift ⟨0, 0, p, q⟩ x y).h = Rect.shift ⟨0, 0, p, q⟩ x y from rfl] at hsv
      go_wp2_with fail
      refine ha.mono ?_
      rintro e wa ⟨rfl, hba⟩
      clear ha
      replace k2 := hba.keep k2
      clear e2 f2
      obtain ⟨e2, f2⟩ := blk_rules k2
      replace hE6 := Ext.trans hE6 hba
      replace hO := hO.ext hba
      replace hB6 := hB6.ext hba
      go_wp2_with fail
      cases hc : Rect.has ⟨a, b, r, s⟩ u v
      · rw [hc, Bool.false_and] at hhv
        rw [if_neg (fun h => by have := hhv.1 h; cases this)] at hpv
        simp only [hc] at hcl
        refine (hcl _).mono ?_
        rintro e wb ⟨rfl, hbb⟩
        replace hE6 := Ext.trans hE6 hbb
        replace hB6 := hB6.ext hbb
        have hb2 := at_any hB6 u v
        simp only [hp1, if_true, hpv] at hb2
        clear hcl hsv hpv hhv e2 f2 hc
        generalize pxAt W px u v = t at *
        go_wp2_with fail
        refine hb2.mono ?_
        rintro e wd ⟨rfl, hbd⟩
        replace hE6 := Ext.trans hE6 hbd
        go_wp2_with fail
        go_roundw
        case rel => exact ⟨k + 1, by omega, by go_num, hE6⟩
        case measure => simp [intOf]; omega
      · simp only [hc] at hcl
        rw [hc, Bool.true_and] at hhv
        refine (hcl _).mono ?_
        rintro e wb ⟨rfl, hbb⟩
        replace hE6 := Ext.trans hE6 hbb
        replace hB6 := hB6.ext hbb
        replace hO := hO.ext hbb
        clear hcl hc
        go_wp2_with (first | (go_at_call 20; refine (w_any hO).mono ?_; rintro e w' ⟨rfl, rfl⟩) | (go_at_call 21; refine (h_any hO).mono ?_; rintro e w' ⟨rfl, rfl⟩))
        refine (shift_any 0 0 p q x y _).mono ?_
        rintro e wc ⟨rfl, hbc⟩
        replace hE6 := Ext.trans hE6 hbc
        replace hB6 := hB6.ext hbc
        replace hO := hO.ext hbc
        go_wp2_with fail
        cases hs : (Rect.shift ⟨0, 0, p, q⟩ x y).has u v
        · rw [hs] at hhv
          rw [if_neg (fun h => by have := hhv.1 h; cases this)] at hpv
          simp only [hs] at hsv
          refine (hsv _).mono ?_
          rintro e wb ⟨rfl, hbb⟩
          replace hE6 := Ext.trans hE6 hbb
          replace hB6 := hB6.ext hbb
          have hb2 := at_any hB6 u v
          simp only [hp1, if_true, hpv] at hb2
          clear hsv hpv hhv e2 f2 hs
          generalize pxAt W px u v = t at *
          go_wp2_with fail
          refine hb2.mono ?_
          rintro e wd ⟨rfl, hbd⟩
          replace hE6 := Ext.trans hE6 hbd
          go_wp2_with fail
          go_roundw
          case rel => exact ⟨k + 1, by omega, by go_num, hE6⟩
          case measure => simp [intOf]; omega
        · rw [hs] at hhv
          have hin := hhv.2 rfl
          rw [if_pos hin] at hpv
          simp only [hs] at hsv
          refine (hsv _).mono ?_
          rintro e wb ⟨rfl, hbb⟩
          replace hE6 := Ext.trans hE6 hbb
          replace hB6 := hB6.ext hbb
          replace hO := hO.ext hbb
          have hin2 : 0 ≤ u - x ∧ u - x < p ∧ 0 ≤ v - y ∧ v - y < q := by
            rcases hRin with hz | hz
            · rw [hz] at hin; simp [Rect.holds, Rect.zero] at hin; omega
            · unfold Rect.holds at hin; omega
          have hp2 : hasPx p q (u - x) (v - y) = true := (hasPx_iff hO.w1 hO.w2 hO.h1 hO.h2).2 hin2
          have hg1 := hO.w2
          have hg2 := hO.h2
          have q4 : IntKind.i64.wrap (u - x) = u - x := IntWalk.i64_in _ (by omega)
          have q5 : IntKind.i64.wrap (v - y) = v - y := IntWalk.i64_in _ (by omega)
          have hao := at_any hO (u - x) (v - y)
          simp only [hp2, if_true] at hao
          clear hsv hhv e2 f2 hs
          generalize pxAt p src (u - x) (v - y) = t at *
          go_wp2_with fail
          refine hao.mono ?_
          rintro e wf ⟨rfl, hbf⟩
          replace hE6 := Ext.trans hE6 hbf
          replace hB6 := hB6.ext hbf
          have hb2 := at_any hB6 u v
          simp only [hp1, if_true, hpv] at hb2
          clear hao q4 q5 hpv
          go_wp2_with fail
          refine hb2.mono ?_
          rintro e wd ⟨rfl, hbd⟩
          replace hE6 := Ext.trans hE6 hbd
          go_wp2_with fail
          go_roundw
          case rel => exact ⟨k + 1, by omega, by go_num, hE6⟩
          case measure => simp [intOf]; omega
    · obtain rfl : k = xs.length := by omega
      have HPX := Lib.hid hpx'
      clear hpxs hhas hpx'
      go_wp2_with (first | (go_at_call 20; refine (w_any hA).mono ?_; rintro e w' ⟨rfl, rfl⟩) | (go_at_call 21; refine (h_any hA).mono ?_; rintro e w' ⟨rfl, rfl⟩))
      have htw : blitRows W p x y R src (List.range R.h.toNat) px' = px' := by
        rw [← HPX.out]
        exact blit_twice hw1 hw2 hh1 hh2 hA.len hO.w1 hO.w2 hO.h1 hO.h2 hO.len hRin
      have HTW := Lib.hid htw
      clear htw
      refine (clone_any hB6).mono ?_
      rintro e w7 ⟨b3, p3, c3, rfl, hC, hp3, hb⟩
      have hbE := hE.trans hE6
      have hC1 := hC.base_le (base' := w.heap.size) hbE.size
      have k1' := hb.keep k1
      have k2' := hb.keep k2
      obtain ⟨c1, f1⟩ := blk_rules k1'
      obtain ⟨c2', f2⟩ := blk_rules k2'
      go_wp2_with fail
      have hbl := blit_good hC1 x y p q B d ys a b r s hq (hy.ext hb) hyb
      rw [hsrc', hR, HTW.out] at hbl
      refine hbl.mono ?_
      rintro e w8 ⟨rfl, hC8, hg⟩
      have hE78 := Ext.grownRow hb hg hp3
      replace hB6 := hB6.ext hE78
      have hE8 := Ext.trans hbE hE78
      clear hbl c1 f1 c2' f2 k1' k2' k1 k2 hb hg hC hC1
      go_wp2_with fail
      have hs := same_any hC8 hB6
      rw [show (W == W && (H == H && eqL px' px')) = true by simp [eqL]] at hs
      refine hs.mono ?_
      rintro e w9 ⟨rfl, hb9⟩
      clear hs
      go_wp2_with fail
      refine (wakes3_any _).mono ?_
      rintro e w10 ⟨rfl, hb10⟩
      go_wp2
      go_ret
      exact ⟨rfl, Ext.trans (Ext.trans hE8 hb9) hb10⟩
end Go.Proofs.Ytilcggkbancniaa
