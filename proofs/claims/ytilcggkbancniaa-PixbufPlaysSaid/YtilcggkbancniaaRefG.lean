/- The walks of package vignetteref03: Copy, the way that copies. -/
import Derived.Test.YtilcggkbancniaaRefF
set_option linter.unusedVariables false
set_option linter.unusedSimpArgs false
namespace Go.Proofs.Ytilcggkbancniaa
open Go.RowKit
attribute [local go_sem ↓] eq_rect

theorem divmod {k : Nat} {W : Int} (h : 1 ≤ W) : (k : Int) / W * W + (k : Int) % W = k := by
  have := Int.mul_ediv_add_emod (k : Int) W
  rw [Int.mul_comm] at this
  exact this
theorem div_lt {k n : Nat} {W H : Int} (h : 1 ≤ W) (hk : k < n) (hn : (n : Int) = W * H) : (k : Int) / W < H := by
  apply Int.ediv_lt_of_lt_mul (by omega)
  rw [Int.mul_comm]
  omega

set_option maxRecDepth 100000 in
set_option maxHeartbeats 8000000 in
theorem rcopy_good (W H : Int) (A : Option Addr) (d : Nat) (xs : List Int) (x y a b dx dy : Int) (w : World) (hr : Reads .u32 w A xs) (hx : ∀ x ∈ xs, 0 ≤ x ∧ x ≤ 4294967295) (hp : isPic W H xs.length = true) (h1 : Rect.empty ⟨x, y, a, b⟩ = false) (h2 : Rect.within ⟨x, y, a, b⟩ ⟨0, 0, W, H⟩ = true) (h3 : -4194304 ≤ dx ∧ dx ≤ 4194304) (h4 : -4194304 ≤ dy ∧ dy ≤ 4194304) {F : Rect} (hF : Rect.shift ⟨x, y, a, b⟩ (-dx) (-dy) = F) (h5 : Rect.eqB F Rect.zero = false) (h6 : Rect.within F ⟨0, 0, W, H⟩ = true) :
    Calls Try.prog 30 #[.agg #[.int .i64 W, .int .i64 H, .slice A xs.length d], .agg #[.int .i64 x, .int .i64 y, .int .i64 a, .int .i64 b, .int .i64 dx, .int .i64 dy]] w fun e w' => ∃ B d', e = .returned (.tuple #[.agg #[.int .i64 W, .int .i64 H, .slice B xs.length d'], .int .i64 0]) ∧ w'.ownsRow w.heap.size 35 1 (.slice B xs.length d') xs.length (nums .u32 (mapAt (copyPx W ⟨x, y, a, b⟩ dx dy xs) (xs.map cut24))) ∧ Ext w w' := by
  have hp' : 1 ≤ W ∧ W ≤ 256 ∧ 1 ≤ H ∧ H ≤ 256 ∧ (xs.length : Int) = W * H := by simpa [isPic, and_assoc] using hp
  obtain ⟨W1, W2, H1, H2, hlen⟩ := hp'
  obtain ⟨m1, m2⟩ := mul_bd W1 W2 H1 H2
  have hn : xs.length ≤ 65536 := by omega
  -- where what is copied comes from
  have hsrc : ∀ X Y : Int, Rect.has ⟨x, y, a, b⟩ X Y = true → 0 ≤ X - dx ∧ X - dx < W ∧ 0 ≤ Y - dy ∧ Y - dy < H := fun X Y hh => by
    obtain ⟨q1, q2, q3, q4, q5, q6⟩ := Rect.inside h1 h2 W1 W2 H1 H2
    dsimp only at q1 q2 q3 q4 q5 q6
    have hFe : F = ⟨x + -dx, y + -dy, a, b⟩ := by
      unfold Rect.shift at hF
      split at hF
      · exact hF.symm
      · rw [← hF] at h5; simp [Rect.eqB] at h5
    subst hFe
    have hg : Rect.empty ⟨x + -dx, y + -dy, a, b⟩ = false := by
      have hgood : Rect.good (Rect.move ⟨x, y, a, b⟩ (-dx) (-dy)) = true := by
        unfold Rect.shift at hF
        split at hF
        · rename_i hc
          simp only [Bool.and_eq_true] at hc
          exact hc.2
        · rw [← hF] at h5; simp [Rect.eqB, Rect.zero] at h5
      have := Rect.good_iff.1 hgood
      simp only [Rect.move] at this
      exact Rect.empty_iff.2 (by dsimp only; omega)
    obtain ⟨s1, s2, s3, s4, s5, s6⟩ := Rect.inside hg h6 W1 W2 H1 H2
    dsimp only at s1 s2 s3 s4 s5 s6
    simp only [Rect.has, within, Bool.and_eq_true, decide_eq_true_eq] at hh
    omega
  have HS := Lib.hid hsrc
  have HL := Lib.hid hlen
  have hO := fun (w' : World) (h : Ext w w') => rown_any W H A d xs w' (hr.ext h) hx hn
  obtain ⟨ys, hys⟩ : ∃ ys, xs.map cut24 = ys := ⟨_, rfl⟩
  have hyl : ys.length = xs.length := by rw [← hys, List.length_map]
  rw [hys] at hO ⊢
  clear hys hsrc hlen m1 m2 hp
  have he := fun w => rempty_any x y a b w
  simp only [h1] at he
  have hi := fun w => rin_any x y a b 0 0 W H w
  simp only [h2] at hi
  have hs := fun w => rshift_any x y a b (-dx) (-dy) w
  simp only [hF] at hs
  have hj := fun w => rin_any F.x F.y F.w F.h 0 0 W H w
  simp only [show Rect.mk F.x F.y F.w F.h = F from rfl] at hj
  have hz : Rect.eqB ⟨F.x, F.y, F.w, F.h⟩ ⟨0, 0, 0, 0⟩ = Rect.eqB F Rect.zero := rfl
  obtain ⟨h3, h3'⟩ := h3
  obtain ⟨h4, h4'⟩ := h4
  rw [h5] at hz
  simp only [h6] at hj
  clear h1 h2 hF h5 h6
  go_enter Try.func30, Try.ntmps30
  go_wp2_with fail
  refine (he _).mono ?_
  rintro e w1 ⟨rfl, hb⟩
  obtain ⟨k0, k1, k2, hE⟩ := ext3 hb
  obtain ⟨c0, f0⟩ := blk_rules k0
  obtain ⟨c1, f1⟩ := blk_rules k1
  have z0 := blk_lt k0
  have z1 := blk_lt k1
  clear hb he
  go_wp2_with fail
  clear z0 z1
  have hE2 := (Ext.refl w1).alloc (.cells #[.int .i64 0, .int .i64 0, .int .i64 W, .int .i64 H] 38)
  have ka := blk_new w1 (.cells #[.int .i64 0, .int .i64 0, .int .i64 W, .int .i64 H] 38)
  refine (hi _).mono ?_
  rintro e w2 ⟨rfl, hb⟩
  have hE3 := hE2.trans hb
  replace k0 := hE3.keep k0
  replace k1 := hE3.keep k1
  replace k2 := hE3.keep k2
  replace ka := hb.keep ka
  replace hE := hE.trans hE3
  clear c0 f0 c1 f1 hb hE2 hE3 hi
  obtain ⟨c1, f1⟩ := blk_rules k1
  have z1 := blk_lt k1
  go_wp2_with fail
  clear z1
  refine (hs _).mono ?_
  rintro e w3 ⟨rfl, hb⟩
  have hE4 := hb.alloc (.cells #[.int .i64 F.x, .int .i64 F.y, .int .i64 F.w, .int .i64 F.h] 38)
  have kf := blk_new w3 (.cells #[.int .i64 F.x, .int .i64 F.y, .int .i64 F.w, .int .i64 F.h] 38)
  replace k0 := hE4.keep k0
  replace k1 := hE4.keep k1
  replace k2 := hE4.keep k2
  replace ka := hE4.keep ka
  replace hE := hE.trans hE4
  clear c1 f1 hb hs hE4
  obtain ⟨c0, f0⟩ := blk_rules k0
  obtain ⟨ca, fa⟩ := blk_rules ka
  have z0 := blk_lt k0
  have za := blk_lt ka
  go_wp2_with fail
  clear z0 za
  refine (hj _).mono ?_
  rintro e w4 ⟨rfl, hb⟩
  replace k0 := hb.keep k0
  replace k1 := hb.keep k1
  replace k2 := hb.keep k2
  replace hE := hE.trans hb
  clear c0 f0 ca fa hb hj ka kf
  obtain ⟨c0, f0⟩ := blk_rules k0
  go_wp2_with fail
  refine (hO _ hE).mono ?_
  rintro e w5 ⟨B, dB, rfl, hown, hb⟩
  replace hown := World.ownsRow.base_le (base' := w.heap.size) hown hE.size
  replace k0 := hb.keep k0
  replace k1 := hb.keep k1
  replace k2 := hb.keep k2
  replace hE := hE.trans hb
  clear hb hO c0 f0
  go_wp2_with fail
  have ko := blk_new w5 (.cells #[.int .i64 W, .int .i64 H, .slice B xs.length dB] 24)
  replace k0 := blk_old k0 (.cells #[.int .i64 W, .int .i64 H, .slice B xs.length dB] 24)
  replace k1 := blk_old k1 (.cells #[.int .i64 W, .int .i64 H, .slice B xs.length dB] 24)
  replace k2 := blk_old k2 (.cells #[.int .i64 W, .int .i64 H, .slice B xs.length dB] 24)
  replace hown := World.ownsRow.alloc hown (.cells #[.int .i64 W, .int .i64 H, .slice B xs.length dB] 24)
  have hE1 := hE.size
  replace hE := hE.alloc (.cells #[.int .i64 W, .int .i64 H, .slice B xs.length dB] 24)
  obtain ⟨g, hg⟩ : ∃ g, w5.heap.size = g := ⟨_, rfl⟩
  rw [hg] at ko hE1 ⊢
  generalize w5.alloc (.cells #[.int .i64 W, .int .i64 H, .slice B xs.length dB] 24) = w6 at *
  clear hg
  go_loopw [10] (fun i wr => ∃ (k : Nat), k ≤ xs.length ∧ i = .int .i64 k ∧ Ext w wr ∧ wr.heap[w.heap.size]? = some (.cells #[.int .i64 W, .int .i64 H, .slice A xs.length d] 24 (0, 0)) ∧ wr.heap[w.heap.size + 1]? = some (.cells #[.int .i64 x, .int .i64 y, .int .i64 a, .int .i64 b, .int .i64 dx, .int .i64 dy] 40 (0, 0)) ∧ wr.heap[w.heap.size + 1 + 1]? = some (.cells #[.int .i64 0, .int .i64 0, .slice none 0 0] 24 (0, 0)) ∧ wr.heap[g]? = some (.cells #[.int .i64 W, .int .i64 H, .slice B xs.length dB] 24 (0, 0)) ∧ wr.ownsRow w.heap.size 35 1 (.slice B xs.length dB) xs.length (nums .u32 (upTo (copyPx W ⟨x, y, a, b⟩ dx dy xs) k ys))) (fun i _ => xs.length - (intOf i).toNat)
  case atStart => exact ⟨0, Nat.zero_le _, rfl, hE, k0, k1, k2, ko, by rw [upTo_zero]; exact hown⟩
  case round =>
    clear hE k0 k1 k2 ko hown
    obtain ⟨k, hk, rfl, hE, k0, k1, k2, ko, hown⟩ := hrel
    obtain ⟨co, fo⟩ := blk_rules ko
    by_cases hlt : k < xs.length
    · obtain ⟨hd1, hd2, hd3, hd4⟩ := div_bd (k := k) W1
      have hm1 := tmod_nat (k := k) (W := W)
      have hm2 := tdiv_nat (k := k) (W := W)
      have hdm := divmod (k := k) W1
      have hdl := div_lt W1 hlt HL.out
      obtain ⟨X, hX⟩ : ∃ X, (k : Int) % W = X := ⟨_, rfl⟩
      obtain ⟨Y, hY⟩ : ∃ Y, (k : Int) / W = Y := ⟨_, rfl⟩
      rw [hX] at hm1 hd1 hd2 hdm
      rw [hY] at hm2 hd3 hd4 hdm hdl
      have hne : (W == 0) = false := by simp; omega
      have hh := fun w => rhas_any x y a b X Y w
      obtain ⟨bb, hbb⟩ : ∃ bb, Rect.has ⟨x, y, a, b⟩ X Y = bb := ⟨_, rfl⟩
      simp only [hbb] at hh
      have hf : ∀ p, copyPx W ⟨x, y, a, b⟩ dx dy xs k p = if bb = true then xs.getD ((k : Int) - dx - dy * W).toNat 0 else p := fun p => by unfold copyPx; rw [hX, hY, hbb]
      clear hX hY
      have hf0 := hf (ys.getD k 0)
      have HB := Lib.hid hbb
      have HD := Lib.hid hdm
      clear hf hbb hdm
      have j0 := After.blk k0
      have j1 := After.blk k1
      cases bb
      · simp only [Bool.false_eq_true, if_false] at hf0
        have F0 := Lib.hid hf0
        clear hf0
        go_wp2_with fail
        refine wp_region_after (by kernel_rfl) (by kernel_rfl) ?_
        repeat (go_big_quiet_step (first | with_reducible exact Calls.after (hh _)))
        refine wpQuiet_nil ?_
        intro _ hw'
        obtain ⟨z, rfl⟩ := hw'
        clear j0 j1
        go_wp2_with fail
        exact ⟨⟨k + 1, by omega, by go_num, hE.trans z.ext, z.ext.keep k0, z.ext.keep k1, z.ext.keep k2, z.ext.keep ko, by rw [upTo_same _ _ _ (by omega) F0.out]; exact row_keep hown z.ext⟩, by simp [intOf]; omega⟩
      · simp only [if_true] at hf0
        have F0 := Lib.hid hf0
        clear hf0
        go_wp2_with fail
        refine wp_region_after (by kernel_rfl) (by kernel_rfl) ?_
        repeat (go_big_quiet_step (first | with_reducible exact Calls.after (hh _)))
        refine wpQuiet_nil ?_
        intro _ hw'
        obtain ⟨z, rfl⟩ := hw'
        clear j0 j1 hh co fo
        have HE := hE.trans z.ext
        replace k0 := z.ext.keep k0
        replace k1 := z.ext.keep k1
        replace k2 := z.ext.keep k2
        replace ko := z.ext.keep ko
        replace hown := row_keep hown z.ext
        clear hE
        generalize z.now = w7 at *
        obtain ⟨g', rfl, hgb⟩ := row_form hown (by omega)
        obtain ⟨s1, s2, s3, s4⟩ := HS.out X Y HB.out
        obtain ⟨q1, q2, q3⟩ := place_bd W1 W2 H1 H2 s1 s2 s3 s4
        obtain ⟨ab, ao, rfl, har⟩ := (hr.ext HE).form (by omega)
        have hdm := HD.out
        have hsub : (Y - dy) * W = Y * W - dy * W := Int.sub_mul _ _ _
        have hdb : -1073741824 ≤ dy * W ∧ dy * W ≤ 1073741824 := by
          constructor
          · have := Int.mul_le_mul_of_nonneg_right h4 (show (0 : Int) ≤ W by omega)
            omega
          · have := Int.mul_le_mul_of_nonneg_right h4' (show (0 : Int) ≤ W by omega)
            omega
        obtain ⟨dyW, hdyW⟩ : ∃ v, dy * W = v := ⟨_, rfl⟩
        rw [hdyW] at hdb hsub F0
        obtain ⟨P, hP⟩ : ∃ P : Nat, (k : Int) - dx - dyW = P := ⟨((k : Int) - dx - dyW).toNat, by omega⟩
        rw [hP, Int.toNat_natCast] at F0
        have hL := HL.out
        have q4 : P < xs.length := by omega
        have hcell := har P (by omega)
        obtain ⟨u, hu⟩ : ∃ u, xs.getD P 0 = u := ⟨_, rfl⟩
        rw [hu] at hcell F0
        obtain ⟨co, fo⟩ := blk_rules ko
        obtain ⟨c0, f0⟩ := blk_rules k0
        obtain ⟨c1, f1⟩ := blk_rules k1
        have hrc := World.ownsRow.cellAt hown k (by omega)
        rw [nums_get (by rw [upTo_length]; omega)] at hrc
        have hrf := fun j => World.ownsRow.frozenAt hown j
        have hst := World.ownsRow.stored (World.ownsRow.drew hown) k (.int .u32 u)
        have hset : (nums .u32 (upTo (copyPx W ⟨x, y, a, b⟩ dx dy xs) k ys)).set k (.int .u32 u) = nums .u32 (upTo (copyPx W ⟨x, y, a, b⟩ dx dy xs) (k + 1) ys) := by
          rw [← upTo_succ _ _ _ (by omega), F0.out]
          simp [nums, List.map_set]
        have Hs := Lib.hid (hset ▸ hst.1)
        have hneg : ∀ {b : Nat} {cs : Array Value} {t : TypeId} {fr : Nat × Nat}, w7.heap[b]? = some (.cells cs t fr) → t ≠ 35 → b ≠ g' := fun h1 h2 h3 => by
          obtain ⟨_, cur, hc⟩ := row_block hown (g := g') (by simp [Value.ownBlock])
          rw [← h3, h1] at hc; injection hc with hc; injection hc with _ hc _; exact h2 hc
        have q5 : P ≤ 65536 := by omega
        have v1 : IntKind.i64.wrap (k - dx) = (k : Int) - dx := IntWalk.i64_in _ (by omega)
        have v2 : IntKind.i64.wrap (dy * W) = dyW := by rw [hdyW]; exact IntWalk.i64_in _ (by omega)
        have v3 : IntKind.i64.wrap ((k : Int) - dx - dyW) = (P : Int) := by rw [hP]; exact IntWalk.i64_in _ (by omega)
        clear hst hset F0 hu har HB hL hP hsub hdm hdyW q3 HD
        go_wp2_with fail
        go_still_tail 18, (by kernel_rfl)
        change wpList _ _ _ _ _ w7.drew
        go_wp2_with fail
        exact ⟨⟨k + 1, by omega, by go_num, (HE.set (by simpa using hgb) _).drew, blk_set_ne k0 (hneg k0 (by decide)) _ _, blk_set_ne k1 (hneg k1 (by decide)) _ _, blk_set_ne k2 (hneg k2 (by decide)) _ _, blk_set_ne ko (hneg ko (by decide)) _ _, Hs.out⟩, by simp [intOf]; omega⟩
    · obtain rfl : k = xs.length := by omega
      rw [← hyl, upTo_all, hyl] at hown
      have HT := Lib.hid hown
      obtain ⟨c2, f2⟩ := blk_rules k2
      clear hown
      go_wp2_with fail
      refine bodyPost_ret (v := .tuple #[.agg #[.int .i64 W, .int .i64 H, .slice B xs.length dB], .int .i64 0]) (by simp only [results, Try.results30]; go_simp; done) rfl ⟨_, _, rfl, ?_, ?_⟩
      · exact row_set (row_set (row_set HT.out k2 (by decide) 0 (.int .i64 W)) (blk_set k2 0 (.int .i64 W)) (by decide) 1 (.int .i64 H)) (blk_set (blk_set k2 0 (.int .i64 W)) 1 (.int .i64 H)) (by decide) 2 (.slice B xs.length dB)
      · repeat' (first | exact hE | refine Ext.set ?_ ?_ _)
        all_goals (simp; omega)
end Go.Proofs.Ytilcggkbancniaa
