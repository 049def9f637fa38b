/- The walks of package vignetteref03: Blit. -/
/- The walks of package vignetteref03: Copy. -/
/- The walks of package vignetteref03: Copy, the way that copies. -/
/- The walks of package vignetteref03: Part. -/
import Derived.Test.YtilcggkbancniaaRefD
import Derived.StillTail
import Derived.StillTailTactics
set_option linter.unusedVariables false
set_option linter.unusedSimpArgs false
namespace Go.Proofs.Ytilcggkbancniaa
open Go.RowKit

/-- Does the reference's Blit look at a pixel at all? -/
def blitNear (x y X Y : Int) : Bool := decide (x ≤ X) && (decide (y ≤ Y) && (decide (-4194304 ≤ x) && decide (-4194304 ≤ y)))
theorem blitNear_far {x y X Y : Int} (h : ¬ (x ≤ X ∧ y ≤ Y ∧ -4194304 ≤ x ∧ -4194304 ≤ y)) : blitNear x y X Y = false := by
  cases hh : blitNear x y X Y
  · rfl
  · simp [blitNear] at hh; omega
/-- What the reference's Blit makes of a pixel. -/
def blitPx (W x y W' H' : Int) (zs : List Int) (clip : Rect) (i : Nat) (p : Int) : Int :=
  if (blitNear x y ((i : Int) % W) ((i : Int) / W) && (Rect.has clip ((i : Int) % W) ((i : Int) / W) && picHas W' H' ((i : Int) % W - x) ((i : Int) / W - y))) = true then cut24 (zs.getD (((i : Int) / W - y) * W' + ((i : Int) % W - x)).toNat 0) else p

set_option maxHeartbeats 4000000 in
theorem rblit_bad (W H : Int) (A : Option Addr) (d : Nat) (xs : List Int) (x y W' H' : Int) (Z : Option Addr) (dz nz : Nat) (clip : Rect) (w : World) (hr : Reads .u32 w A xs) (hx : ∀ x ∈ xs, 0 ≤ x ∧ x ≤ 4294967295) (hn : xs.length ≤ 65536) (hp : isPic W' H' nz = false) :
    Calls Try.prog 28 #[.agg #[.int .i64 W, .int .i64 H, .slice A xs.length d], .int .i64 x, .int .i64 y, .agg #[.int .i64 W', .int .i64 H', .slice Z nz dz], .agg #[.int .i64 clip.x, .int .i64 clip.y, .int .i64 clip.w, .int .i64 clip.h]] w fun e w' => ∃ B d', e = .returned (.agg #[.int .i64 W, .int .i64 H, .slice B xs.length d']) ∧ w'.ownsRow w.heap.size 35 1 (.slice B xs.length d') xs.length (nums .u32 (xs.map cut24)) ∧ Ext w w' := by
  have hO := fun (w' : World) (h : Ext w w') => rown_any W H A d xs w' (hr.ext h) hx hn
  have hI := fun w => ris_any W' H' Z dz nz w
  simp only [hp] at hI
  obtain ⟨ys, hys⟩ : ∃ ys, xs.map cut24 = ys := ⟨_, rfl⟩
  have hyl : ys.length = xs.length := by rw [← hys, List.length_map]
  rw [hys] at hO ⊢
  clear hys hr
  go_enter Try.func28, Try.ntmps28
  go_wp2_with fail
  refine (hO _ (((((Ext.refl w).alloc _).alloc _).alloc _).alloc _)).mono ?_
  rintro e w1 ⟨B, dB, rfl, hown, hb⟩
  have hsz := hb.size
  obtain ⟨k0, k1, k2, k3, hE⟩ := ext4 hb
  replace hown := World.ownsRow.base_le (base' := w.heap.size) hown (by simp; omega)
  clear hb hsz hO
  obtain ⟨c1, f1⟩ := blk_rules k1
  have z1 := blk_lt k1
  have z3 := blk_lt k3
  go_wp2_with fail
  refine (hI _).mono ?_
  rintro e w2 ⟨rfl, hb⟩
  obtain ⟨ko, hE'⟩ := ext1 hb
  replace k3 := hE'.keep k3
  replace hown := row_keep hown hE'
  replace hE := hE.trans hE'
  clear c1 f1 k0 k1 k2
  obtain ⟨co, fo⟩ := blk_rules ko
  obtain ⟨c3, f3⟩ := blk_rules k3
  have HT := Lib.hid hown
  clear hown
  go_wp2_with fail
  refine bodyPost_ret (v := .agg #[.int .i64 W, .int .i64 H, .slice B xs.length dB]) (by simp only [results, Try.results28]; go_simp; done) rfl ⟨_, _, rfl, ?_, ?_⟩
  · exact row_set (row_set (row_set HT.out k3 (by decide) 0 (.int .i64 W)) (blk_set k3 0 (.int .i64 W)) (by decide) 1 (.int .i64 H)) (blk_set (blk_set k3 0 (.int .i64 W)) 1 (.int .i64 H)) (by decide) 2 (.slice B xs.length dB)
  · repeat' (first | exact hE | refine Ext.set ?_ ?_ _)
    all_goals (simp; omega)

set_option maxRecDepth 100000 in
set_option maxHeartbeats 4000000 in
theorem rblit_good (W H : Int) (A : Option Addr) (d : Nat) (xs : List Int) (x y W' H' : Int) (Z : Option Addr) (dz : Nat) (zs : List Int) (clip : Rect) (w : World) (hr : Reads .u32 w A xs) (hx : ∀ x ∈ xs, 0 ≤ x ∧ x ≤ 4294967295) (hn : xs.length ≤ 65536) (hW : 1 ≤ W) (hW2 : W ≤ 256) (hp : isPic W' H' zs.length = true) (hz : Reads .u32 w Z zs) (hzx : ∀ x ∈ zs, 0 ≤ x ∧ x ≤ 4294967295) :
    Calls Try.prog 28 #[.agg #[.int .i64 W, .int .i64 H, .slice A xs.length d], .int .i64 x, .int .i64 y, .agg #[.int .i64 W', .int .i64 H', .slice Z zs.length dz], .agg #[.int .i64 clip.x, .int .i64 clip.y, .int .i64 clip.w, .int .i64 clip.h]] w fun e w' => ∃ B d', e = .returned (.agg #[.int .i64 W, .int .i64 H, .slice B xs.length d']) ∧ w'.ownsRow w.heap.size 35 1 (.slice B xs.length d') xs.length (nums .u32 (mapAt (blitPx W x y W' H' zs clip) (xs.map cut24))) ∧ Ext w w' := by
  have hO := fun (w' : World) (h : Ext w w') => rown_any W H A d xs w' (hr.ext h) hx hn
  have hI := fun w => ris_any W' H' Z dz zs.length w
  simp only [hp] at hI
  obtain ⟨ys, hys⟩ : ∃ ys, xs.map cut24 = ys := ⟨_, rfl⟩
  have hyl : ys.length = xs.length := by rw [← hys, List.length_map]
  rw [hys] at hO ⊢
  clear hys hr
  go_enter Try.func28, Try.ntmps28
  go_wp2_with fail
  refine (hO _ (((((Ext.refl w).alloc _).alloc _).alloc _).alloc _)).mono ?_
  rintro e w1 ⟨B, dB, rfl, hown, hb⟩
  have hsz := hb.size
  obtain ⟨k0, k1, k2, k3, hE⟩ := ext4 hb
  replace hown := World.ownsRow.base_le (base' := w.heap.size) hown (by simp; omega)
  clear hb hsz hO
  obtain ⟨c1, f1⟩ := blk_rules k1
  have z1 := blk_lt k1
  go_wp2_with fail
  refine (hI _).mono ?_
  rintro e w2 ⟨rfl, hb⟩
  obtain ⟨ko, hE'⟩ := ext1 hb
  have hE1 := hE.size
  replace k0 := hE'.keep k0
  replace k1 := hE'.keep k1
  replace k2 := hE'.keep k2
  replace k3 := hE'.keep k3
  replace hown := row_keep hown hE'
  replace hE := hE.trans hE'
  obtain ⟨g, hg⟩ : ∃ g, w1.heap.size = g := ⟨_, rfl⟩
  rw [hg] at ko hE1
  clear c1 f1 hb hE'
  go_wp2_with fail
  clear hg z1
  have hp' : 1 ≤ W' ∧ W' ≤ 256 ∧ 1 ≤ H' ∧ H' ≤ 256 ∧ (zs.length : Int) = W' * H' := by simpa [isPic, and_assoc] using hp
  have HP := Lib.hid hp'
  clear hp' hI hp
  go_loopw [12, 13, 14] (fun i _ _ wr => ∃ (k : Nat), k ≤ xs.length ∧ i = .int .i64 k ∧ Ext w wr ∧ wr.heap[w.heap.size]? = some (.cells #[.int .i64 W, .int .i64 H, .slice A xs.length d] 24 (0, 0)) ∧ wr.heap[w.heap.size + 1]? = some (.cells #[.int .i64 W', .int .i64 H', .slice Z zs.length dz] 24 (0, 0)) ∧ wr.heap[w.heap.size + 1 + 1]? = some (.cells #[.int .i64 clip.x, .int .i64 clip.y, .int .i64 clip.w, .int .i64 clip.h] 38 (0, 0)) ∧ wr.heap[w.heap.size + 1 + 1 + 1]? = some (.cells #[.int .i64 0, .int .i64 0, .slice none 0 0] 24 (0, 0)) ∧ wr.heap[g]? = some (.cells #[.int .i64 W, .int .i64 H, .slice B xs.length dB] 24 (0, 0)) ∧ wr.ownsRow w.heap.size 35 1 (.slice B xs.length dB) xs.length (nums .u32 (upTo (blitPx W x y W' H' zs clip) k ys))) (fun i _ _ _ => xs.length - (intOf i).toNat)
  case atStart => exact ⟨0, Nat.zero_le _, rfl, hE, k0, k1, k2, k3, ko, by rw [upTo_zero]; exact hown⟩
  case round =>
    clear hE k0 k1 k2 k3 ko hown
    obtain ⟨k, hk, rfl, hE, k0, k1, k2, k3, ko, hown⟩ := hrel
    obtain ⟨co, fo⟩ := blk_rules ko
    obtain ⟨c0, f0⟩ := blk_rules k0
    by_cases hlt : k < xs.length
    · obtain ⟨hd1, hd2, hd3, hd4⟩ := div_bd (k := k) hW
      have hm1 := tmod_nat (k := k) (W := W)
      have hm2 := tdiv_nat (k := k) (W := W)
      obtain ⟨X, hX⟩ : ∃ X, (k : Int) % W = X := ⟨_, rfl⟩
      obtain ⟨Y, hY⟩ : ∃ Y, (k : Int) / W = Y := ⟨_, rfl⟩
      rw [hX] at hm1 hd1 hd2
      rw [hY] at hm2 hd3 hd4
      have hne : (W == 0) = false := by simp; omega
      have hf : ∀ p, blitPx W x y W' H' zs clip k p = if (blitNear x y X Y && (Rect.has clip X Y && picHas W' H' (X - x) (Y - y))) = true then cut24 (zs.getD ((Y - y) * W' + (X - x)).toNat 0) else p := fun p => by unfold blitPx; rw [hX, hY]
      clear hX hY
      have hf0 := hf (ys.getD k 0)
      clear hf
      by_cases hnear : x ≤ X ∧ y ≤ Y ∧ -4194304 ≤ x ∧ -4194304 ≤ y
      · obtain ⟨n1, n2, n3, n4⟩ := hnear
        rw [show blitNear x y X Y = true by simp [blitNear]; omega, Bool.true_and] at hf0
        have hh := fun w => rhas_any clip.x clip.y clip.w clip.h X Y w
        simp only [show Rect.mk clip.x clip.y clip.w clip.h = clip from rfl] at hh
        obtain ⟨bb, hbb⟩ : ∃ bb, Rect.has clip X Y = bb := ⟨_, rfl⟩
        simp only [hbb] at hh
        rw [hbb] at hf0
        clear hbb
        go_wp2_with fail
        go_quiet (fail)
        replace hE := hE.drewN nq
        replace k0 : (wr.drewN nq).heap[w.heap.size]? = _ := k0
        replace k1 : (wr.drewN nq).heap[w.heap.size + 1]? = _ := k1
        replace k2 : (wr.drewN nq).heap[w.heap.size + 1 + 1]? = _ := k2
        replace k3 : (wr.drewN nq).heap[w.heap.size + 1 + 1 + 1]? = _ := k3
        replace ko : (wr.drewN nq).heap[g]? = _ := ko
        replace hown : (wr.drewN nq).ownsRow _ _ _ _ _ _ := hown
        clear co fo c0 f0
        generalize wr.drewN nq = w3 at *
        have j0 := After.blk k0
        have j1 := After.blk k1
        have j2 := After.blk k2
        cases bb
        · simp only [Bool.false_and, Bool.false_eq_true, if_false] at hf0
          have F0 := Lib.hid hf0
          clear hf0
          go_wp2_with fail
          refine wp_region_after (by kernel_rfl) (by kernel_rfl) ?_
          repeat (go_big_quiet_step (first | with_reducible exact Calls.after (hh _)))
          refine wpQuiet_nil ?_
          intro _ hw'
          obtain ⟨z, rfl⟩ := hw'
          clear j0 j1 j2
          go_wp2_with fail
          exact ⟨⟨k + 1, by omega, by go_num, hE.trans z.ext, z.ext.keep k0, z.ext.keep k1, z.ext.keep k2, z.ext.keep k3, z.ext.keep ko, by rw [upTo_same _ _ _ (by omega) F0.out]; exact row_keep hown z.ext⟩, by simp [intOf]; omega⟩
        · have hq := fun w => rphas_any W' H' Z dz zs.length (X - x) (Y - y) w
          obtain ⟨b2, hb2⟩ : ∃ b2, picHas W' H' (X - x) (Y - y) = b2 := ⟨_, rfl⟩
          simp only [hb2] at hq
          rw [hb2, Bool.true_and] at hf0
          cases b2
          · simp only [Bool.false_eq_true, if_false] at hf0
            have F0 := Lib.hid hf0
            clear hf0 hb2
            go_wp2_with fail
            refine wp_region_after (by kernel_rfl) (by kernel_rfl) ?_
            repeat (go_big_quiet_step (first | with_reducible exact Calls.after (hh _) | with_reducible exact Calls.after (hq _)))
            refine wpQuiet_nil ?_
            intro _ hw'
            obtain ⟨z, rfl⟩ := hw'
            clear j0 j1 j2
            go_wp2_with fail
            exact ⟨⟨k + 1, by omega, by go_num, hE.trans z.ext, z.ext.keep k0, z.ext.keep k1, z.ext.keep k2, z.ext.keep k3, z.ext.keep ko, by rw [upTo_same _ _ _ (by omega) F0.out]; exact row_keep hown z.ext⟩, by simp [intOf]; omega⟩
          · simp only [if_true] at hf0
            have F0 := Lib.hid hf0
            have HB := Lib.hid hb2
            clear hf0 hb2
            go_wp2_with fail
            refine wp_region_after (by kernel_rfl) (by kernel_rfl) ?_
            repeat (go_big_quiet_step (first | with_reducible exact Calls.after (hh _) | with_reducible exact Calls.after (hq _)))
            refine wpQuiet_nil ?_
            intro _ hw'
            obtain ⟨z, rfl⟩ := hw'
            clear j0 j1 j2 hh hq
            have HE := hE.trans z.ext
            replace k0 := z.ext.keep k0
            replace k1 := z.ext.keep k1
            replace k2 := z.ext.keep k2
            replace k3 := z.ext.keep k3
            replace ko := z.ext.keep ko
            replace hown := row_keep hown z.ext
            clear hE
            generalize z.now = w4 at *
            obtain ⟨g', rfl, hgb⟩ := row_form hown (by omega)
            have hpix : 0 ≤ X - x ∧ X - x < W' ∧ 0 ≤ Y - y ∧ Y - y < H' := by
              have := HB.out
              simpa [picHas, and_assoc] using this
            obtain ⟨p1, p2, p3, p4, p5⟩ := HP.out
            obtain ⟨q1, q2, q3⟩ := place_bd p1 p2 p3 p4 hpix.1 hpix.2.1 hpix.2.2.1 hpix.2.2.2
            obtain ⟨zb, zo, rfl, hzr⟩ := (hz.ext HE).form (by omega)
            obtain ⟨P, hP⟩ : ∃ P : Nat, (Y - y) * W' + (X - x) = P := ⟨((Y - y) * W' + (X - x)).toNat, by omega⟩
            rw [hP] at F0 q3
            rw [Int.toNat_natCast] at F0
            have hzc := hzr P (by omega)
            obtain ⟨u, hu⟩ : ∃ u, zs.getD P 0 = u := ⟨_, rfl⟩
            have hub : 0 ≤ u ∧ u ≤ 4294967295 := by
              rw [← hu, List.getD_eq_getElem?_getD, List.getElem?_eq_getElem (by omega), Option.getD_some]
              exact hzx _ (List.getElem_mem _)
            rw [hu] at hzc F0
            have hcu : u.tmod 16777216 = cut24 u := by unfold cut24; rw [Int.tmod_eq_emod_of_nonneg hub.1]
            obtain ⟨co, fo⟩ := blk_rules ko
            obtain ⟨c1, f1⟩ := blk_rules k1
            have hrc := World.ownsRow.cellAt hown k (by omega)
            rw [nums_get (by rw [upTo_length]; omega)] at hrc
            have hrf := fun j => World.ownsRow.frozenAt hown j
            have hs := World.ownsRow.stored (World.ownsRow.drew hown) k (.int .u32 (cut24 u))
            have hset : (nums .u32 (upTo (blitPx W x y W' H' zs clip) k ys)).set k (.int .u32 (cut24 u)) = nums .u32 (upTo (blitPx W x y W' H' zs clip) (k + 1) ys) := by
              rw [← upTo_succ _ _ _ (by omega), F0.out]
              simp [nums, List.map_set]
            have Hs := Lib.hid (hset ▸ hs.1)
            have hneg : ∀ {b : Nat} {cs : Array Value} {t : TypeId} {fr : Nat × Nat}, w4.heap[b]? = some (.cells cs t fr) → t ≠ 35 → b ≠ g' := fun h1 h2 h3 => by
              obtain ⟨_, cur, hc⟩ := row_block hown (g := g') (by simp [Value.ownBlock])
              rw [← h3, h1] at hc; injection hc with hc; injection hc with _ hc _; exact h2 hc
            have q4 : P < zs.length := by omega
            have q5 : P ≤ 65536 := by have := (mul_bd p1 p2 p3 p4).2; omega
            have v1 : IntKind.i64.wrap ((Y - y) * W') = (Y - y) * W' := IntWalk.i64_in _ (by omega)
            have v2 : IntKind.i64.wrap ((Y - y) * W' + (X - x)) = (P : Int) := by rw [hP]; exact IntWalk.i64_in _ (by omega)
            clear hs hset F0 hu hub hzr HB p5 q3 hz hP
            go_wp2_with fail
            go_still_tail 15, (by kernel_rfl)
            change wpList _ _ _ _ _ w4.drew
            go_wp2_with fail
            exact ⟨⟨k + 1, by omega, by go_num, (HE.set (by simpa using hgb) _).drew, blk_set_ne k0 (hneg k0 (by decide)) _ _, blk_set_ne k1 (hneg k1 (by decide)) _ _, blk_set_ne k2 (hneg k2 (by decide)) _ _, blk_set_ne k3 (hneg k3 (by decide)) _ _, blk_set_ne ko (hneg ko (by decide)) _ _, Hs.out⟩, by simp [intOf]; omega⟩
      · have hnn : blitNear x y X Y = false := blitNear_far hnear
        simp only [hnn, Bool.false_and, Bool.false_eq_true, if_false] at hf0
        have F0 := Lib.hid hf0
        clear hf0 hnn
        have hw4 : X < x ∨ x ≤ X ∧ Y < y ∨ x ≤ X ∧ y ≤ Y ∧ x < -4194304 ∨ x ≤ X ∧ y ≤ Y ∧ -4194304 ≤ x ∧ y < -4194304 := by omega
        clear hnear
        rcases hw4 with n1 | ⟨n1, n2⟩ | ⟨n1, n2, n3⟩ | ⟨n1, n2, n3, n4⟩
        all_goals
          go_wp2_with fail
          exact ⟨⟨k + 1, by omega, by go_num, hE, k0, k1, k2, k3, ko, by rw [upTo_same _ _ _ (by omega) F0.out]; exact hown⟩, by simp [intOf]; omega⟩
    · obtain rfl : k = xs.length := by omega
      rw [← hyl, upTo_all, hyl] at hown
      have HT := Lib.hid hown
      obtain ⟨c3, f3⟩ := blk_rules k3
      clear hown
      go_wp2_with fail
      refine bodyPost_ret (v := .agg #[.int .i64 W, .int .i64 H, .slice B xs.length dB]) (by simp only [results, Try.results28]; go_simp; done) rfl ⟨_, _, rfl, ?_, ?_⟩
      · exact row_set (row_set (row_set HT.out k3 (by decide) 0 (.int .i64 W)) (blk_set k3 0 (.int .i64 W)) (by decide) 1 (.int .i64 H)) (blk_set (blk_set k3 0 (.int .i64 W)) 1 (.int .i64 H)) (by decide) 2 (.slice B xs.length dB)
      · repeat' (first | exact hE | refine Ext.set ?_ ?_ _)
        all_goals (simp; omega)
end Go.Proofs.Ytilcggkbancniaa
set_option linter.unusedVariables false
set_option linter.unusedSimpArgs false
namespace Go.Proofs.Ytilcggkbancniaa
open Go.RowKit
attribute [local go_sem ↓] eq_rect

set_option maxHeartbeats 2000000 in
theorem rcopy_empty (W H : Int) (A : Option Addr) (d : Nat) (xs : List Int) (x y a b dx dy : Int) (w : World) (hr : Reads .u32 w A xs) (hx : ∀ x ∈ xs, 0 ≤ x ∧ x ≤ 4294967295) (hn : xs.length ≤ 65536) (h1 : Rect.empty ⟨x, y, a, b⟩ = true) :
    Calls Try.prog 30 #[.agg #[.int .i64 W, .int .i64 H, .slice A xs.length d], .agg #[.int .i64 x, .int .i64 y, .int .i64 a, .int .i64 b, .int .i64 dx, .int .i64 dy]] w fun e w' => ∃ B d', e = .returned (.tuple #[.agg #[.int .i64 W, .int .i64 H, .slice B xs.length d'], .int .i64 0]) ∧ w'.ownsRow w.heap.size 35 1 (.slice B xs.length d') xs.length (nums .u32 (xs.map cut24)) ∧ Ext w w' := by
  have hO := fun (w' : World) (h : Ext w w') => rown_any W H A d xs w' (hr.ext h) hx hn
  obtain ⟨ys, hys⟩ : ∃ ys, xs.map cut24 = ys := ⟨_, rfl⟩
  have hyl : ys.length = xs.length := by rw [← hys, List.length_map]
  rw [hys] at hO ⊢
  clear hys
  have he := fun w => rempty_any x y a b w
  simp only [h1] at he
  go_enter Try.func30, Try.ntmps30
  go_wp2_with fail
  refine (he _).mono ?_
  rintro e w1 ⟨rfl, hb⟩
  obtain ⟨k0, k1, k2, hE⟩ := ext3 hb
  obtain ⟨c0, f0⟩ := blk_rules k0
  obtain ⟨c1, f1⟩ := blk_rules k1
  have z0 := blk_lt k0
  have z1 := blk_lt k1
  clear hb he
  go_wp2_with fail
  clear z0 z1
  · skip
    refine (hO _ hE).mono ?_
    rintro e wO ⟨B, dB, rfl, hown, hb⟩
    replace hown := World.ownsRow.base_le (base' := w.heap.size) hown hE.size
    replace k2 := hb.keep k2
    replace hE := hE.trans hb
    clear hb hO
    clear c0 f0 c1 f1
    obtain ⟨c2, f2⟩ := blk_rules k2
    have HT := Lib.hid hown
    clear hown
    go_wp2_with fail
    refine bodyPost_ret (v := .tuple #[.agg #[.int .i64 W, .int .i64 H, .slice B xs.length dB], .int .i64 0]) (by simp only [results, Try.results30]; go_simp; done) rfl ⟨_, _, rfl, ?_, ?_⟩
    · exact row_set (row_set (row_set HT.out k2 (by decide) 0 (.int .i64 W)) (blk_set k2 0 (.int .i64 W)) (by decide) 1 (.int .i64 H)) (blk_set (blk_set k2 0 (.int .i64 W)) 1 (.int .i64 H)) (by decide) 2 (.slice B xs.length dB)
    · repeat' (first | exact hE | refine Ext.set ?_ ?_ _)
      all_goals (simp; omega)

set_option maxHeartbeats 4000000 in
theorem rcopy_far (W H : Int) (A : Option Addr) (d : Nat) (xs : List Int) (x y a b dx dy : Int) (w : World) (hr : Reads .u32 w A xs) (hx : ∀ x ∈ xs, 0 ≤ x ∧ x ≤ 4294967295) (hn : xs.length ≤ 65536) (h1 : Rect.empty ⟨x, y, a, b⟩ = false) (h2 : Rect.within ⟨x, y, a, b⟩ ⟨0, 0, W, H⟩ = false ∨ Rect.within ⟨x, y, a, b⟩ ⟨0, 0, W, H⟩ = true ∧ (dx < -4194304 ∨ -4194304 ≤ dx ∧ (4194304 < dx ∨ dx ≤ 4194304 ∧ (dy < -4194304 ∨ -4194304 ≤ dy ∧ 4194304 < dy)))) :
    Calls Try.prog 30 #[.agg #[.int .i64 W, .int .i64 H, .slice A xs.length d], .agg #[.int .i64 x, .int .i64 y, .int .i64 a, .int .i64 b, .int .i64 dx, .int .i64 dy]] w fun e w' => ∃ B d', e = .returned (.tuple #[.agg #[.int .i64 W, .int .i64 H, .slice B xs.length d'], .int .i64 5]) ∧ w'.ownsRow w.heap.size 35 1 (.slice B xs.length d') xs.length (nums .u32 (xs.map cut24)) ∧ Ext w w' := by
  have hO := fun (w' : World) (h : Ext w w') => rown_any W H A d xs w' (hr.ext h) hx hn
  obtain ⟨ys, hys⟩ : ∃ ys, xs.map cut24 = ys := ⟨_, rfl⟩
  have hyl : ys.length = xs.length := by rw [← hys, List.length_map]
  rw [hys] at hO ⊢
  clear hys
  have he := fun w => rempty_any x y a b w
  simp only [h1] at he
  have hi := fun w => rin_any x y a b 0 0 W H w
  have h2' : Rect.within ⟨x, y, a, b⟩ ⟨0, 0, W, H⟩ = false ∨ (Rect.within ⟨x, y, a, b⟩ ⟨0, 0, W, H⟩ = true ∧ dx < -4194304) ∨ (Rect.within ⟨x, y, a, b⟩ ⟨0, 0, W, H⟩ = true ∧ -4194304 ≤ dx ∧ 4194304 < dx) ∨ (Rect.within ⟨x, y, a, b⟩ ⟨0, 0, W, H⟩ = true ∧ -4194304 ≤ dx ∧ dx ≤ 4194304 ∧ dy < -4194304) ∨ (Rect.within ⟨x, y, a, b⟩ ⟨0, 0, W, H⟩ = true ∧ -4194304 ≤ dx ∧ dx ≤ 4194304 ∧ -4194304 ≤ dy ∧ 4194304 < dy) := by
    rcases h2 with h | ⟨h, h3⟩
    · exact .inl h
    · rcases h3 with h3 | ⟨h3, h4⟩
      · exact .inr (.inl ⟨h, h3⟩)
      · rcases h4 with h4 | ⟨h4, h5⟩
        · exact .inr (.inr (.inl ⟨h, h3, h4⟩))
        · rcases h5 with h5 | ⟨h5, h6⟩
          · exact .inr (.inr (.inr (.inl ⟨h, h3, h4, h5⟩)))
          · exact .inr (.inr (.inr (.inr ⟨h, h3, h4, h5, h6⟩)))
  clear h2
  rcases h2' with h2 | ⟨h2, h3⟩ | ⟨h2, h3, h4⟩ | ⟨h2, h3, h4, h5⟩ | ⟨h2, h3, h4, h5, h6⟩
  all_goals simp only [h2] at hi
  all_goals
    go_enter Try.func30, Try.ntmps30
    go_wp2_with fail
    refine (he _).mono ?_
    rintro e w1 ⟨rfl, hb⟩
    obtain ⟨k0, k1, k2, hE⟩ := ext3 hb
    obtain ⟨c0, f0⟩ := blk_rules k0
    obtain ⟨c1, f1⟩ := blk_rules k1
    have z0 := blk_lt k0
    have z1 := blk_lt k1
    clear hb he
    go_wp2_with fail
    clear z0 z1
    have hE2 := (Ext.refl w1).alloc (.cells #[.int .i64 0, .int .i64 0, .int .i64 W, .int .i64 H] 38)
    refine (hi _).mono ?_
    rintro e w2 ⟨rfl, hb⟩
    have hE3 := hE2.trans hb
    replace k0 := hE3.keep k0
    replace k1 := hE3.keep k1
    replace k2 := hE3.keep k2
    replace hE := hE.trans hE3
    clear c0 f0 c1 f1 hb hE2 hE3 hi
    obtain ⟨c0, f0⟩ := blk_rules k0
    obtain ⟨c1, f1⟩ := blk_rules k1
    go_wp2_with fail
    refine (hO _ hE).mono ?_
    rintro e wO ⟨B, dB, rfl, hown, hb⟩
    replace hown := World.ownsRow.base_le (base' := w.heap.size) hown hE.size
    replace k2 := hb.keep k2
    replace hE := hE.trans hb
    clear hb hO
    clear c0 f0 c1 f1
    obtain ⟨c2, f2⟩ := blk_rules k2
    have HT := Lib.hid hown
    clear hown
    go_wp2_with fail
    refine bodyPost_ret (v := .tuple #[.agg #[.int .i64 W, .int .i64 H, .slice B xs.length dB], .int .i64 5]) (by simp only [results, Try.results30]; go_simp; done) rfl ⟨_, _, rfl, ?_, ?_⟩
    · exact row_set (row_set (row_set HT.out k2 (by decide) 0 (.int .i64 W)) (blk_set k2 0 (.int .i64 W)) (by decide) 1 (.int .i64 H)) (blk_set (blk_set k2 0 (.int .i64 W)) 1 (.int .i64 H)) (by decide) 2 (.slice B xs.length dB)
    · repeat' (first | exact hE | refine Ext.set ?_ ?_ _)
      all_goals (simp; omega)

set_option maxHeartbeats 4000000 in
theorem rcopy_away (W H : Int) (A : Option Addr) (d : Nat) (xs : List Int) (x y a b dx dy : Int) (w : World) (hr : Reads .u32 w A xs) (hx : ∀ x ∈ xs, 0 ≤ x ∧ x ≤ 4294967295) (hn : xs.length ≤ 65536) (h1 : Rect.empty ⟨x, y, a, b⟩ = false) (h2 : Rect.within ⟨x, y, a, b⟩ ⟨0, 0, W, H⟩ = true) (h3 : -4194304 ≤ dx ∧ dx ≤ 4194304) (h4 : -4194304 ≤ dy ∧ dy ≤ 4194304) {F : Rect} (hF : Rect.shift ⟨x, y, a, b⟩ (-dx) (-dy) = F) (h5 : Rect.eqB F Rect.zero = true ∨ Rect.eqB F Rect.zero = false ∧ Rect.within F ⟨0, 0, W, H⟩ = false) :
    Calls Try.prog 30 #[.agg #[.int .i64 W, .int .i64 H, .slice A xs.length d], .agg #[.int .i64 x, .int .i64 y, .int .i64 a, .int .i64 b, .int .i64 dx, .int .i64 dy]] w fun e w' => ∃ B d', e = .returned (.tuple #[.agg #[.int .i64 W, .int .i64 H, .slice B xs.length d'], .int .i64 5]) ∧ w'.ownsRow w.heap.size 35 1 (.slice B xs.length d') xs.length (nums .u32 (xs.map cut24)) ∧ Ext w w' := by
  have hO := fun (w' : World) (h : Ext w w') => rown_any W H A d xs w' (hr.ext h) hx hn
  obtain ⟨ys, hys⟩ : ∃ ys, xs.map cut24 = ys := ⟨_, rfl⟩
  have hyl : ys.length = xs.length := by rw [← hys, List.length_map]
  rw [hys] at hO ⊢
  clear hys
  have he := fun w => rempty_any x y a b w
  simp only [h1] at he
  have hi := fun w => rin_any x y a b 0 0 W H w
  simp only [h2] at hi
  have hs := fun w => rshift_any x y a b (-dx) (-dy) w
  simp only [hF] at hs
  have hj := fun w => rin_any F.x F.y F.w F.h 0 0 W H w
  simp only [show Rect.mk F.x F.y F.w F.h = F from rfl] at hj
  have hz : Rect.eqB ⟨F.x, F.y, F.w, F.h⟩ ⟨0, 0, 0, 0⟩ = Rect.eqB F Rect.zero := rfl
  obtain ⟨h3, h3'⟩ := h3
  obtain ⟨h4, h4'⟩ := h4
  rcases h5 with h5 | ⟨h5, h6⟩
  all_goals rw [h5] at hz
  all_goals try simp only [h6] at hj
  all_goals
    go_enter Try.func30, Try.ntmps30
    go_wp2_with fail
    refine (he _).mono ?_
    rintro e w1 ⟨rfl, hb⟩
    obtain ⟨k0, k1, k2, hE⟩ := ext3 hb
    obtain ⟨c0, f0⟩ := blk_rules k0
    obtain ⟨c1, f1⟩ := blk_rules k1
    have z0 := blk_lt k0
    have z1 := blk_lt k1
    clear hb he
    go_wp2_with fail
    clear z0 z1
    have hE2 := (Ext.refl w1).alloc (.cells #[.int .i64 0, .int .i64 0, .int .i64 W, .int .i64 H] 38)
    have ka := blk_new w1 (.cells #[.int .i64 0, .int .i64 0, .int .i64 W, .int .i64 H] 38)
    refine (hi _).mono ?_
    rintro e w2 ⟨rfl, hb⟩
    have hE3 := hE2.trans hb
    replace k0 := hE3.keep k0
    replace k1 := hE3.keep k1
    replace k2 := hE3.keep k2
    replace ka := hb.keep ka
    replace hE := hE.trans hE3
    clear c0 f0 c1 f1 hb hE2 hE3 hi
    obtain ⟨c1, f1⟩ := blk_rules k1
    have z1 := blk_lt k1
    go_wp2_with fail
    clear z1
    refine (hs _).mono ?_
    rintro e w3 ⟨rfl, hb⟩
    have hE4 := hb.alloc (.cells #[.int .i64 F.x, .int .i64 F.y, .int .i64 F.w, .int .i64 F.h] 38)
    have kf := blk_new w3 (.cells #[.int .i64 F.x, .int .i64 F.y, .int .i64 F.w, .int .i64 F.h] 38)
    replace k0 := hE4.keep k0
    replace k1 := hE4.keep k1
    replace k2 := hE4.keep k2
    replace ka := hE4.keep ka
    replace hE := hE.trans hE4
    clear c1 f1 hb hs hE4
    obtain ⟨c0, f0⟩ := blk_rules k0
    obtain ⟨ca, fa⟩ := blk_rules ka
    have z0 := blk_lt k0
    have za := blk_lt ka
    go_wp2_with fail
    clear z0 za
    first
      | skip
        refine (hj _).mono ?_
        rintro e w4 ⟨rfl, hb⟩
        replace k0 := hb.keep k0
        replace k2 := hb.keep k2
        replace hE := hE.trans hb
        clear c0 f0 ca fa hb hj
        obtain ⟨c0, f0⟩ := blk_rules k0
        go_wp2_with fail
      | skip
    refine (hO _ hE).mono ?_
    rintro e wO ⟨B, dB, rfl, hown, hb⟩
    replace hown := World.ownsRow.base_le (base' := w.heap.size) hown hE.size
    replace k2 := hb.keep k2
    replace hE := hE.trans hb
    clear hb hO
    clear c0 f0
    obtain ⟨c2, f2⟩ := blk_rules k2
    have HT := Lib.hid hown
    clear hown
    go_wp2_with fail
    refine bodyPost_ret (v := .tuple #[.agg #[.int .i64 W, .int .i64 H, .slice B xs.length dB], .int .i64 5]) (by simp only [results, Try.results30]; go_simp; done) rfl ⟨_, _, rfl, ?_, ?_⟩
    · exact row_set (row_set (row_set HT.out k2 (by decide) 0 (.int .i64 W)) (blk_set k2 0 (.int .i64 W)) (by decide) 1 (.int .i64 H)) (blk_set (blk_set k2 0 (.int .i64 W)) 1 (.int .i64 H)) (by decide) 2 (.slice B xs.length dB)
    · repeat' (first | exact hE | refine Ext.set ?_ ?_ _)
      all_goals (simp; omega)

/-- What the reference's Copy makes of a pixel. -/
def copyPx (W : Int) (to : Rect) (dx dy : Int) (xs : List Int) (i : Nat) (p : Int) : Int :=
  if Rect.has to ((i : Int) % W) ((i : Int) / W) = true then xs.getD ((i : Int) - dx - dy * W).toNat 0 else p
end Go.Proofs.Ytilcggkbancniaa
set_option linter.unusedVariables false
set_option linter.unusedSimpArgs false
namespace Go.Proofs.Ytilcggkbancniaa
open Go.RowKit
attribute [local go_sem ↓] eq_rect

theorem divmod {k : Nat} {W : Int} (h : 1 ≤ W) : (k : Int) / W * W + (k : Int) % W = k := by
  have := Int.mul_ediv_add_emod (k : Int) W
  rw [Int.mul_comm] at this
  exact this
theorem div_lt {k n : Nat} {W H : Int} (h : 1 ≤ W) (hk : k < n) (hn : (n : Int) = W * H) : (k : Int) / W < H := by
  apply Int.ediv_lt_of_lt_mul (by omega)
  rw [Int.mul_comm]
  omega

set_option maxRecDepth 100000 in
set_option maxHeartbeats 8000000 in
theorem rcopy_good (W H : Int) (A : Option Addr) (d : Nat) (xs : List Int) (x y a b dx dy : Int) (w : World) (hr : Reads .u32 w A xs) (hx : ∀ x ∈ xs, 0 ≤ x ∧ x ≤ 4294967295) (hp : isPic W H xs.length = true) (h1 : Rect.empty ⟨x, y, a, b⟩ = false) (h2 : Rect.within ⟨x, y, a, b⟩ ⟨0, 0, W, H⟩ = true) (h3 : -4194304 ≤ dx ∧ dx ≤ 4194304) (h4 : -4194304 ≤ dy ∧ dy ≤ 4194304) {F : Rect} (hF : Rect.shift ⟨x, y, a, b⟩ (-dx) (-dy) = F) (h5 : Rect.eqB F Rect.zero = false) (h6 : Rect.within F ⟨0, 0, W, H⟩ = true) :
    Calls Try.prog 30 #[.agg #[.int .i64 W, .int .i64 H, .slice A xs.length d], .agg #[.int .i64 x, .int .i64 y, .int .i64 a, .int .i64 b, .int .i64 dx, .int .i64 dy]] w fun e w' => ∃ B d', e = .returned (.tuple #[.agg #[.int .i64 W, .int .i64 H, .slice B xs.length d'], .int .i64 0]) ∧ w'.ownsRow w.heap.size 35 1 (.slice B xs.length d') xs.length (nums .u32 (mapAt (copyPx W ⟨x, y, a, b⟩ dx dy xs) (xs.map cut24))) ∧ Ext w w' := by
  have hp' : 1 ≤ W ∧ W ≤ 256 ∧ 1 ≤ H ∧ H ≤ 256 ∧ (xs.length : Int) = W * H := by simpa [isPic, and_assoc] using hp
  obtain ⟨W1, W2, H1, H2, hlen⟩ := hp'
  obtain ⟨m1, m2⟩ := mul_bd W1 W2 H1 H2
  have hn : xs.length ≤ 65536 := by omega
  -- where what is copied comes from
  have hsrc : ∀ X Y : Int, Rect.has ⟨x, y, a, b⟩ X Y = true → 0 ≤ X - dx ∧ X - dx < W ∧ 0 ≤ Y - dy ∧ Y - dy < H := fun X Y hh => by
    obtain ⟨q1, q2, q3, q4, q5, q6⟩ := Rect.inside h1 h2 W1 W2 H1 H2
    dsimp only at q1 q2 q3 q4 q5 q6
    have hFe : F = ⟨x + -dx, y + -dy, a, b⟩ := by
      unfold Rect.shift at hF
      split at hF
      · exact hF.symm
      · rw [← hF] at h5; simp [Rect.eqB] at h5
    subst hFe
    have hg : Rect.empty ⟨x + -dx, y + -dy, a, b⟩ = false := by
      have hgood : Rect.good (Rect.move ⟨x, y, a, b⟩ (-dx) (-dy)) = true := by
        unfold Rect.shift at hF
        split at hF
        · rename_i hc
          simp only [Bool.and_eq_true] at hc
          exact hc.2
        · rw [← hF] at h5; simp [Rect.eqB, Rect.zero] at h5
      have := Rect.good_iff.1 hgood
      simp only [Rect.move] at this
      exact Rect.empty_iff.2 (by dsimp only; omega)
    obtain ⟨s1, s2, s3, s4, s5, s6⟩ := Rect.inside hg h6 W1 W2 H1 H2
    dsimp only at s1 s2 s3 s4 s5 s6
    simp only [Rect.has, within, Bool.and_eq_true, decide_eq_true_eq] at hh
    omega
  have HS := Lib.hid hsrc
  have HL := Lib.hid hlen
  have hO := fun (w' : World) (h : Ext w w') => rown_any W H A d xs w' (hr.ext h) hx hn
  obtain ⟨ys, hys⟩ : ∃ ys, xs.map cut24 = ys := ⟨_, rfl⟩
  have hyl : ys.length = xs.length := by rw [← hys, List.length_map]
  rw [hys] at hO ⊢
  clear hys hsrc hlen m1 m2 hp
  have he := fun w => rempty_any x y a b w
  simp only [h1] at he
  have hi := fun w => rin_any x y a b 0 0 W H w
  simp only [h2] at hi
  have hs := fun w => rshift_any x y a b (-dx) (-dy) w
  simp only [hF] at hs
  have hj := fun w => rin_any F.x F.y F.w F.h 0 0 W H w
  simp only [show Rect.mk F.x F.y F.w F.h = F from rfl] at hj
  have hz : Rect.eqB ⟨F.x, F.y, F.w, F.h⟩ ⟨0, 0, 0, 0⟩ = Rect.eqB F Rect.zero := rfl
  obtain ⟨h3, h3'⟩ := h3
  obtain ⟨h4, h4'⟩ := h4
  rw [h5] at hz
  simp only [h6] at hj
  clear h1 h2 hF h5 h6
  go_enter Try.func30, Try.ntmps30
  go_wp2_with fail
  refine (he _).mono ?_
  rintro e w1 ⟨rfl, hb⟩
  obtain ⟨k0, k1, k2, hE⟩ := ext3 hb
  obtain ⟨c0, f0⟩ := blk_rules k0
  obtain ⟨c1, f1⟩ := blk_rules k1
  have z0 := blk_lt k0
  have z1 := blk_lt k1
  clear hb he
  go_wp2_with fail
  clear z0 z1
  have hE2 := (Ext.refl w1).alloc (.cells #[.int .i64 0, .int .i64 0, .int .i64 W, .int .i64 H] 38)
  have ka := blk_new w1 (.cells #[.int .i64 0, .int .i64 0, .int .i64 W, .int .i64 H] 38)
  refine (hi _).mono ?_
  rintro e w2 ⟨rfl, hb⟩
  have hE3 := hE2.trans hb
  replace k0 := hE3.keep k0
  replace k1 := hE3.keep k1
  replace k2 := hE3.keep k2
  replace ka := hb.keep ka
  replace hE := hE.trans hE3
  clear c0 f0 c1 f1 hb hE2 hE3 hi
  obtain ⟨c1, f1⟩ := blk_rules k1
  have z1 := blk_lt k1
  go_wp2_with fail
  clear z1
  refine (hs _).mono ?_
  rintro e w3 ⟨rfl, hb⟩
  have hE4 := hb.alloc (.cells #[.int .i64 F.x, .int .i64 F.y, .int .i64 F.w, .int .i64 F.h] 38)
  have kf := blk_new w3 (.cells #[.int .i64 F.x, .int .i64 F.y, .int .i64 F.w, .int .i64 F.h] 38)
  replace k0 := hE4.keep k0
  replace k1 := hE4.keep k1
  replace k2 := hE4.keep k2
  replace ka := hE4.keep ka
  replace hE := hE.trans hE4
  clear c1 f1 hb hs hE4
  obtain ⟨c0, f0⟩ := blk_rules k0
  obtain ⟨ca, fa⟩ := blk_rules ka
  have z0 := blk_lt k0
  have za := blk_lt ka
  go_wp2_with fail
  clear z0 za
  refine (hj _).mono ?_
  rintro e w4 ⟨rfl, hb⟩
  replace k0 := hb.keep k0
  replace k1 := hb.keep k1
  replace k2 := hb.keep k2
  replace hE := hE.trans hb
  clear c0 f0 ca fa hb hj ka kf
  obtain ⟨c0, f0⟩ := blk_rules k0
  go_wp2_with fail
  refine (hO _ hE).mono ?_
  rintro e w5 ⟨B, dB, rfl, hown, hb⟩
  replace hown := World.ownsRow.base_le (base' := w.heap.size) hown hE.size
  replace k0 := hb.keep k0
  replace k1 := hb.keep k1
  replace k2 := hb.keep k2
  replace hE := hE.trans hb
  clear hb hO c0 f0
  go_wp2_with fail
  have ko := blk_new w5 (.cells #[.int .i64 W, .int .i64 H, .slice B xs.length dB] 24)
  replace k0 := blk_old k0 (.cells #[.int .i64 W, .int .i64 H, .slice B xs.length dB] 24)
  replace k1 := blk_old k1 (.cells #[.int .i64 W, .int .i64 H, .slice B xs.length dB] 24)
  replace k2 := blk_old k2 (.cells #[.int .i64 W, .int .i64 H, .slice B xs.length dB] 24)
  replace hown := World.ownsRow.alloc hown (.cells #[.int .i64 W, .int .i64 H, .slice B xs.length dB] 24)
  have hE1 := hE.size
  replace hE := hE.alloc (.cells #[.int .i64 W, .int .i64 H, .slice B xs.length dB] 24)
  obtain ⟨g, hg⟩ : ∃ g, w5.heap.size = g := ⟨_, rfl⟩
  rw [hg] at ko hE1 ⊢
  generalize w5.alloc (.cells #[.int .i64 W, .int .i64 H, .slice B xs.length dB] 24) = w6 at *
  clear hg
  go_loopw [10] (fun i wr => ∃ (k : Nat), k ≤ xs.length ∧ i = .int .i64 k ∧ Ext w wr ∧ wr.heap[w.heap.size]? = some (.cells #[.int .i64 W, .int .i64 H, .slice A xs.length d] 24 (0, 0)) ∧ wr.heap[w.heap.size + 1]? = some (.cells #[.int .i64 x, .int .i64 y, .int .i64 a, .int .i64 b, .int .i64 dx, .int .i64 dy] 40 (0, 0)) ∧ wr.heap[w.heap.size + 1 + 1]? = some (.cells #[.int .i64 0, .int .i64 0, .slice none 0 0] 24 (0, 0)) ∧ wr.heap[g]? = some (.cells #[.int .i64 W, .int .i64 H, .slice B xs.length dB] 24 (0, 0)) ∧ wr.ownsRow w.heap.size 35 1 (.slice B xs.length dB) xs.length (nums .u32 (upTo (copyPx W ⟨x, y, a, b⟩ dx dy xs) k ys))) (fun i _ => xs.length - (intOf i).toNat)
  case atStart => exact ⟨0, Nat.zero_le _, rfl, hE, k0, k1, k2, ko, by rw [upTo_zero]; exact hown⟩
  case round =>
    clear hE k0 k1 k2 ko hown
    obtain ⟨k, hk, rfl, hE, k0, k1, k2, ko, hown⟩ := hrel
    obtain ⟨co, fo⟩ := blk_rules ko
    by_cases hlt : k < xs.length
    · obtain ⟨hd1, hd2, hd3, hd4⟩ := div_bd (k := k) W1
      have hm1 := tmod_nat (k := k) (W := W)
      have hm2 := tdiv_nat (k := k) (W := W)
      have hdm := divmod (k := k) W1
      have hdl := div_lt W1 hlt HL.out
      obtain ⟨X, hX⟩ : ∃ X, (k : Int) % W = X := ⟨_, rfl⟩
      obtain ⟨Y, hY⟩ : ∃ Y, (k : Int) / W = Y := ⟨_, rfl⟩
      rw [hX] at hm1 hd1 hd2 hdm
      rw [hY] at hm2 hd3 hd4 hdm hdl
      have hne : (W == 0) = false := by simp; omega
      have hh := fun w => rhas_any x y a b X Y w
      obtain ⟨bb, hbb⟩ : ∃ bb, Rect.has ⟨x, y, a, b⟩ X Y = bb := ⟨_, rfl⟩
      simp only [hbb] at hh
      have hf : ∀ p, copyPx W ⟨x, y, a, b⟩ dx dy xs k p = if bb = true then xs.getD ((k : Int) - dx - dy * W).toNat 0 else p := fun p => by unfold copyPx; rw [hX, hY, hbb]
      clear hX hY
      have hf0 := hf (ys.getD k 0)
      have HB := Lib.hid hbb
      have HD := Lib.hid hdm
      clear hf hbb hdm
      have j0 := After.blk k0
      have j1 := After.blk k1
      cases bb
      · simp only [Bool.false_eq_true, if_false] at hf0
        have F0 := Lib.hid hf0
        clear hf0
        go_wp2_with fail
        refine wp_region_after (by kernel_rfl) (by kernel_rfl) ?_
        repeat (go_big_quiet_step (first | with_reducible exact Calls.after (hh _)))
        refine wpQuiet_nil ?_
        intro _ hw'
        obtain ⟨z, rfl⟩ := hw'
        clear j0 j1
        go_wp2_with fail
        exact ⟨⟨k + 1, by omega, by go_num, hE.trans z.ext, z.ext.keep k0, z.ext.keep k1, z.ext.keep k2, z.ext.keep ko, by rw [upTo_same _ _ _ (by omega) F0.out]; exact row_keep hown z.ext⟩, by simp [intOf]; omega⟩
      · simp only [if_true] at hf0
        have F0 := Lib.hid hf0
        clear hf0
        go_wp2_with fail
        refine wp_region_after (by kernel_rfl) (by kernel_rfl) ?_
        repeat (go_big_quiet_step (first | with_reducible exact Calls.after (hh _)))
        refine wpQuiet_nil ?_
        intro _ hw'
        obtain ⟨z, rfl⟩ := hw'
        clear j0 j1 hh co fo
        have HE := hE.trans z.ext
        replace k0 := z.ext.keep k0
        replace k1 := z.ext.keep k1
        replace k2 := z.ext.keep k2
        replace ko := z.ext.keep ko
        replace hown := row_keep hown z.ext
        clear hE
        generalize z.now = w7 at *
        obtain ⟨g', rfl, hgb⟩ := row_form hown (by omega)
        obtain ⟨s1, s2, s3, s4⟩ := HS.out X Y HB.out
        obtain ⟨q1, q2, q3⟩ := place_bd W1 W2 H1 H2 s1 s2 s3 s4
        obtain ⟨ab, ao, rfl, har⟩ := (hr.ext HE).form (by omega)
        have hdm := HD.out
        have hsub : (Y - dy) * W = Y * W - dy * W := Int.sub_mul _ _ _
        have hdb : -1073741824 ≤ dy * W ∧ dy * W ≤ 1073741824 := by
          constructor
          · have := Int.mul_le_mul_of_nonneg_right h4 (show (0 : Int) ≤ W by omega)
            omega
          · have := Int.mul_le_mul_of_nonneg_right h4' (show (0 : Int) ≤ W by omega)
            omega
        obtain ⟨dyW, hdyW⟩ : ∃ v, dy * W = v := ⟨_, rfl⟩
        rw [hdyW] at hdb hsub F0
        obtain ⟨P, hP⟩ : ∃ P : Nat, (k : Int) - dx - dyW = P := ⟨((k : Int) - dx - dyW).toNat, by omega⟩
        rw [hP, Int.toNat_natCast] at F0
        have hL := HL.out
        have q4 : P < xs.length := by omega
        have hcell := har P (by omega)
        obtain ⟨u, hu⟩ : ∃ u, xs.getD P 0 = u := ⟨_, rfl⟩
        rw [hu] at hcell F0
        obtain ⟨co, fo⟩ := blk_rules ko
        obtain ⟨c0, f0⟩ := blk_rules k0
        obtain ⟨c1, f1⟩ := blk_rules k1
        have hrc := World.ownsRow.cellAt hown k (by omega)
        rw [nums_get (by rw [upTo_length]; omega)] at hrc
        have hrf := fun j => World.ownsRow.frozenAt hown j
        have hst := World.ownsRow.stored (World.ownsRow.drew hown) k (.int .u32 u)
        have hset : (nums .u32 (upTo (copyPx W ⟨x, y, a, b⟩ dx dy xs) k ys)).set k (.int .u32 u) = nums .u32 (upTo (copyPx W ⟨x, y, a, b⟩ dx dy xs) (k + 1) ys) := by
          rw [← upTo_succ _ _ _ (by omega), F0.out]
          simp [nums, List.map_set]
        have Hs := Lib.hid (hset ▸ hst.1)
        have hneg : ∀ {b : Nat} {cs : Array Value} {t : TypeId} {fr : Nat × Nat}, w7.heap[b]? = some (.cells cs t fr) → t ≠ 35 → b ≠ g' := fun h1 h2 h3 => by
          obtain ⟨_, cur, hc⟩ := row_block hown (g := g') (by simp [Value.ownBlock])
          rw [← h3, h1] at hc; injection hc with hc; injection hc with _ hc _; exact h2 hc
        have q5 : P ≤ 65536 := by omega
        have v1 : IntKind.i64.wrap (k - dx) = (k : Int) - dx := IntWalk.i64_in _ (by omega)
        have v2 : IntKind.i64.wrap (dy * W) = dyW := by rw [hdyW]; exact IntWalk.i64_in _ (by omega)
        have v3 : IntKind.i64.wrap ((k : Int) - dx - dyW) = (P : Int) := by rw [hP]; exact IntWalk.i64_in _ (by omega)
        clear hst hset F0 hu har HB hL hP hsub hdm hdyW q3 HD
        go_wp2_with fail
        go_still_tail 18, (by kernel_rfl)
        change wpList _ _ _ _ _ w7.drew
        go_wp2_with fail
        exact ⟨⟨k + 1, by omega, by go_num, (HE.set (by simpa using hgb) _).drew, blk_set_ne k0 (hneg k0 (by decide)) _ _, blk_set_ne k1 (hneg k1 (by decide)) _ _, blk_set_ne k2 (hneg k2 (by decide)) _ _, blk_set_ne ko (hneg ko (by decide)) _ _, Hs.out⟩, by simp [intOf]; omega⟩
    · obtain rfl : k = xs.length := by omega
      rw [← hyl, upTo_all, hyl] at hown
      have HT := Lib.hid hown
      obtain ⟨c2, f2⟩ := blk_rules k2
      clear hown
      go_wp2_with fail
      refine bodyPost_ret (v := .tuple #[.agg #[.int .i64 W, .int .i64 H, .slice B xs.length dB], .int .i64 0]) (by simp only [results, Try.results30]; go_simp; done) rfl ⟨_, _, rfl, ?_, ?_⟩
      · exact row_set (row_set (row_set HT.out k2 (by decide) 0 (.int .i64 W)) (blk_set k2 0 (.int .i64 W)) (by decide) 1 (.int .i64 H)) (blk_set (blk_set k2 0 (.int .i64 W)) 1 (.int .i64 H)) (by decide) 2 (.slice B xs.length dB)
      · repeat' (first | exact hE | refine Ext.set ?_ ?_ _)
        all_goals (simp; omega)
end Go.Proofs.Ytilcggkbancniaa
set_option linter.unusedVariables false
set_option linter.unusedSimpArgs false
namespace Go.Proofs.Ytilcggkbancniaa
open Go.RowKit

set_option maxHeartbeats 4000000 in
theorem rpart_bad (W H : Int) (A : Option Addr) (d n : Nat) (x y a b : Int) (w : World) (h : Rect.empty ⟨x, y, a, b⟩ = true ∨ Rect.empty ⟨x, y, a, b⟩ = false ∧ Rect.within ⟨x, y, a, b⟩ ⟨0, 0, W, H⟩ = false) :
    Calls Try.prog 32 #[.agg #[.int .i64 W, .int .i64 H, .slice A n d], .agg #[.int .i64 x, .int .i64 y, .int .i64 a, .int .i64 b]] w fun e w' => e = .returned (.tuple #[.agg #[.int .i64 0, .int .i64 0, .slice none 0 0], .int .i64 5]) ∧ Ext w w' := by
  have he := fun w => rempty_any x y a b w
  have hi := fun w => rin_any x y a b 0 0 W H w
  rcases h with h1 | ⟨h1, h2⟩
  all_goals simp only [h1] at he
  all_goals try simp only [h2] at hi
  all_goals
    go_enter Try.func32, Try.ntmps32
    go_wp2_with fail
    refine (he _).mono ?_
    rintro e w1 ⟨rfl, hb⟩
    obtain ⟨k0, k1, k2, hE⟩ := ext3 hb
    obtain ⟨c0, f0⟩ := blk_rules k0
    obtain ⟨c1, f1⟩ := blk_rules k1
    obtain ⟨c2, f2⟩ := blk_rules k2
    clear hb he
    go_wp2_with fail
    first
      | skip
        refine (hi _).mono ?_
        rintro e w2 ⟨rfl, hb⟩
        replace k2 := hb.keep k2
        replace hE := hE.trans hb
        clear c0 f0 c1 f1 c2 f2 hi hb
        obtain ⟨c2, f2⟩ := blk_rules k2
        go_wp2_with fail
      | skip
    refine bodyPost_ret (v := .tuple #[.agg #[.int .i64 0, .int .i64 0, .slice none 0 0], .int .i64 5]) (by simp only [results, Try.results32]; go_simp; done) rfl ⟨rfl, ?_⟩
    repeat' (first | exact hE | refine Ext.set ?_ ?_ _)
    all_goals (simp; omega)

theorem shows_cut {w : World} {ab ao lo m : Nat} {xs : List Int} (h : ∀ i, i < xs.length → w.cell? ⟨ab, ao + i, none⟩ = some (.int .u32 (xs.getD i 0))) (hf : lo + m ≤ xs.length) : Shows w (some ⟨ab, ao + lo, none⟩) (nums .u32 ((xs.drop lo).take m)) := by
  intro _
  refine ⟨_, rfl, fun j u hu => ?_⟩
  have hl : ((xs.drop lo).take m).length = m := by simp; omega
  have hj : j < m := by
    rcases Nat.lt_or_ge j m with h1 | h1
    · exact h1
    · rw [List.getElem?_eq_none (by rw [nums_length, hl]; exact h1)] at hu; cases hu
  rw [nums_get (by rw [hl]; exact hj)] at hu
  injection hu with hu
  rw [add_plain, Nat.add_assoc, h (lo + j) (by omega), ← hu]
  simp [List.getD_eq_getElem?_getD, List.getElem?_take, hj, List.getElem?_drop]

set_option maxRecDepth 100000 in
set_option maxHeartbeats 8000000 in
theorem rpart_good (W H : Int) (A : Option Addr) (d : Nat) (xs : List Int) (x y a b : Int) (w : World) (hr : Reads .u32 w A xs) (hd : xs.length ≤ d) (hd2 : d ≤ 9223372036854775807) (hp : isPic W H xs.length = true) (h1 : Rect.empty ⟨x, y, a, b⟩ = false) (h2 : Rect.within ⟨x, y, a, b⟩ ⟨0, 0, W, H⟩ = true) :
    Calls Try.prog 32 #[.agg #[.int .i64 W, .int .i64 H, .slice A xs.length d], .agg #[.int .i64 x, .int .i64 y, .int .i64 a, .int .i64 b]] w fun e w' => ∃ B d', e = .returned (.tuple #[.agg #[.int .i64 a, .int .i64 b, .slice B (partRows W ⟨x, y, a, b⟩ (List.range b.toNat) xs).length d'], .int .i64 0]) ∧ Own .u32 35 w' w.heap.size (.slice B (partRows W ⟨x, y, a, b⟩ (List.range b.toNat) xs).length d') (partRows W ⟨x, y, a, b⟩ (List.range b.toNat) xs) ∧ Ext w w' := by
  have hp' : 1 ≤ W ∧ W ≤ 256 ∧ 1 ≤ H ∧ H ≤ 256 ∧ (xs.length : Int) = W * H := by simpa [isPic, and_assoc] using hp
  obtain ⟨W1, W2, H1, H2, hlen⟩ := hp'
  obtain ⟨m1, m2⟩ := mul_bd W1 W2 H1 H2
  have hn : xs.length ≤ 65536 := by omega
  obtain ⟨r1, r2, r3, r4, r5, r6⟩ := Rect.inside h1 h2 W1 W2 H1 H2
  dsimp only at r1 r2 r3 r4 r5 r6
  obtain ⟨N, rfl⟩ : ∃ N : Nat, (N : Int) = b := ⟨b.toNat, by omega⟩
  obtain ⟨aN, rfl⟩ : ∃ aN : Nat, (aN : Int) = a := ⟨a.toNat, by omega⟩
  rw [Int.toNat_natCast]
  have hfits : ∀ i, i < N → rowAt W ⟨x, y, aN, N⟩ i + aN ≤ xs.length := fun i hi => by
    have := rowAt_fits (R := ⟨x, y, aN, N⟩) W1 W2 H1 H2 hlen r1 r2 r3 r4 r6 (i := i) (by dsimp only; omega)
    simpa using this
  have hrow : ∀ i : Nat, i < N → (y + i) * W + x = (rowAt W ⟨x, y, aN, N⟩ i : Nat) ∧ 0 ≤ (y + i) * W ∧ (y + i) * W ≤ 65536 := fun i hi => by
    obtain ⟨q1, q2, q3⟩ := place_bd W1 W2 H1 H2 (x := x) (y := y + i) (by omega) (by omega) (by omega) (by omega)
    unfold rowAt
    dsimp only
    omega
  have HF := Lib.hid hfits
  have HR := Lib.hid hrow
  obtain ⟨PR, hPR⟩ : ∃ PR : Nat → List Int, (fun n => partRows W ⟨x, y, aN, N⟩ (List.range n) xs) = PR := ⟨_, rfl⟩
  have hPR0 : PR 0 = [] := by rw [← hPR]; rfl
  have hPRN : partRows W ⟨x, y, aN, N⟩ (List.range N) xs = PR N := by rw [← hPR]
  have hPRs : ∀ i, i < N → PR (i + 1) = PR i ++ (xs.drop (rowAt W ⟨x, y, aN, N⟩ i)).take aN := fun i hi => by
    rw [← hPR]
    dsimp only
    rw [List.range_succ, partRows_snoc]
    simp
  have hPRl : ∀ i, i ≤ N → (PR i).length = i * aN := fun i hi => by
    rw [← hPR]
    dsimp only
    rw [partRows_length (fun j hj => by have := hfits j (by have := List.mem_range.1 hj; omega); simpa using this), List.length_range]
    simp
  rw [hPRN]
  have HP := Lib.hid hPRs
  have HL := Lib.hid hPRl
  have H0 := Lib.hid hPR0
  clear hfits hrow hPR hPR0 hPRN hPRs hPRl hp hlen m1 m2
  have he := fun w => rempty_any x y aN N w
  simp only [h1] at he
  have hi := fun w => rin_any x y aN N 0 0 W H w
  simp only [h2] at hi
  clear h1 h2
  go_enter Try.func32, Try.ntmps32
  go_wp2_with fail
  refine (he _).mono ?_
  rintro e w1 ⟨rfl, hb⟩
  obtain ⟨k0, k1, k2, hE⟩ := ext3 hb
  obtain ⟨c0, f0⟩ := blk_rules k0
  obtain ⟨c1, f1⟩ := blk_rules k1
  clear hb he
  go_wp2_with fail
  refine (hi _).mono ?_
  rintro e w2 ⟨rfl, hb⟩
  replace k0 := hb.keep k0
  replace k1 := hb.keep k1
  replace k2 := hb.keep k2
  replace hE := hE.trans hb
  clear c0 f0 c1 f1 hi hb
  obtain ⟨c1, f1⟩ := blk_rules k1
  have z1 := blk_lt k1
  go_wp2_with fail
  clear z1 c1 f1
  have hg2 := blk_lt k2
  have ko := blk_new w2 (.cells #[.int .i64 aN, .int .i64 N, .slice none 0 0] 24)
  replace k0 := blk_old k0 (.cells #[.int .i64 aN, .int .i64 N, .slice none 0 0] 24)
  replace k1 := blk_old k1 (.cells #[.int .i64 aN, .int .i64 N, .slice none 0 0] 24)
  replace k2 := blk_old k2 (.cells #[.int .i64 aN, .int .i64 N, .slice none 0 0] 24)
  have hE1 := hE.size
  replace hE := hE.alloc (.cells #[.int .i64 aN, .int .i64 N, .slice none 0 0] 24)
  obtain ⟨g, hg⟩ : ∃ g, w2.heap.size = g := ⟨_, rfl⟩
  rw [hg] at ko hE1 hg2 ⊢
  generalize w2.alloc (.cells #[.int .i64 aN, .int .i64 N, .slice none 0 0] 24) = w3 at *
  clear hg
  go_loopw [7] (fun iv wr => ∃ (i : Nat) (B : Option Addr) (dB : Nat), i ≤ N ∧ iv = .int .i64 (y + i) ∧ Ext w wr ∧ wr.heap[w.heap.size]? = some (.cells #[.int .i64 W, .int .i64 H, .slice A xs.length d] 24 (0, 0)) ∧ wr.heap[w.heap.size + 1]? = some (.cells #[.int .i64 x, .int .i64 y, .int .i64 aN, .int .i64 N] 38 (0, 0)) ∧ wr.heap[w.heap.size + 1 + 1]? = some (.cells #[.int .i64 0, .int .i64 0, .slice none 0 0] 24 (0, 0)) ∧ wr.heap[g]? = some (.cells #[.int .i64 aN, .int .i64 N, .slice B (PR i).length dB] 24 (0, 0)) ∧ Own .u32 35 wr w.heap.size (.slice B (PR i).length dB) (PR i)) (fun iv _ => (y + N - intOf iv).toNat)
  case atStart => exact ⟨0, none, 0, Nat.zero_le _, by simp, hE, k0, k1, k2, by rw [H0.out]; exact ko, by rw [H0.out]; exact World.ownsRow_nil _ _ _ _⟩
  case round =>
    clear hE k0 k1 k2 ko
    obtain ⟨i, B, dB, hk, rfl, hE, k0, k1, k2, ko, hown⟩ := hrel
    obtain ⟨c1, f1⟩ := blk_rules k1
    obtain ⟨co, fo⟩ := blk_rules ko
    by_cases hlt : i < N
    · obtain ⟨e1, e2, e3⟩ := HR.out i hlt
      have e4 := HF.out i hlt
      have hl1 : (PR i).length ≤ 65536 := by
        rw [HL.out i hk]
        have h1 : i * aN ≤ 256 * aN := Nat.mul_le_mul_right _ (by omega)
        have h2 : 256 * aN ≤ 256 * 256 := Nat.mul_le_mul_left _ (by omega)
        omega
      obtain ⟨lo, hlo⟩ : ∃ lo, rowAt W ⟨x, y, aN, N⟩ i = lo := ⟨_, rfl⟩
      have hP := HP.out i hlt
      rw [hlo] at e1 e4 hP
      clear hlo
      obtain ⟨ab, ao, rfl, har⟩ := (hr.ext hE).form (by omega)
      obtain ⟨c0, f0⟩ := blk_rules k0
      obtain ⟨YW, hYW⟩ : ∃ YW, (y + (i : Int)) * W = YW := ⟨_, rfl⟩
      rw [hYW] at e1 e2 e3
      have v1 : IntKind.i64.wrap ((y + (i : Int)) * W) = YW := by rw [hYW]; exact IntWalk.i64_in _ (by omega)
      have v2 : IntKind.i64.wrap (YW + x) = (lo : Int) := by rw [e1]; exact IntWalk.i64_in _ (by omega)
      have v3 : IntKind.i64.wrap ((lo : Int) + aN) = (lo : Int) + aN := IntWalk.i64_in _ (by omega)
      have hsh := shows_cut (lo := lo) (m := aN) har (by omega)
      have hPl : ((xs.drop lo).take aN).length = aN := by simp; omega
      have hdl : ¬ (d = lo) := by omega
      have t1 : (lo : Int) ≤ (lo : Int) + aN := by omega
      have t2 : (lo : Int) + aN ≤ d := by omega
      have t3 : ((lo : Int) + aN).toNat = lo + aN := by omega
      clear hYW e1
      go_wp2_with fail
      go_still_tail 22, (by kernel_rfl)
      change wpList _ _ _ _ _ wr.drew
      have hown0 : wr.drew.ownsRow w.heap.size 35 1 (.slice B (PR i).length dB) (PR i).length (nums .u32 (PR i)) := World.ownsRow.drew hown
      have hE0 : Ext w wr.drew := hE.drew
      refine wpList_app w.heap.size rfl (.tmp 38) (.tmp 58) 22 35 (.int .u32 0) 1 4 rfl Try.underlying22 info_u32 rfl (by decide) (by decide) (.slice B (PR i).length dB) (PR i).length (nums .u32 (PR i)) rfl hown0 (some ⟨ab, ao + lo, none⟩) aN (d - lo) (nums .u32 ((xs.drop lo).take aN)) rfl (fun h => by cases h) (by rw [nums_length, hPl]; simp) hsh nums_one (by omega) hE0.size (fun v' w' hown' hg => ?_)
      obtain ⟨B', d', rfl⟩ := row_slice hown'
      have hl2 : (PR i).length + aN = (PR (i + 1)).length := by rw [hP, List.length_append, hPl]
      have hn2 : nums .u32 (PR i) ++ nums .u32 ((xs.drop lo).take aN) = nums .u32 (PR (i + 1)) := by rw [hP]; simp [nums]
      rw [hl2, hn2] at hown'
      rw [hl2]
      have k0' := row_far hown0 hg (show wr.drew.heap[_]? = _ from k0) (by decide)
      have k1' := row_far hown0 hg (show wr.drew.heap[_]? = _ from k1) (by decide)
      have k2' := row_far hown0 hg (show wr.drew.heap[_]? = _ from k2) (by decide)
      have ko' := row_far hown0 hg (show wr.drew.heap[_]? = _ from ko) (by decide)
      have hE' := row_ext hown0 hE0 hg
      clear c0 f0 c1 f1 co fo k0 k1 k2 ko hE hE0 hown hown0 hg hl2 hn2 hP hPl hsh
      obtain ⟨co, fo⟩ := blk_rules ko'
      have hgl : w.heap.size + 1 + 1 ≠ g := by omega
      go_wp2_with fail
      have v4 : IntKind.i64.wrap (y + (i : Int) + 1) = y + ((i + 1 : Nat) : Int) := by rw [IntWalk.i64_in _ (by omega)]; omega
      go_roundw
      case rel =>
        exact ⟨i + 1, B', d', by omega, by go_num, hE'.set (by simpa using hE1) _, blk_set_ne k0' (by omega) _ _, blk_set_ne k1' (by omega) _ _, blk_set_ne k2' hgl _ _, blk_set ko' 2 _, row_set hown' ko' (by decide) 2 _⟩
      case measure => simp [intOf]; omega
    · obtain rfl : i = N := by omega
      have HT := Lib.hid hown
      obtain ⟨c2, f2⟩ := blk_rules k2
      clear hown
      go_wp2_with fail
      refine bodyPost_ret (v := .tuple #[.agg #[.int .i64 aN, .int .i64 i, .slice B (PR i).length dB], .int .i64 0]) (by simp only [results, Try.results32]; go_simp; done) rfl ⟨_, _, rfl, ?_, ?_⟩
      · exact row_set (row_set (row_set HT.out k2 (by decide) 0 (.int .i64 aN)) (blk_set k2 0 (.int .i64 aN)) (by decide) 1 (.int .i64 i)) (blk_set (blk_set k2 0 (.int .i64 aN)) 1 (.int .i64 i)) (by decide) 2 (.slice B (PR i).length dB)
      · repeat' (first | exact hE | refine Ext.set ?_ ?_ _)
        all_goals (simp; omega)
end Go.Proofs.Ytilcggkbancniaa
