/- The walks of package vignetteref03: Blit. -/
import Derived.Test.YtilcggkbancniaaRefD
import Derived.StillTail
import Derived.StillTailTactics
set_option linter.unusedVariables false
set_option linter.unusedSimpArgs false
namespace Go.Proofs.Ytilcggkbancniaa
open Go.RowKit

/-- Does the reference's Blit look at a pixel at all? -/
def blitNear (x y X Y : Int) : Bool := decide (x ≤ X) && (decide (y ≤ Y) && (decide (-4194304 ≤ x) && decide (-4194304 ≤ y)))
theorem blitNear_far {x y X Y : Int} (h : ¬ (x ≤ X ∧ y ≤ Y ∧ -4194304 ≤ x ∧ -4194304 ≤ y)) : blitNear x y X Y = false := by
  cases hh : blitNear x y X Y
  · rfl
  · simp [blitNear] at hh; omega
/-- What the reference's Blit makes of a pixel. -/
def blitPx (W x y W' H' : Int) (zs : List Int) (clip : Rect) (i : Nat) (p : Int) : Int :=
  if (blitNear x y ((i : Int) % W) ((i : Int) / W) && (Rect.has clip ((i : Int) % W) ((i : Int) / W) && picHas W' H' ((i : Int) % W - x) ((i : Int) / W - y))) = true then cut24 (zs.getD (((i : Int) / W - y) * W' + ((i : Int) % W - x)).toNat 0) else p

set_option maxHeartbeats 4000000 in
theorem rblit_bad (W H : Int) (A : Option Addr) (d : Nat) (xs : List Int) (x y W' H' : Int) (Z : Option Addr) (dz nz : Nat) (clip : Rect) (w : World) (hr : Reads .u32 w A xs) (hx : ∀ x ∈ xs, 0 ≤ x ∧ x ≤ 4294967295) (hn : xs.length ≤ 65536) (hp : isPic W' H' nz = false) :
    Calls Try.prog 28 #[.agg #[.int .i64 W, .int .i64 H, .slice A xs.length d], .int .i64 x, .int .i64 y, .agg #[.int .i64 W', .int .i64 H', .slice Z nz dz], .agg #[.int .i64 clip.x, .int .i64 clip.y, .int .i64 clip.w, .int .i64 clip.h]] w fun e w' => ∃ B d', e = .returned (.agg #[.int .i64 W, .int .i64 H, .slice B xs.length d']) ∧ w'.ownsRow w.heap.size 35 1 (.slice B xs.length d') xs.length (nums .u32 (xs.map cut24)) ∧ Ext w w' := by
  have hO := fun (w' : World) (h : Ext w w') => rown_any W H A d xs w' (hr.ext h) hx hn
  have hI := fun w => ris_any W' H' Z dz nz w
  simp only [hp] at hI
  obtain ⟨ys, hys⟩ : ∃ ys, xs.map cut24 = ys := ⟨_, rfl⟩
  have hyl : ys.length = xs.length := by rw [← hys, List.length_map]
  rw [hys] at hO ⊢
  clear hys hr
  go_enter Try.func28, Try.ntmps28
  go_wp2_with fail
  refine (hO _ (((((Ext.refl w).alloc _).alloc _).alloc _).alloc _)).mono ?_
  rintro e w1 ⟨B, dB, rfl, hown, hb⟩
  have hsz := hb.size
  obtain ⟨k0, k1, k2, k3, hE⟩ := ext4 hb
  replace hown := World.ownsRow.base_le (base' := w.heap.size) hown (by simp; omega)
  clear hb hsz hO
  obtain ⟨c1, f1⟩ := blk_rules k1
  have z1 := blk_lt k1
  have z3 := blk_lt k3
  go_wp2_with fail
  refine (hI _).mono ?_
  rintro e w2 ⟨rfl, hb⟩
  obtain ⟨ko, hE'⟩ := ext1 hb
  replace k3 := hE'.keep k3
  replace hown := row_keep hown hE'
  replace hE := hE.trans hE'
  clear c1 f1 k0 k1 k2
  obtain ⟨co, fo⟩ := blk_rules ko
  obtain ⟨c3, f3⟩ := blk_rules k3
  have HT := Lib.hid hown
  clear hown
  go_wp2_with fail
  refine bodyPost_ret (v := .agg #[.int .i64 W, .int .i64 H, .slice B xs.length dB]) (by simp only [results, Try.results28]; go_simp; done) rfl ⟨_, _, rfl, ?_, ?_⟩
  · exact row_set (row_set (row_set HT.out k3 (by decide) 0 (.int .i64 W)) (blk_set k3 0 (.int .i64 W)) (by decide) 1 (.int .i64 H)) (blk_set (blk_set k3 0 (.int .i64 W)) 1 (.int .i64 H)) (by decide) 2 (.slice B xs.length dB)
  · repeat' (first | exact hE | refine Ext.set ?_ ?_ _)
    all_goals (simp; omega)

set_option maxRecDepth 100000 in
set_option maxHeartbeats 4000000 in
theorem rblit_good (W H : Int) (A : Option Addr) (d : Nat) (xs : List Int) (x y W' H' : Int) (Z : Option Addr) (dz : Nat) (zs : List Int) (clip : Rect) (w : World) (hr : Reads .u32 w A xs) (hx : ∀ x ∈ xs, 0 ≤ x ∧ x ≤ 4294967295) (hn : xs.length ≤ 65536) (hW : 1 ≤ W) (hW2 : W ≤ 256) (hp : isPic W' H' zs.length = true) (hz : Reads .u32 w Z zs) (hzx : ∀ x ∈ zs, 0 ≤ x ∧ x ≤ 4294967295) :
    Calls Try.prog 28 #[.agg #[.int .i64 W, .int .i64 H, .slice A xs.length d], .int .i64 x, .int .i64 y, .agg #[.int .i64 W', .int .i64 H', .slice Z zs.length dz], .agg #[.int .i64 clip.x, .int .i64 clip.y, .int .i64 clip.w, .int .i64 clip.h]] w fun e w' => ∃ B d', e = .returned (.agg #[.int .i64 W, .int .i64 H, .slice B xs.length d']) ∧ w'.ownsRow w.heap.size 35 1 (.slice B xs.length d') xs.length (nums .u32 (mapAt (blitPx W x y W' H' zs clip) (xs.map cut24))) ∧ Ext w w' := by
  have hO := fun (w' : World) (h : Ext w w') => rown_any W H A d xs w' (hr.ext h) hx hn
  have hI := fun w => ris_any W' H' Z dz zs.length w
  simp only [hp] at hI
  obtain ⟨ys, hys⟩ : ∃ ys, xs.map cut24 = ys := ⟨_, rfl⟩
  have hyl : ys.length = xs.length := by rw [← hys, List.length_map]
  rw [hys] at hO ⊢
  clear hys hr
  go_enter Try.func28, Try.ntmps28
  go_wp2_with fail
  refine (hO _ (((((Ext.refl w).alloc _).alloc _).alloc _).alloc _)).mono ?_
  rintro e w1 ⟨B, dB, rfl, hown, hb⟩
  have hsz := hb.size
  obtain ⟨k0, k1, k2, k3, hE⟩ := ext4 hb
  replace hown := World.ownsRow.base_le (base' := w.heap.size) hown (by simp; omega)
  clear hb hsz hO
  obtain ⟨c1, f1⟩ := blk_rules k1
  have z1 := blk_lt k1
  go_wp2_with fail
  refine (hI _).mono ?_
  rintro e w2 ⟨rfl, hb⟩
  obtain ⟨ko, hE'⟩ := ext1 hb
  have hE1 := hE.size
  replace k0 := hE'.keep k0
  replace k1 := hE'.keep k1
  replace k2 := hE'.keep k2
  replace k3 := hE'.keep k3
  replace hown := row_keep hown hE'
  replace hE := hE.trans hE'
  obtain ⟨g, hg⟩ : ∃ g, w1.heap.size = g := ⟨_, rfl⟩
  rw [hg] at ko hE1
  clear c1 f1 hb hE'
  go_wp2_with fail
  clear hg z1
  have hp' : 1 ≤ W' ∧ W' ≤ 256 ∧ 1 ≤ H' ∧ H' ≤ 256 ∧ (zs.length : Int) = W' * H' := by simpa [isPic, and_assoc] using hp
  have HP := Lib.hid hp'
  clear hp' hI hp
  go_loopw [12, 13, 14] (fun i _ _ wr => ∃ (k : Nat), k ≤ xs.length ∧ i = .int .i64 k ∧ Ext w wr ∧ wr.heap[w.heap.size]? = some (.cells #[.int .i64 W, .int .i64 H, .slice A xs.length d] 24 (0, 0)) ∧ wr.heap[w.heap.size + 1]? = some (.cells #[.int .i64 W', .int .i64 H', .slice Z zs.length dz] 24 (0, 0)) ∧ wr.heap[w.heap.size + 1 + 1]? = some (.cells #[.int .i64 clip.x, .int .i64 clip.y, .int .i64 clip.w, .int .i64 clip.h] 38 (0, 0)) ∧ wr.heap[w.heap.size + 1 + 1 + 1]? = some (.cells #[.int .i64 0, .int .i64 0, .slice none 0 0] 24 (0, 0)) ∧ wr.heap[g]? = some (.cells #[.int .i64 W, .int .i64 H, .slice B xs.length dB] 24 (0, 0)) ∧ wr.ownsRow w.heap.size 35 1 (.slice B xs.length dB) xs.length (nums .u32 (upTo (blitPx W x y W' H' zs clip) k ys))) (fun i _ _ _ => xs.length - (intOf i).toNat)
  case atStart => exact ⟨0, Nat.zero_le _, rfl, hE, k0, k1, k2, k3, ko, by rw [upTo_zero]; exact hown⟩
  case round =>
    clear hE k0 k1 k2 k3 ko hown
    obtain ⟨k, hk, rfl, hE, k0, k1, k2, k3, ko, hown⟩ := hrel
    obtain ⟨co, fo⟩ := blk_rules ko
    obtain ⟨c0, f0⟩ := blk_rules k0
    by_cases hlt : k < xs.length
    · obtain ⟨hd1, hd2, hd3, hd4⟩ := div_bd (k := k) hW
      have hm1 := tmod_nat (k := k) (W := W)
      have hm2 := tdiv_nat (k := k) (W := W)
      obtain ⟨X, hX⟩ : ∃ X, (k : Int) % W = X := ⟨_, rfl⟩
      obtain ⟨Y, hY⟩ : ∃ Y, (k : Int) / W = Y := ⟨_, rfl⟩
      rw [hX] at hm1 hd1 hd2
      rw [hY] at hm2 hd3 hd4
      have hne : (W == 0) = false := by simp; omega
      have hf : ∀ p, blitPx W x y W' H' zs clip k p = if (blitNear x y X Y && (Rect.has clip X Y && picHas W' H' (X - x) (Y - y))) = true then cut24 (zs.getD ((Y - y) * W' + (X - x)).toNat 0) else p := fun p => by unfold blitPx; rw [hX, hY]
      clear hX hY
      have hf0 := hf (ys.getD k 0)
      clear hf
      by_cases hnear : x ≤ X ∧ y ≤ Y ∧ -4194304 ≤ x ∧ -4194304 ≤ y
      · obtain ⟨n1, n2, n3, n4⟩ := hnear
        rw [show blitNear x y X Y = true by simp [blitNear]; omega, Bool.true_and] at hf0
        have hh := fun w => rhas_any clip.x clip.y clip.w clip.h X Y w
        simp only [show Rect.mk clip.x clip.y clip.w clip.h = clip from rfl] at hh
        obtain ⟨bb, hbb⟩ : ∃ bb, Rect.has clip X Y = bb := ⟨_, rfl⟩
        simp only [hbb] at hh
        rw [hbb] at hf0
        clear hbb
        go_wp2_with fail
        go_quiet (fail)
        replace hE := hE.drewN nq
        replace k0 : (wr.drewN nq).heap[w.heap.size]? = _ := k0
        replace k1 : (wr.drewN nq).heap[w.heap.size + 1]? = _ := k1
        replace k2 : (wr.drewN nq).heap[w.heap.size + 1 + 1]? = _ := k2
        replace k3 : (wr.drewN nq).heap[w.heap.size + 1 + 1 + 1]? = _ := k3
        replace ko : (wr.drewN nq).heap[g]? = _ := ko
        replace hown : (wr.drewN nq).ownsRow _ _ _ _ _ _ := hown
        clear co fo c0 f0
        generalize wr.drewN nq = w3 at *
        have j0 := After.blk k0
        have j1 := After.blk k1
        have j2 := After.blk k2
        cases bb
        · simp only [Bool.false_and, Bool.false_eq_true, if_false] at hf0
          have F0 := Lib.hid hf0
          clear hf0
          go_wp2_with fail
          refine wp_region_after (by kernel_rfl) (by kernel_rfl) ?_
          repeat (go_big_quiet_step (first | with_reducible exact Calls.after (hh _)))
          refine wpQuiet_nil ?_
          intro _ hw'
          obtain ⟨z, rfl⟩ := hw'
          clear j0 j1 j2
          go_wp2_with fail
          exact ⟨⟨k + 1, by omega, by go_num, hE.trans z.ext, z.ext.keep k0, z.ext.keep k1, z.ext.keep k2, z.ext.keep k3, z.ext.keep ko, by rw [upTo_same _ _ _ (by omega) F0.out]; exact row_keep hown z.ext⟩, by simp [intOf]; omega⟩
        · have hq := fun w => rphas_any W' H' Z dz zs.length (X - x) (Y - y) w
          obtain ⟨b2, hb2⟩ : ∃ b2, picHas W' H' (X - x) (Y - y) = b2 := ⟨_, rfl⟩
          simp only [hb2] at hq
          rw [hb2, Bool.true_and] at hf0
          cases b2
          · simp only [Bool.false_eq_true, if_false] at hf0
            have F0 := Lib.hid hf0
            clear hf0 hb2
            go_wp2_with fail
            refine wp_region_after (by kernel_rfl) (by kernel_rfl) ?_
            repeat (go_big_quiet_step (first | with_reducible exact Calls.after (hh _) | with_reducible exact Calls.after (hq _)))
            refine wpQuiet_nil ?_
            intro _ hw'
            obtain ⟨z, rfl⟩ := hw'
            clear j0 j1 j2
            go_wp2_with fail
            exact ⟨⟨k + 1, by omega, by go_num, hE.trans z.ext, z.ext.keep k0, z.ext.keep k1, z.ext.keep k2, z.ext.keep k3, z.ext.keep ko, by rw [upTo_same _ _ _ (by omega) F0.out]; exact row_keep hown z.ext⟩, by simp [intOf]; omega⟩
          · simp only [if_true] at hf0
            have F0 := Lib.hid hf0
            have HB := Lib.hid hb2
            clear hf0 hb2
            go_wp2_with fail
            refine wp_region_after (by kernel_rfl) (by kernel_rfl) ?_
            repeat (go_big_quiet_step (first | with_reducible exact Calls.after (hh _) | with_reducible exact Calls.after (hq _)))
            refine wpQuiet_nil ?_
            intro _ hw'
            obtain ⟨z, rfl⟩ := hw'
            clear j0 j1 j2 hh hq
            have HE := hE.trans z.ext
            replace k0 := z.ext.keep k0
            replace k1 := z.ext.keep k1
            replace k2 := z.ext.keep k2
            replace k3 := z.ext.keep k3
            replace ko := z.ext.keep ko
            replace hown := row_keep hown z.ext
            clear hE
            generalize z.now = w4 at *
            obtain ⟨g', rfl, hgb⟩ := row_form hown (by omega)
            have hpix : 0 ≤ X - x ∧ X - x < W' ∧ 0 ≤ Y - y ∧ Y - y < H' := by
              have := HB.out
              simpa [picHas, and_assoc] using this
            obtain ⟨p1, p2, p3, p4, p5⟩ := HP.out
            obtain ⟨q1, q2, q3⟩ := place_bd p1 p2 p3 p4 hpix.1 hpix.2.1 hpix.2.2.1 hpix.2.2.2
            obtain ⟨zb, zo, rfl, hzr⟩ := (hz.ext HE).form (by omega)
            obtain ⟨P, hP⟩ : ∃ P : Nat, (Y - y) * W' + (X - x) = P := ⟨((Y - y) * W' + (X - x)).toNat, by omega⟩
            rw [hP] at F0 q3
            rw [Int.toNat_natCast] at F0
            have hzc := hzr P (by omega)
            obtain ⟨u, hu⟩ : ∃ u, zs.getD P 0 = u := ⟨_, rfl⟩
            have hub : 0 ≤ u ∧ u ≤ 4294967295 := by
              rw [← hu, List.getD_eq_getElem?_getD, List.getElem?_eq_getElem (by omega), Option.getD_some]
              exact hzx _ (List.getElem_mem _)
            rw [hu] at hzc F0
            have hcu : u.tmod 16777216 = cut24 u := by unfold cut24; rw [Int.tmod_eq_emod_of_nonneg hub.1]
            obtain ⟨co, fo⟩ := blk_rules ko
            obtain ⟨c1, f1⟩ := blk_rules k1
            have hrc := World.ownsRow.cellAt hown k (by omega)
            rw [nums_get (by rw [upTo_length]; omega)] at hrc
            have hrf := fun j => World.ownsRow.frozenAt hown j
            have hs := World.ownsRow.stored (World.ownsRow.drew hown) k (.int .u32 (cut24 u))
            have hset : (nums .u32 (upTo (blitPx W x y W' H' zs clip) k ys)).set k (.int .u32 (cut24 u)) = nums .u32 (upTo (blitPx W x y W' H' zs clip) (k + 1) ys) := by
              rw [← upTo_succ _ _ _ (by omega), F0.out]
              simp [nums, List.map_set]
            have Hs := Lib.hid (hset ▸ hs.1)
            have hneg : ∀ {b : Nat} {cs : Array Value} {t : TypeId} {fr : Nat × Nat}, w4.heap[b]? = some (.cells cs t fr) → t ≠ 35 → b ≠ g' := fun h1 h2 h3 => by
              obtain ⟨_, cur, hc⟩ := row_block hown (g := g') (by simp [Value.ownBlock])
              rw [← h3, h1] at hc; injection hc with hc; injection hc with _ hc _; exact h2 hc
            have q4 : P < zs.length := by omega
            have q5 : P ≤ 65536 := by have := (mul_bd p1 p2 p3 p4).2; omega
            have v1 : IntKind.i64.wrap ((Y - y) * W') = (Y - y) * W' := IntWalk.i64_in _ (by omega)
            have v2 : IntKind.i64.wrap ((Y - y) * W' + (X - x)) = (P : Int) := by rw [hP]; exact IntWalk.i64_in _ (by omega)
            clear hs hset F0 hu hub hzr HB p5 q3 hz hP
            go_wp2_with fail
            go_still_tail 15, (by kernel_rfl)
            change wpList _ _ _ _ _ w4.drew
            go_wp2_with fail
            exact ⟨⟨k + 1, by omega, by go_num, (HE.set (by simpa using hgb) _).drew, blk_set_ne k0 (hneg k0 (by decide)) _ _, blk_set_ne k1 (hneg k1 (by decide)) _ _, blk_set_ne k2 (hneg k2 (by decide)) _ _, blk_set_ne k3 (hneg k3 (by decide)) _ _, blk_set_ne ko (hneg ko (by decide)) _ _, Hs.out⟩, by simp [intOf]; omega⟩
      · have hnn : blitNear x y X Y = false := blitNear_far hnear
        simp only [hnn, Bool.false_and, Bool.false_eq_true, if_false] at hf0
        have F0 := Lib.hid hf0
        clear hf0 hnn
        have hw4 : X < x ∨ x ≤ X ∧ Y < y ∨ x ≤ X ∧ y ≤ Y ∧ x < -4194304 ∨ x ≤ X ∧ y ≤ Y ∧ -4194304 ≤ x ∧ y < -4194304 := by omega
        clear hnear
        rcases hw4 with n1 | ⟨n1, n2⟩ | ⟨n1, n2, n3⟩ | ⟨n1, n2, n3, n4⟩
        all_goals
          go_wp2_with fail
          exact ⟨⟨k + 1, by omega, by go_num, hE, k0, k1, k2, k3, ko, by rw [upTo_same _ _ _ (by omega) F0.out]; exact hown⟩, by simp [intOf]; omega⟩
    · obtain rfl : k = xs.length := by omega
      rw [← hyl, upTo_all, hyl] at hown
      have HT := Lib.hid hown
      obtain ⟨c3, f3⟩ := blk_rules k3
      clear hown
      go_wp2_with fail
      refine bodyPost_ret (v := .agg #[.int .i64 W, .int .i64 H, .slice B xs.length dB]) (by simp only [results, Try.results28]; go_simp; done) rfl ⟨_, _, rfl, ?_, ?_⟩
      · exact row_set (row_set (row_set HT.out k3 (by decide) 0 (.int .i64 W)) (blk_set k3 0 (.int .i64 W)) (by decide) 1 (.int .i64 H)) (blk_set (blk_set k3 0 (.int .i64 W)) 1 (.int .i64 H)) (by decide) 2 (.slice B xs.length dB)
      · repeat' (first | exact hE | refine Ext.set ?_ ?_ _)
        all_goals (simp; omega)
end Go.Proofs.Ytilcggkbancniaa
