/- The law TilesSums walked. -/
import Derived.Test.YtilcggkbancniaaTileU
import Derived.Test.YtilcggkbancniaaTileT
import Derived.Deep.DeepCutAuto
set_option linter.unusedVariables false
set_option linter.unusedSimpArgs false
namespace Go.Proofs.Ytilcggkbancniaa
open Go.RowKit

set_option maxRecDepth 100000 in
set_option maxHeartbeats 4000000 in
theorem lsums_bad (W H : Int) (pA : Option Addr) (pc : Nat) (px : List Int) (t c : Int) (w : World) (hp : Reads .u32 w pA px) (hcap : px.length ≤ pc) (hpn : px.length ≤ 2000) (hok : sumsOk W H px = false) :
    Calls Try.prog 13 #[.agg #[.int .i64 W, .int .i64 H, .slice pA px.length pc], .int .i64 t, .int .u32 c] w fun e w' => e = .returned (.bool true) ∧ Ext w w' := by
  have cu := fun w (h : Reads .u32 w pA px) => sums_any W H pA pc px w h hcap
  rw [show sumsL W H px = [] by unfold sumsL; rw [hok]; rfl] at cu
  have hbad : W < 1 ∨ ¬ W < 1 ∧ (256 < W ∨ ¬ 256 < W ∧ (H < 1 ∨ ¬ H < 1 ∧ (256 < H ∨ ¬ 256 < H ∧ (px.length : Int) ≠ W * H))) := by
    have hno : ¬ (sumsOk W H px = true) := by rw [hok]; simp
    unfold sumsOk at hno
    rw [Bool.and_eq_true, sizeOk_iff, decide_eq_true_eq] at hno
    omega
  have d1 : ((2000 : Int) < px.length) = False := by simp; omega
  have CU := Lib.hid cu
  have HP := Lib.hid hp
  clear hok cu hp
  rcases hbad with h1 | ⟨h1, h2 | ⟨h2, h3 | ⟨h3, h4 | ⟨h4, h5⟩⟩⟩⟩
  case inr.inr.inr.inr =>
    have a1 : W ≤ 256 := by omega
    have a2 : H ≤ 256 := by omega
    have hmul : W * H ≤ 256 * 256 := Int.mul_le_mul a1 a2 (by omega) (by omega)
    have hmul0 : 0 ≤ W * H := Int.mul_nonneg (by omega) (by omega)
    have m1 : IntKind.i64.wrap (W * H) = W * H := IntWalk.i64_in _ (by omega)
    have m2 : wrap64 (W * H) = W * H := IntWalk.wrap64_in _ (by omega)
    have g1 : (W < 1) = False := by simp; omega
    have g2 : ((256 : Int) < W) = False := by simp; omega
    have g3 : (H < 1) = False := by simp; omega
    have g4 : ((256 : Int) < H) = False := by simp; omega
    have g5 : ((px.length : Int) != W * H) = true := by simp [h5]
    clear h1 h2 h3 h4 h5 a1 a2
    go_enter Try.func13, Try.ntmps13
    go_wp2_with fail
    refine (CU.out _ (HP.out.ext ((Ext.refl w).alloc _))).mono ?_
    rintro e w1 hg
    obtain ⟨B, d, rfl, r, E⟩ := hg.reads
    have kB := E.keep (blk_new w (.cells #[.int .i64 W, .int .i64 H, .slice pA px.length pc] 24))
    obtain ⟨cB, fB⟩ := blk_rules kB
    have hE := Ext.of_alloc E
    clear hg r E CU HP
    simp only [List.length_nil]
    go_wp2_with fail
    refine (wakes10_any _).mono ?_
    rintro e w2 ⟨rfl, E2⟩
    go_wp2_with fail
    go_ret
    exact ⟨rfl, hE.trans E2⟩
  all_goals
    go_enter Try.func13, Try.ntmps13
    go_wp2_with fail
    refine (CU.out _ (HP.out.ext ((Ext.refl w).alloc _))).mono ?_
    rintro e w1 hg
    obtain ⟨B, d, rfl, r, E⟩ := hg.reads
    have kB := E.keep (blk_new w (.cells #[.int .i64 W, .int .i64 H, .slice pA px.length pc] 24))
    obtain ⟨cB, fB⟩ := blk_rules kB
    have hE := Ext.of_alloc E
    clear hg r E CU HP
    simp only [List.length_nil]
    go_wp2_with fail
    refine (wakes10_any _).mono ?_
    rintro e w2 ⟨rfl, E2⟩
    go_wp2_with fail
    go_ret
    exact ⟨rfl, hE.trans E2⟩

set_option maxRecDepth 100000 in
set_option maxHeartbeats 16000000 in
theorem lsums_good (W H : Int) (pA : Option Addr) (pc : Nat) (px : List Int) (t c : Int) (w : World) (hp : Reads .u32 w pA px) (hx : ∀ x ∈ px, 0 ≤ x ∧ x ≤ 4294967295) (hcap : px.length ≤ pc) (hnil : pA = none → pc = 0) (hpn : px.length ≤ 2000) (hok : sumsOk W H px = true) (hc : 0 ≤ c ∧ c ≤ 4294967295) :
    Calls Try.prog 13 #[.agg #[.int .i64 W, .int .i64 H, .slice pA px.length pc], .int .i64 t, .int .u32 c] w fun e w' => e = .returned (.bool true) ∧ Ext w w' := by
  have cu := fun w (h : Reads .u32 w pA px) => sums_any W H pA pc px w h hcap
  have hUl := sumsL_len hok
  have cg := grid_any W H
  have hgl : (gridOf W H).length = tileN W H := gridTo_length W H _
  have hsz : sizeOk W H = true := by
    unfold sumsOk at hok
    rw [Bool.and_eq_true] at hok
    exact hok.1
  have hlen : (px.length : Int) = W * H := by
    unfold sumsOk at hok
    rw [Bool.and_eq_true, decide_eq_true_eq] at hok
    exact hok.2
  obtain ⟨⟨w1', w2'⟩, w3', w4'⟩ := sizeOk_iff.1 hsz
  have hNp := tileN_pos hsz
  have hNb := tileN_bd W H
  have hpos : 0 < px.length := by
    have : 0 < W * H := Int.mul_pos (by omega) (by omega)
    omega
  have d1 : ((2000 : Int) < px.length) = False := by simp; omega
  have HOK := Lib.hid hok
  have HX := Lib.hid hx
  have HP := Lib.hid hp
  obtain ⟨N, hN⟩ : ∃ N, tileN W H = N := ⟨_, rfl⟩
  rw [hN] at hUl hgl hNp hNb
  have HN := Lib.hid hN
  obtain ⟨U, hU⟩ : ∃ U, sumsL W H px = U := ⟨_, rfl⟩
  obtain ⟨G, hG⟩ : ∃ G, gridOf W H = G := ⟨_, rfl⟩
  rw [hU] at hUl
  simp only [hU] at cu
  rw [hG] at hgl cg
  have HU := Lib.hid hU
  have HG := Lib.hid hG
  have CU := Lib.hid cu
  have CG := Lib.hid cg
  have hn0 : ((N : Int) == 0) = false := by rw [beq_eq_false_iff_ne]; omega
  clear hok hx hp hN hU hG cu cg hsz hlen
  go_enter Try.func13, Try.ntmps13
  go_wp2_with fail
  refine (CU.out _ (HP.out.ext ((Ext.refl w).alloc _))).mono ?_
  rintro e w1 hg
  obtain ⟨B1, dU, rfl, rU, E⟩ := hg.reads
  have kB := E.keep (blk_new w (.cells #[.int .i64 W, .int .i64 H, .slice pA px.length pc] 24))
  obtain ⟨cB, fB⟩ := blk_rules kB
  have hE := Ext.of_alloc E
  replace rU := Lib.hid rU
  clear hg E CU
  rw [hUl]
  go_wp2_with fail
  refine (CG.out _).mono ?_
  rintro e w2 ⟨B2, dG, rfl, oG, nG, E⟩
  have rG := Lib.hid (OwnR.at oG)
  replace kB := E.keep kB
  replace rU := Lib.hid (rU.out.ext E)
  replace hE := hE.trans E
  clear CG oG E cB fB nG
  obtain ⟨c0, f0⟩ := blk_rules kB
  rw [hgl]
  go_wp2_with fail
  go_cut [9] from 61 to 68 (fun p wx => ∃ G B' d', p = .pointer (some ⟨G, 0, none⟩) ∧ wx.heap[G]? = some (.cells #[.int .i64 W, .int .i64 H, .slice B' px.length d'] 24 (0, 0)) ∧ wx.ownsRow w2.heap.size 35 1 (.slice B' px.length d') px.length (nums .u32 px) ∧ Ext w2 wx ∧ w2.heap.size ≤ G)
  case first =>
    have sx : ∀ w', Ext w2 w' → Ext w2 w' ∧ w'.cell? ⟨w.heap.size, 0, none⟩ = some (.int .i64 W) ∧ w'.cell? ⟨w.heap.size, 1, none⟩ = some (.int .i64 H) ∧ w'.cell? ⟨w.heap.size, 2, none⟩ = some (.slice pA px.length pc) := fun w' h => ⟨h, h.cellOf (c0 0), h.cellOf (c0 1), h.cellOf (c0 2)⟩
    go_region_held3 (fun w' => Ext w2 w' ∧ w'.cell? ⟨w.heap.size, 0, none⟩ = some (.int .i64 W) ∧ w'.cell? ⟨w.heap.size, 1, none⟩ = some (.int .i64 H) ∧ w'.cell? ⟨w.heap.size, 2, none⟩ = some (.slice pA px.length pc)) ((refine sx _ ?_; (repeat' (first | exact And.left (by assumption) | assumption | refine Ext.alloc ?_ _ | refine Ext.set ?_ ?_ _ | refine Ext.drew ?_ | exact Ext.refl w2 | exact Nat.le_refl _ | exact Below.size (by assumption) | (simp; done))))) (first | ((refine step_app w2.heap.size rfl (.const (.slice none 0 0)) (.tmp 66) 22 35 (.int .u32 0) 1 4 rfl Try.underlying22 info_u32 rfl (by decide) (by decide) (.slice none 0 0) 0 (nums .u32 []) rfl (World.ownsRow_nil _ _ _ _) pA px.length pc (nums .u32 px) rfl hnil (by rw [nums_length]; simp) (Reads.shows (HP.out.ext (hE.trans (And.left (by assumption))))) nums_one (by omega) (Below.size (And.left (by assumption))) (fun B' d' w' hown' hg => ?_); have hEw : Ext w2 w' := ext_none (And.left (by assumption)) hg; (first | (have kZ := (ext_none (Ext.refl _) hg).keep (blk_new_drew _ _); obtain ⟨dz, gz⟩ := blk_rules kZ) | skip))))
    all_goals
      rw [Nat.zero_add] at hown'
      have hown1 : w'.ownsRow w2.heap.size 35 1 (.slice B' px.length d') px.length (nums .u32 px) := hown'
    · go_wp2_with fail
      go_meet
      case rel => exact ⟨_, _, _, rfl, blk_new _ _, World.ownsRow.alloc hown1 _, hEw.alloc _, hEw.size⟩
    · go_wp2_with fail
      go_meet
      case rel => exact ⟨_, _, _, rfl, blk_set (blk_set (blk_set kZ 0 (.int .i64 W)) 1 (.int .i64 H)) 2 (.slice B' px.length d'), row_set (row_set (row_set hown1 kZ (by decide) 0 (.int .i64 W)) (blk_set kZ 0 (.int .i64 W)) (by decide) 1 (.int .i64 H)) (blk_set (blk_set kZ 0 (.int .i64 W)) 1 (.int .i64 H)) (by decide) 2 (.slice B' px.length d'), ((hEw.set (Nat.le_refl _) _).set (Nat.le_refl _) _).set (Nat.le_refl _) _, Nat.le_refl _⟩
  case rest =>
    obtain ⟨G1, B', d', rfl, kI, hownI, hEc, hG1⟩ := hcut
    clear c0 f0
    go_wp2_with fail
    go_loopw [10] (fun iv wr => ∃ k : Nat, k ≤ px.length ∧ iv = .int .i64 k ∧ wr.heap[G1]? = some (.cells #[.int .i64 W, .int .i64 H, .slice B' px.length d'] 24 (0, 0)) ∧ wr.ownsRow w2.heap.size 35 1 (.slice B' px.length d') px.length (nums .u32 (upTo (fun _ x => turn24 x) k px)) ∧ Ext w2 wr) (fun iv _ => px.length - (intOf iv).toNat)
    case atStart => exact ⟨0, Nat.zero_le _, rfl, kI, by rw [upTo_zero]; exact hownI, hEc⟩
    case round =>
      clear kI hownI hEc
      obtain ⟨k, hk, rfl, kI, hownI, hE3⟩ := hrel
      obtain ⟨cI, fI⟩ := blk_rules kI
      by_cases hlt : k < px.length
      · obtain ⟨g', rfl, hgb⟩ := row_form hownI (by omega)
        have hrc := World.ownsRow.cellAt hownI k (by omega)
        rw [nums_get (by rw [upTo_length]; omega), upTo_getD _ _ _ hlt, if_neg (by omega)] at hrc
        have hrf := fun j => World.ownsRow.frozenAt hownI j
        have hst := upTo_succ (fun _ x => turn24 x) k px hlt
        obtain ⟨v, hv⟩ : ∃ v, px.getD k 0 = v := ⟨_, rfl⟩
        rw [hv] at hrc hst
        have hs := World.ownsRow.stored hownI k (.int .u32 (bits BinOp.xor IntKind.u32 v 16777216))
        have hset : (nums .u32 (upTo (fun _ x => turn24 x) k px)).set k (.int .u32 (bits BinOp.xor IntKind.u32 v 16777216)) = nums .u32 (upTo (fun _ x => turn24 x) (k + 1) px) := by
          rw [← hst]
          simp [nums, List.map_set, turn24]
        have Hs := Lib.hid (hset ▸ hs.1)
        have hneI : G1 ≠ g' := fun h3 => by
          obtain ⟨_, cur, hcc⟩ := row_block hownI (g := g') (by simp [Value.ownBlock])
          rw [← h3, kI] at hcc; injection hcc with hcc; injection hcc with _ hcc _; exact absurd hcc (by decide)
        have HE3 := Lib.hid hE3
        clear hs hset hst hv hE3
        go_wp2_with fail
        go_still_tail 10, (by kernel_rfl)
        change wpList _ _ _ _ _ wr.drew
        go_wp2_with fail
        exact ⟨⟨k + 1, by omega, by go_num, blk_set_ne kI hneI _ _, Hs.out, (HE3.out.set (by simpa using hgb) _).drew⟩, by simp [intOf]; omega⟩
      · obtain rfl : k = px.length := by omega
        rw [upTo_all] at hownI
        have hnz : ((px.length : Int) == 0) = false := by rw [beq_eq_false_iff_ne]; omega
        have hnz2 : (px.length == 0) = false := by rw [beq_eq_false_iff_ne]; omega
        obtain ⟨m, hm⟩ : ∃ m, t.tmod (px.length : Int) = m := ⟨_, rfl⟩
        have hm1 : -(px.length : Int) < m ∧ m < px.length := by
          rw [← hm]
          have h1 := Int.tmod_lt_of_pos t (show (0 : Int) < px.length by omega)
          have h2 := Int.lt_tmod_of_pos t (show (0 : Int) < px.length by omega)
          omega
        have v1 : IntKind.i64.wrap m = m := IntWalk.i64_in _ (by omega)
        have v2 : IntKind.i64.wrap (m + px.length) = m + px.length := IntWalk.i64_in _ (by omega)
        have HOI := Lib.hid hownI
        have HE3 := Lib.hid hE3
        clear hownI hE3
        go_upto_if 92 with fail
        go_cut [11] (fun v wx => ∃ a : Nat, a < px.length ∧ v = .int .i64 a ∧ wx = wr)
        case first =>
          by_cases hm0 : m < 0
          · go_wp2_with fail
            go_meet
            case rel => exact ⟨(m + px.length).toNat, by omega, by congr 1; omega, rfl⟩
          · go_wp2_with fail
            go_meet
            case rel => exact ⟨m.toNat, by omega, by congr 1; omega, rfl⟩
        case rest =>
          obtain ⟨a, ha, rfl, rfl⟩ := hcut
          clear hnz hnz2 hm hm1 v1 v2 hk hlt
          have hownI := HOI.out
          obtain ⟨g', rfl, hgb⟩ := row_form hownI (by omega)
          have hrc := World.ownsRow.cellAt hownI a (by omega)
          rw [nums_get (by rw [mapAt_length]; omega)] at hrc
          have hrf := fun j => World.ownsRow.frozenAt hownI j
          have hs := World.ownsRow.stored hownI a (.int .u32 c)
          have hset : (nums .u32 (mapAt (fun _ x => turn24 x) px)).set a (.int .u32 c) = nums .u32 (turned px a c) := by
            unfold turned
            simp [nums, List.map_set]
          have Hs := Lib.hid (hset ▸ hs.1)
          have hneI : G1 ≠ g' := fun h3 => by
            obtain ⟨_, cur, hcc⟩ := row_block hownI (g := g') (by simp [Value.ownBlock])
            rw [← h3, kI] at hcc; injection hcc with hcc; injection hcc with _ hcc _; exact absurd hcc (by decide)
          have kI2 := blk_set_ne kI hneI a (.int .u32 c)
          have hE4 : Ext w2 (wc.setCell ⟨g', a, none⟩ (.int .u32 c)) := HE3.out.set (by simpa using hgb) _
          obtain ⟨cI2, fI2⟩ := blk_rules kI2
          have hrow4 := Lib.hid Hs.out
          obtain ⟨A4, c4, ev4, rd4, cap4, _⟩ := Own.reads (show Own .u32 35 (wc.setCell ⟨g', a, none⟩ (.int .u32 c)) w2.heap.size (.slice (some ⟨g', 0, none⟩) px.length d') (turned px a c) by unfold Own; rw [turned_length]; exact Hs.out)
          injection ev4 with e41 e42 e43
          subst e43
          rw [turned_length] at cap4
          rw [← e41] at rd4
          have cu4 := sums_any W H (some ⟨g', 0, none⟩) d' (turned px a c) (wc.setCell ⟨g', a, none⟩ (.int .u32 c)) rd4 (by rw [turned_length]; exact cap4)
          have hok4 := sumsOk_turned W H px a c
          rw [HOK.out] at hok4
          have hV1 := sumsL_len hok4
          rw [HN.out] at hV1
          rw [turned_length] at cu4
          have HGT : Hid (∀ i, i < N → ((cut24 c = cut24 (px.getD a 0) ∨ (tileR W H i).has ((a : Int) % W) ((a : Int) / W) = false) → U.getD i 0 = (sumsL W H (turned px a c)).getD i 0)) := Lib.hid fun i hi h => by
            rw [← HU.out, sumsL_get HOK.out (by rw [HN.out]; exact hi), sumsL_get hok4 (by rw [HN.out]; exact hi)]
            exact tileSum_eq HOK.out HX.out (by rw [HN.out]; exact hi) h
          obtain ⟨V, hV⟩ : ∃ V, sumsL W H (turned px a c) = V := ⟨_, rfl⟩
          rw [hV] at cu4 hV1 HGT
          have CU4 := Lib.hid cu4
          clear hs hset hrow4 rd4 cap4 e41 e42 hok4 hV cu4 Hs HE3 HOI hownI
          go_wp2_with fail
          refine CU4.out.mono ?_
          rintro e w5 hg
          obtain ⟨B5, d5, rfl, r5, E5⟩ := hg.reads
          have hE5 := hE4.trans E5
          have rV := Lib.hid r5
          clear hg r5 E5 CU4 cI2 fI2 cI fI hrc hrf kI2 kI hE4
          rw [hV1]
          have hNN : ((N : Int) != N) = false := by simp
          have kB5 := hE5.keep kB
          replace rU := Lib.hid (rU.out.ext hE5)
          replace rG := Lib.hid (rG.out.ext hE5)
          have hEw := hE.trans hE5
          clear kB hE5 hE
          go_wp2_with fail
          go_loopw [13] (fun iv wr => ∃ k : Nat, k ≤ N ∧ iv = .int .i64 k ∧ Ext w5 wr) (fun iv _ => N - (intOf iv).toNat)
          case atStart => exact ⟨0, Nat.zero_le _, rfl, Ext.refl _⟩
          case round =>
            obtain ⟨k, hk, rfl, hE6⟩ := hrel
            by_cases hlt : k < N
            · obtain ⟨b0, o0, rfl, hcG⟩ := (rG.out.ext hE6).form (by omega)
              have hgk : G[k]? = some (tileR W H k) := by
                rw [← HG.out]
                unfold gridOf
                rw [List.getElem?_map, List.getElem?_range (by rw [HN.out]; exact hlt)]
                rfl
              obtain ⟨h0, h1, h2, h3⟩ := hcG k _ hgk
              obtain ⟨b1, o1, rfl, hcU⟩ := (rU.out.ext hE6).form (by omega)
              have cU := hcU k (by omega)
              obtain ⟨b2, o2, rfl, hcV⟩ := (rV.out.ext hE6).form (by omega)
              have cV := hcV k (by omega)
              obtain ⟨pb, po, rfl, hcP⟩ := (HP.out.ext (hEw.trans hE6)).form (by omega)
              have cP := hcP a ha
              have hkey := HGT.out k hlt
              have hpx := HX.out (px.getD a 0) (by rw [List.getD_eq_getElem?_getD, List.getElem?_eq_getElem ha]; exact List.getElem_mem _)
              obtain ⟨hd1, hd2, hd3, hd4⟩ := div_bd (k := a) (W := W) (by omega)
              have hm1 := tmod_nat (k := a) (W := W)
              have hm2 := tdiv_nat (k := a) (W := W)
              obtain ⟨X, hX⟩ : ∃ X, (a : Int) % W = X := ⟨_, rfl⟩
              obtain ⟨Y, hY⟩ : ∃ Y, (a : Int) / W = Y := ⟨_, rfl⟩
              rw [hX] at hm1 hd1 hd2 hkey
              rw [hY] at hm2 hd3 hd4 hkey
              obtain ⟨q, hq⟩ : ∃ q, tileR W H k = q := ⟨_, rfl⟩
              rw [hq] at h0 h1 h2 h3 hkey
              have hne : (W == 0) = false := by simp; omega
              have hh := fun w => has_any q.x q.y q.w q.h X Y w
              simp only [show Rect.mk q.x q.y q.w q.h = q from rfl] at hh
              obtain ⟨bb, hbb⟩ : ∃ bb, Rect.has q X Y = bb := ⟨_, rfl⟩
              simp only [hbb] at hh
              rw [hbb] at hkey
              obtain ⟨p0, hp0⟩ : ∃ p0, px.getD a 0 = p0 := ⟨_, rfl⟩
              rw [hp0] at cP hkey hpx
              obtain ⟨u, hu⟩ : ∃ u, U.getD k 0 = u := ⟨_, rfl⟩
              obtain ⟨v, hv⟩ : ∃ v, V.getD k 0 = v := ⟨_, rfl⟩
              rw [hu] at cU hkey
              rw [hv] at cV hkey
              have a1 : bits .and .u32 c 16777215 = cut24 c := and_cut hc.1 (by omega)
              have a2 : bits .and .u32 p0 16777215 = cut24 p0 := and_cut hpx.1 (by omega)
              obtain ⟨x1, hx1⟩ : ∃ x, cut24 c = x := ⟨_, rfl⟩
              obtain ⟨x2, hx2⟩ : ∃ x, cut24 p0 = x := ⟨_, rfl⟩
              rw [hx1] at a1 hkey
              rw [hx2] at a2 hkey
              have kB6 := hE6.keep kB5
              have j0 := After.blk kB6
              have s0 := fun x : After wr => x.cell h0
              have s1 := fun x : After wr => x.cell h1
              have s2 := fun x : After wr => x.cell h2
              have s3 := fun x : After wr => x.cell h3
              have s4 := fun x : After wr => x.cell cU
              have s5 := fun x : After wr => x.cell cV
              have s6 := fun x : After wr => x.cell cP
              have HK := Lib.hid hkey
              have uu : (u != u) = false := by simp
              clear hcG hgk hcU hcV hcP hX hY hq hbb hp0 hu hv hx1 hx2 hkey
              by_cases hxx : x1 = x2
              · have t1 : (x1 == x2) = true := by simp [hxx]
                obtain rfl : u = v := HK.out (.inl hxx)
                clear hxx HK
                cases bb
                all_goals
                  go_wp2_with fail
                  refine wp_region_after (by kernel_rfl) (by kernel_rfl) ?_
                  repeat (go_big_quiet_step (first | with_reducible exact Calls.after (hh _)))
                  refine wpQuiet_nil ?_
                  intro _ hw'
                  obtain ⟨z, rfl⟩ := hw'
                  go_wp2_with fail
                  exact ⟨⟨k + 1, by omega, by go_num, hE6.trans z.ext⟩, by simp [intOf]; omega⟩
              · have t1 : (x1 == x2) = false := by simp [hxx]
                clear hxx
                cases bb
                · obtain rfl : u = v := HK.out (.inr rfl)
                  clear HK
                  go_wp2_with fail
                  refine wp_region_after (by kernel_rfl) (by kernel_rfl) ?_
                  repeat (go_big_quiet_step (first | with_reducible exact Calls.after (hh _)))
                  refine wpQuiet_nil ?_
                  intro _ hw'
                  obtain ⟨z, rfl⟩ := hw'
                  go_wp2_with fail
                  exact ⟨⟨k + 1, by omega, by go_num, hE6.trans z.ext⟩, by simp [intOf]; omega⟩
                · clear HK
                  go_wp2_with fail
                  refine wp_region_after (by kernel_rfl) (by kernel_rfl) ?_
                  repeat (go_big_quiet_step (first | with_reducible exact Calls.after (hh _)))
                  refine wpQuiet_nil ?_
                  intro _ hw'
                  obtain ⟨z, rfl⟩ := hw'
                  go_wp2_with fail
                  exact ⟨⟨k + 1, by omega, by go_num, hE6.trans z.ext⟩, by simp [intOf]; omega⟩
            · obtain rfl : k = N := by omega
              go_wp2_with fail
              refine (wakes10_any _).mono ?_
              rintro e w7 ⟨rfl, E7⟩
              go_wp2_with fail
              go_ret
              exact ⟨rfl, (hEw.trans hE6).trans E7⟩
set_option maxRecDepth 100000 in
theorem lsums_any (W H : Int) (pA : Option Addr) (pc : Nat) (px : List Int) (t c : Int) (w : World) (hp : Reads .u32 w pA px) (hx : ∀ x ∈ px, 0 ≤ x ∧ x ≤ 4294967295) (hcap : px.length ≤ pc) (hnil : pA = none → pc = 0) (hc : 0 ≤ c ∧ c ≤ 4294967295) :
    Calls Try.prog 13 #[.agg #[.int .i64 W, .int .i64 H, .slice pA px.length pc], .int .i64 t, .int .u32 c] w fun e w' => e = .returned (.bool true) ∧ Ext w w' := by
  by_cases h2 : px.length ≤ 2000
  · cases hok : sumsOk W H px
    · exact lsums_bad W H pA pc px t c w hp hcap h2 hok
    · exact lsums_good W H pA pc px t c w hp hx hcap hnil h2 hok hc
  · have d2 : ((2000 : Int) < px.length) = True := by simp; omega
    clear hp hx
    go_enter Try.func13, Try.ntmps13
    go_wp2_with fail
    refine (wakes10_any _).mono ?_
    rintro e w1 ⟨rfl, hE⟩
    go_wp2_with fail
    go_ret
    exact ⟨rfl, Ext.of_alloc hE⟩
theorem slice_nil4 {e : Sh} {w : World} {A : Option Addr} {n c : Nat} (h : (Sh.slice e).Is w [.slice A n c]) : A = none → c = 0 := fun ha => by
  rcases h with h | ⟨a, len, cap, h, _⟩
  · injection h with h; injection h with _ _ h
  · injection h with h; injection h with h _ _; rw [ha] at h; cases h
theorem image_of4 {w : World} {v : Value} (h : shImage.Is w v.cells.toList) : ∃ W H A n c xs, v = .agg #[.int .i64 W, .int .i64 H, .slice A n c] ∧ IntsAt .u32 w A n c xs ∧ n ≤ c ∧ (A = none → c = 0) := by
  obtain ⟨W, r, e1, _, h⟩ := is_int h
  obtain ⟨H, r, rfl, _, h⟩ := is_int h
  obtain ⟨s, r, rfl, hs, h⟩ := is_slice h
  obtain rfl : r = [] := h
  obtain ⟨A, n, c, xs, rfl, hi⟩ := ints_at hs
  exact ⟨W, H, A, n, c, xs, agg_of e1 (by simp), hi, slice_cap hs, slice_nil4 hs⟩
theorem u32_wf {v : Int} (this : (Lit.int .u32 v).wf = true) : 0 ≤ v ∧ v ≤ 4294967295 := by
  simp only [Lit.wf, Bool.and_eq_true, decide_eq_true_eq, show IntKind.u32.min = 0 from rfl, show IntKind.u32.max = 4294967295 from rfl] at this
  exact this
end Go.Proofs.Ytilcggkbancniaa
