/- The law ScrollMoves. Printed by gen_scrw.py. -/
import Derived.Test.YtjghghbldifhaaaSameS
set_option linter.unusedVariables false
set_option linter.unusedSimpArgs false
namespace Go.Proofs.Ytjghghbldifhaaa
open Go.RowKit
attribute [local go_sem ↓] max_mx
theorem rowPic_full (W : Nat) (y : Nat) : y * W + W = (y + 1) * W := by rw [Nat.add_mul, Nat.one_mul]
theorem rowPic_bd {W : Nat} {f : Nat → Int} {n : Nat} (h : ∀ y, y < n → 0 ≤ f y ∧ f y ≤ 4294967295) : ∀ x ∈ rowPic W f n, 0 ≤ x ∧ x ≤ 4294967295 := fun x hx => by
  obtain ⟨k, hk, rfl⟩ := List.mem_map.1 hx
  have := List.mem_range.1 hk
  exact h _ (Nat.lt_of_le_of_lt (Nat.div_le_self k W) this)
set_option maxRecDepth 100000 in
set_option maxHeartbeats 32000000 in
theorem moves_in (W H : Nat) (b : Int) (lA : Option Addr) (lc : Nat) (l : List Rect) (w : World) (h1 : 1 ≤ W) (h2 : W ≤ 8) (h3 : 2 ≤ H) (h4 : H ≤ 30) (b1 : -(H : Int) ≤ 2 * b) (b2 : 2 * b ≤ H) (hl : l.length ≤ 16) (rl : RectsAt w lA l) (d5 : (b < (-(H : Int)).tdiv 2) = False) (d6 : ((H : Int).tdiv 2 < b) = False) (w5 : IntKind.i64.wrap ((-(H : Int)).tdiv 2) = (-(H : Int)).tdiv 2) (w6 : IntKind.i64.wrap ((H : Int).tdiv 2) = (H : Int).tdiv 2) :
    Calls Try.prog 9 #[.int .i64 W, .int .i64 H, .int .i64 b, .slice lA l.length lc] w fun e w' => e = .returned (.bool true) ∧ Ext w w' := by
  have d1 : ((W : Int) < 1) = False := by simp; omega
  have d2 : ((8 : Int) < W) = False := by simp; omega
  have d3 : ((H : Int) < 2) = False := by simp; omega
  have d4 : ((30 : Int) < H) = False := by simp; omega
  have d7 : ((16 : Int) < l.length) = False := by simp; omega
  have s0 : IntKind.i64.wrap (-(H : Int)) = -(H : Int) := IntWalk.i64_in _ (by omega)
  have RL := Lib.hid rl
  clear rl
  go_enter Try.func9, Try.ntmps9
  go_upto_region 5 with fail
  clear d1 d2 d3 d4 d5 d6 d7 s0 w5 w6
  obtain ⟨w0, hw0⟩ : ∃ z, z = (w.alloc (.cells #[.int .i64 W, .int .i64 H, .slice none 0 0] 43)).alloc (.cells #[.int .i64 W, .int .i64 H, .slice none 0 0] 43) := ⟨_, rfl⟩
  have hT0 : TwoRows w w0 w.heap.size (w.heap.size + 1) W H 0 0 [] [] none 0 none 0 := by
    rw [hw0]
    exact ⟨blk_old (blk_new w _) _, blk_new1 w _ _, World.ownsRow_nil _ _ _ _, World.ownsRow_nil _ _ _ _, fun g h => by simp [Value.ownBlock] at h, by omega, Nat.le_refl _, by omega, ((Ext.refl w).alloc _).alloc _⟩
  rw [← hw0]
  clear hw0
  go_wp2_with fail
  go_loopw [11] (fun yv wr => ∃ (y : Nat) (A : Option Addr) (ca : Nat) (B : Option Addr) (cb : Nat), y ≤ H ∧ yv = .int .i64 y ∧ TwoRows w wr w.heap.size (w.heap.size + 1) W H (y * W) (y * W) (rowPic W wasRow (y * W)) (rowPic W (isRow H b) (y * W)) A ca B cb) (fun yv _ => H - (intOf yv).toNat)
  case atStart => exact ⟨0, none, 0, none, 0, Nat.zero_le _, rfl, by simpa [rowPic] using hT0⟩
  case round =>
    clear hT0
    obtain ⟨y, A, ca, B, cb, hy, rfl, hT⟩ := hrel
    have HT0 := Lib.hid hT
    clear hT
    by_cases hlt : y < H
    · go_wp2_with fail
      generalize wr = wo at *
      go_loopw [12] (fun xv wr => ∃ (x : Nat) (A : Option Addr) (ca : Nat) (B : Option Addr) (cb : Nat), x ≤ W ∧ xv = .int .i64 x ∧ TwoRows w wr w.heap.size (w.heap.size + 1) W H (y * W + x) (y * W + x) (rowPic W wasRow (y * W + x)) (rowPic W (isRow H b) (y * W + x)) A ca B cb) (fun xv _ => W - (intOf xv).toNat)
      case atStart => exact ⟨0, A, ca, B, cb, Nat.zero_le _, rfl, HT0.out⟩
      case round =>
        clear HT0 A ca B cb
        obtain ⟨x, A, ca, B, cb, hx, rfl, hT⟩ := hrel
        have HT := Lib.hid hT
        obtain ⟨cA, fA⟩ := blk_rules hT.kA
        clear hT
        by_cases hlx : x < W
        · have hn : y * W + x ≤ 1000 := by
            have : y * W ≤ 30 * 8 := Nat.mul_le_mul (by omega) h2
            omega
          have s1 : IntKind.i64.wrap ((y : Int) + 1) = (y : Int) + 1 := IntWalk.i64_in _ (by omega)
          have s2 : IntKind.u32.wrap ((y : Int) + 1) = (y : Int) + 1 := wraps_u32 _ (by omega) (by omega)
          have s3 : IntKind.i64.wrap ((y : Int) - b) = (y : Int) - b := IntWalk.i64_in _ (by omega)
          go_upto_region 12 with (first | (refine wpList_app2 w.heap.size rfl (.tmp 69) (.tmp 73) 41 58 (.int .u32 0) 1 4 rfl Try.underlying41 info_u32 rfl (by decide) (by decide) (.slice A (y * W + x) ca) (y * W + x) (nums .u32 (rowPic W wasRow (y * W + x))) rfl (World.ownsRow.alloc HT.out.oA _) (some ⟨wr.heap.size, 0, none⟩) 1 1 [.int .u32 ((y : Int) + 1)] rfl (fun h => by cases h) rfl (fun _ => ⟨_, rfl, World.news_of_block (blk_new wr _)⟩) (by simp [Value.oneCell']) (by omega) (Nat.le_trans HT.out.E.size (by simp)) (fun A4 d4 W4 hr4 hg4 hb4 => ?_); obtain ⟨z4, y4⟩ := blk_rules (HT.out.farA hg4)))
          have hT2 : TwoRows w (W4.setCell ⟨w.heap.size, 2, none⟩ (.slice A4 (y * W + x + 1) d4)) w.heap.size (w.heap.size + 1) W H (y * W + x + 1) (y * W + x) (rowPic W wasRow (y * W + x + 1)) (rowPic W (isRow H b) (y * W + x)) A4 d4 B cb := by
            have e := rowPic_succ W wasRow (y := y) hlx
            rw [show wasRow y = (y : Int) + 1 from rfl] at e
            rw [Nat.add_assoc (y * W) x 1, e]
            exact HT.out.stepA hr4 hg4 hb4
          have HT2 := Lib.hid hT2
          clear hT2 hr4 hg4 hb4 z4 y4 HT cA fA
          obtain ⟨wq, hwq⟩ : ∃ z, z = W4.setCell ⟨w.heap.size, 2, none⟩ (.slice A4 (y * W + x + 1) d4) := ⟨_, rfl⟩
          rw [← hwq] at HT2 ⊢
          clear hwq W4
          obtain ⟨cq, fq⟩ := blk_rules HT2.out.kB
          obtain ⟨dq, gq⟩ := blk_rules HT2.out.kA
          by_cases hin : 0 ≤ (y : Int) - b
          · by_cases hin2 : (y : Int) - b < H
            · have hv : isRow H b y = (y : Int) - b + 1 := by unfold isRow; rw [if_pos ⟨hin, hin2⟩]
              have s4 : IntKind.i64.wrap ((y : Int) - b + 1) = (y : Int) - b + 1 := IntWalk.i64_in _ (by omega)
              have s5 : IntKind.u32.wrap ((y : Int) - b + 1) = (y : Int) - b + 1 := wraps_u32 _ (by omega) (by omega)
              go_upto_region 14 with fail
              go_upto_region 10 with (first | (refine wpList_app2 w.heap.size rfl (.tmp 87) (.tmp 91) 41 58 (.int .u32 0) 1 4 rfl Try.underlying41 info_u32 rfl (by decide) (by decide) (.slice B (y * W + x) cb) (y * W + x) (nums .u32 (rowPic W (isRow H b) (y * W + x))) rfl (World.ownsRow.alloc HT2.out.oB _) (some ⟨wq.heap.size, 0, none⟩) 1 1 [.int .u32 ((y : Int) - b + 1)] rfl (fun h => by cases h) rfl (fun _ => ⟨_, rfl, World.news_of_block (blk_new wq _)⟩) (by simp [Value.oneCell']) (by omega) (Nat.le_trans HT2.out.E.size (by simp)) (fun A5 d5 W5 hr5 hg5 hb5 => ?_); obtain ⟨z5, y5⟩ := blk_rules (HT2.out.swap.farA hg5)))
              have hT3 : TwoRows w (W5.setCell ⟨w.heap.size + 1, 2, none⟩ (.slice A5 (y * W + x + 1) d5)) w.heap.size (w.heap.size + 1) W H (y * W + x + 1) (y * W + x + 1) (rowPic W wasRow (y * W + x + 1)) (rowPic W (isRow H b) (y * W + x + 1)) A4 d4 A5 d5 := by
                have e := rowPic_succ W (isRow H b) (y := y) hlx
                rw [show isRow H b y = (y : Int) - b + 1 from hv] at e
                rw [Nat.add_assoc (y * W) x 1, e]
                exact (HT2.out.swap.stepA hr5 hg5 hb5).swap
              have HT3 := Lib.hid hT3
              clear hT3 hr5 hg5 hb5 z5 y5 HT2 cq fq dq gq
              obtain ⟨wz, hwz⟩ : ∃ z, z = W5.setCell ⟨w.heap.size + 1, 2, none⟩ (.slice A5 (y * W + x + 1) d5) := ⟨_, rfl⟩
              rw [← hwz] at HT3 ⊢
              clear hwz
              go_wp2_with fail
              exact ⟨⟨x + 1, A4, d4, A5, d5, by omega, by go_num, HT3.out⟩, by simp [intOf]; omega⟩
            · have hv : isRow H b y = 1000 + (y : Int) := by unfold isRow; rw [if_neg (fun h => hin2 h.2)]
              have s4 : IntKind.i64.wrap (1000 + (y : Int)) = 1000 + (y : Int) := IntWalk.i64_in _ (by omega)
              have s5 : IntKind.u32.wrap (1000 + (y : Int)) = 1000 + (y : Int) := wraps_u32 _ (by omega) (by omega)
              go_upto_region 15 with fail
              go_upto_region 10 with (first | (refine wpList_app2 w.heap.size rfl (.tmp 95) (.tmp 99) 41 58 (.int .u32 0) 1 4 rfl Try.underlying41 info_u32 rfl (by decide) (by decide) (.slice B (y * W + x) cb) (y * W + x) (nums .u32 (rowPic W (isRow H b) (y * W + x))) rfl (World.ownsRow.alloc HT2.out.oB _) (some ⟨wq.heap.size, 0, none⟩) 1 1 [.int .u32 (1000 + (y : Int))] rfl (fun h => by cases h) rfl (fun _ => ⟨_, rfl, World.news_of_block (blk_new wq _)⟩) (by simp [Value.oneCell']) (by omega) (Nat.le_trans HT2.out.E.size (by simp)) (fun A5 d5 W5 hr5 hg5 hb5 => ?_); obtain ⟨z5, y5⟩ := blk_rules (HT2.out.swap.farA hg5)))
              have hT3 : TwoRows w (W5.setCell ⟨w.heap.size + 1, 2, none⟩ (.slice A5 (y * W + x + 1) d5)) w.heap.size (w.heap.size + 1) W H (y * W + x + 1) (y * W + x + 1) (rowPic W wasRow (y * W + x + 1)) (rowPic W (isRow H b) (y * W + x + 1)) A4 d4 A5 d5 := by
                have e := rowPic_succ W (isRow H b) (y := y) hlx
                rw [show isRow H b y = 1000 + (y : Int) from hv] at e
                rw [Nat.add_assoc (y * W) x 1, e]
                exact (HT2.out.swap.stepA hr5 hg5 hb5).swap
              have HT3 := Lib.hid hT3
              clear hT3 hr5 hg5 hb5 z5 y5 HT2 cq fq dq gq
              obtain ⟨wz, hwz⟩ : ∃ z, z = W5.setCell ⟨w.heap.size + 1, 2, none⟩ (.slice A5 (y * W + x + 1) d5) := ⟨_, rfl⟩
              rw [← hwz] at HT3 ⊢
              clear hwz
              go_wp2_with fail
              exact ⟨⟨x + 1, A4, d4, A5, d5, by omega, by go_num, HT3.out⟩, by simp [intOf]; omega⟩
          · have hv : isRow H b y = 1000 + (y : Int) := by unfold isRow; rw [if_neg (fun h => hin h.1)]
            have s4 : IntKind.i64.wrap (1000 + (y : Int)) = 1000 + (y : Int) := IntWalk.i64_in _ (by omega)
            have s5 : IntKind.u32.wrap (1000 + (y : Int)) = 1000 + (y : Int) := wraps_u32 _ (by omega) (by omega)
            go_upto_region 15 with fail
            go_upto_region 10 with (first | (refine wpList_app2 w.heap.size rfl (.tmp 95) (.tmp 99) 41 58 (.int .u32 0) 1 4 rfl Try.underlying41 info_u32 rfl (by decide) (by decide) (.slice B (y * W + x) cb) (y * W + x) (nums .u32 (rowPic W (isRow H b) (y * W + x))) rfl (World.ownsRow.alloc HT2.out.oB _) (some ⟨wq.heap.size, 0, none⟩) 1 1 [.int .u32 (1000 + (y : Int))] rfl (fun h => by cases h) rfl (fun _ => ⟨_, rfl, World.news_of_block (blk_new wq _)⟩) (by simp [Value.oneCell']) (by omega) (Nat.le_trans HT2.out.E.size (by simp)) (fun A5 d5 W5 hr5 hg5 hb5 => ?_); obtain ⟨z5, y5⟩ := blk_rules (HT2.out.swap.farA hg5)))
            have hT3 : TwoRows w (W5.setCell ⟨w.heap.size + 1, 2, none⟩ (.slice A5 (y * W + x + 1) d5)) w.heap.size (w.heap.size + 1) W H (y * W + x + 1) (y * W + x + 1) (rowPic W wasRow (y * W + x + 1)) (rowPic W (isRow H b) (y * W + x + 1)) A4 d4 A5 d5 := by
              have e := rowPic_succ W (isRow H b) (y := y) hlx
              rw [show isRow H b y = 1000 + (y : Int) from hv] at e
              rw [Nat.add_assoc (y * W) x 1, e]
              exact (HT2.out.swap.stepA hr5 hg5 hb5).swap
            have HT3 := Lib.hid hT3
            clear hT3 hr5 hg5 hb5 z5 y5 HT2 cq fq dq gq
            obtain ⟨wz, hwz⟩ : ∃ z, z = W5.setCell ⟨w.heap.size + 1, 2, none⟩ (.slice A5 (y * W + x + 1) d5) := ⟨_, rfl⟩
            rw [← hwz] at HT3 ⊢
            clear hwz
            go_wp2_with fail
            exact ⟨⟨x + 1, A4, d4, A5, d5, by omega, by go_num, HT3.out⟩, by simp [intOf]; omega⟩
        · obtain rfl : x = W := by omega
          go_wp2_with fail
          exact ⟨⟨y + 1, A, ca, B, cb, by omega, by go_num, by rw [← rowPic_full]; exact HT.out⟩, by simp [intOf]; omega⟩
    · have e : y = H := by omega
      rw [e] at HT0
      clear e
      have hE1 := HT0.out.E
      have k9 := HT0.out.kA
      have k10 := HT0.out.kB
      have rA := Lib.hid (row_reads' HT0.out.oA (rowPic_length ..))
      have rB := Lib.hid (row_reads' HT0.out.oB (rowPic_length ..))
      have hHW : H * W ≤ 30 * 8 := Nat.mul_le_mul h4 h2
      have hxa : ∀ x ∈ rowPic W wasRow (H * W), 0 ≤ x ∧ x ≤ 4294967295 := rowPic_bd fun k hk => by unfold wasRow; omega
      have hxb : ∀ x ∈ rowPic W (isRow H b) (H * W), 0 ≤ x ∧ x ≤ 4294967295 := rowPic_bd fun k hk => by unfold isRow; split <;> omega
      have HXA := Lib.hid hxa
      have HXB := Lib.hid hxb
      clear HT0 hxa hxb
      go_upto_region 17 with fail
      clear hlt hy
      obtain ⟨w1, hw1⟩ : ∃ z, z = wr.alloc (.cells #[.int .i64 0, .int .i64 0, .int .i64 W, .int .i64 H] 26) := ⟨_, rfl⟩
      obtain ⟨PL, hPL⟩ : ∃ z, wr.heap.size = z := ⟨_, rfl⟩
      have kL : w1.heap[PL]? = some (.cells #[.int .i64 0, .int .i64 0, .int .i64 W, .int .i64 H] 26 (0, 0)) := by rw [hw1, ← hPL]; exact blk_new wr _
      have E : Ext wr w1 := by rw [hw1]; exact (Ext.refl wr).alloc _
      rw [← hw1]
      simp only [hPL]
      clear hw1 hPL
      replace k9 := E.keep k9
      replace k10 := E.keep k10
      replace rA := Lib.hid (rA.out.ext E)
      replace rB := Lib.hid (rB.out.ext E)
      have hE := hE1.trans E
      clear E hE1
      refine sameS _ _ _ _ _ _ _ _ _ _ _ _ _ _ _ _ _ _ _ _ _ _ _ _ _ _ _ _ _ _ _ _ _ _ _ _ _ _ _ _ _ _ _ _ _ _ _ _ _ _ _ _ _ _ _ _ _ _ _ _ _ _ _ _ _ _ _ _ _ _ _ _ _ _ _ _ _ _ _ _ _ _ _ _ _ _ _ _ _ _ _ _ _ _ _ _ _ _ _ _ _ _ _ _ _ _ _ _ _ _ _ _ _ _ _ _ _ _ _ _ _ _ _ _ _ _ _ _ _ _ _ _ _ _ _ _ _ _ _ _ _ _ _ _ _ _ _ _ _ _ _ _ _ _ _ _ _ _ _ _ _ _ w1 w.heap.size PL W H (H * W) ca A (rowPic W wasRow (H * W)) (rowPic_length ..) ⟨0, 0, W, H⟩ lA lc l hl HXA.out rA (Lib.hid (RL.out.ext hE)) _ _ k9 kL ?_
      intro _ _ _ _ _ _ _ _ _ G w2 E
      replace k9 := E.keep k9
      replace k10 := E.keep k10
      replace kL := E.keep kL
      replace rA := Lib.hid (rA.out.ext E)
      replace rB := Lib.hid (rB.out.ext E)
      replace hE := hE.trans E
      clear E RL hl
      obtain ⟨c9, f9⟩ := blk_rules k9
      obtain ⟨c10, f10⟩ := blk_rules k10
      have hc := scroll_any A B (some ⟨PL, 0, none⟩) ca cb 1 W H W H (rowPic W wasRow (H * W)) (rowPic W (isRow H b) (H * W)) [⟨0, 0, W, H⟩] w2 rA.out rB.out HXA.out HXB.out (rects_block kL rfl) (by simp)
      have hbx := box_all h1 (show W ≤ 256 by omega) (show 1 ≤ H by omega) (show H ≤ 256 by omega)
      simp only [rowPic_length] at hc
      rw [hbx.2] at hc
      clear rA rB HXA HXB k9 k10 kL
      by_cases hb0 : b = 0
      · subst hb0
        rw [rowPic_still, scroll_same] at hc
        have C := Lib.hid (hc.mono fun e w' h => GivesC.non' h rfl)
        clear hc hbx
        go_wp2_with fail
        refine C.out.mono ?_
        rintro e w3 ⟨rfl, E⟩
        replace hE := hE.trans E
        clear E C c9 f9 c10 f10
        go_wp2_with fail
        refine (wakes18_any _).mono ?_
        rintro e w4 ⟨rfl, E⟩
        go_wp2_with fail
        go_ret
        exact ⟨rfl, hE.trans (Ext.of_alloc E)⟩
      · have hb1 : (b == 0) = false := by simpa using hb0
        rw [scroll_moves h1 h2 h3 h4 b1 b2 hb0] at hc
        have hma := moves_area h1 h2 h3 h4 b1 b2 hb0
        obtain ⟨M, hM⟩ : ∃ M, mx b (-b) = M := ⟨_, rfl⟩
        have hM2 : max b (-b) = M := by rw [← mx_eq]; exact hM
        have hMb : 1 ≤ M ∧ M ≤ 15 := by omega
        obtain ⟨Y, hY⟩ : ∃ Y, max 0 b = Y := ⟨_, rfl⟩
        rw [hM2, hY] at hma
        have C := Lib.hid (hc.mono fun e w' h => GivesC.form h hma.1 (show cpBy (some (stepOf b)) = (0, b) from stepOf_at hb0) rfl)
        have cA := fun w => area_any 0 Y W ((H : Int) - M) w
        simp only [hma.2] at cA
        have hWM : 0 ≤ (W : Int) * ((H : Int) - M) ∧ (W : Int) * ((H : Int) - M) ≤ 8 * 30 := by
          constructor
          · exact Int.mul_nonneg (by omega) (by omega)
          · exact Int.mul_le_mul (by omega) (by omega) (by omega) (by omega)
        have t1 : IntKind.i64.wrap (-b) = -b := IntWalk.i64_in _ (by omega)
        have t2 : IntKind.i64.wrap ((H : Int) - M) = (H : Int) - M := IntWalk.i64_in _ (by omega)
        have t3 : IntKind.i64.wrap ((W : Int) * ((H : Int) - M)) = (W : Int) * ((H : Int) - M) := IntWalk.i64_in _ (by omega)
        clear hc hbx hma hM2 hMb hY hWM
        go_wp2_with fail
        refine C.out.mono ?_
        rintro e w3 ⟨rfl, E⟩
        replace hE := hE.trans E
        clear E C c9 f9 c10 f10
        go_wp2_with fail
        refine (cA _).mono ?_
        rintro e w4 ⟨rfl, E⟩
        replace hE := hE.trans (Ext.of_alloc E)
        clear E
        go_wp2_with fail
        refine (wakes18_any _).mono ?_
        rintro e w5 ⟨rfl, E⟩
        go_wp2_with fail
        go_ret
        exact ⟨rfl, hE.trans E⟩
set_option maxRecDepth 100000 in
set_option maxHeartbeats 4000000 in
theorem moves_any (W H b : Int) (lA : Option Addr) (lc : Nat) (l : List Rect) (w : World) (rl : RectsAt w lA l) :
    Calls Try.prog 9 #[.int .i64 W, .int .i64 H, .int .i64 b, .slice lA l.length lc] w fun e w' => e = .returned (.bool true) ∧ Ext w w' := by
  by_cases e0 : W < 1
  · have d1 : (W < 1) = True := eq_true e0
    clear rl e0
    go_enter Try.func9, Try.ntmps9
    go_wp2_with fail
    refine (wakes18_any _).mono ?_
    rintro e w1 ⟨rfl, E⟩
    go_wp2_with fail
    go_ret
    exact ⟨rfl, E⟩
  have d1 : (W < 1) = False := eq_false e0
  by_cases e1 : 8 < W
  · have d2 : (8 < W) = True := eq_true e1
    clear rl e1
    go_enter Try.func9, Try.ntmps9
    go_wp2_with fail
    refine (wakes18_any _).mono ?_
    rintro e w1 ⟨rfl, E⟩
    go_wp2_with fail
    go_ret
    exact ⟨rfl, E⟩
  have d2 : (8 < W) = False := eq_false e1
  by_cases e2 : H < 2
  · have d3 : (H < 2) = True := eq_true e2
    clear rl e2
    go_enter Try.func9, Try.ntmps9
    go_wp2_with fail
    refine (wakes18_any _).mono ?_
    rintro e w1 ⟨rfl, E⟩
    go_wp2_with fail
    go_ret
    exact ⟨rfl, E⟩
  have d3 : (H < 2) = False := eq_false e2
  by_cases e3 : 30 < H
  · have d4 : (30 < H) = True := eq_true e3
    clear rl e3
    go_enter Try.func9, Try.ntmps9
    go_wp2_with fail
    refine (wakes18_any _).mono ?_
    rintro e w1 ⟨rfl, E⟩
    go_wp2_with fail
    go_ret
    exact ⟨rfl, E⟩
  have d4 : (30 < H) = False := eq_false e3
  have s0 : IntKind.i64.wrap (-H) = -H := IntWalk.i64_in _ (by omega)
  have q1 : (-H).tdiv 2 = -(H.tdiv 2) := Int.neg_tdiv ..
  have q2 : H.tdiv 2 = H / 2 := Int.tdiv_eq_ediv_of_nonneg (by omega)
  have w5 : IntKind.i64.wrap (-(H.tdiv 2)) = -(H.tdiv 2) := IntWalk.i64_in _ (by omega)
  have w6 : IntKind.i64.wrap (H.tdiv 2) = H.tdiv 2 := IntWalk.i64_in _ (by omega)
  have Q1 := Lib.hid q1
  have Q2 := Lib.hid q2
  clear q1 q2
  by_cases e4 : b < -(H.tdiv 2)
  · have d5 : (b < -(H.tdiv 2)) = True := eq_true e4
    clear rl e4
    go_enter Try.func9, Try.ntmps9
    go_wp2_with fail
    refine (wakes18_any _).mono ?_
    rintro e w1 ⟨rfl, E⟩
    go_wp2_with fail
    go_ret
    exact ⟨rfl, E⟩
  have d5 : (b < -(H.tdiv 2)) = False := eq_false e4
  by_cases e5 : H.tdiv 2 < b
  · have d6 : (H.tdiv 2 < b) = True := eq_true e5
    clear rl e5
    go_enter Try.func9, Try.ntmps9
    go_wp2_with fail
    refine (wakes18_any _).mono ?_
    rintro e w1 ⟨rfl, E⟩
    go_wp2_with fail
    go_ret
    exact ⟨rfl, E⟩
  have d6 : (H.tdiv 2 < b) = False := eq_false e5
  by_cases e6 : (16 : Int) < l.length
  · have d7 : ((16 : Int) < l.length) = True := eq_true e6
    clear rl e6
    go_enter Try.func9, Try.ntmps9
    go_wp2_with fail
    refine (wakes18_any _).mono ?_
    rintro e w1 ⟨rfl, E⟩
    go_wp2_with fail
    go_ret
    exact ⟨rfl, E⟩
  have d7 : ((16 : Int) < l.length) = False := eq_false e6
  have q1 := Q1.out
  have q2 := Q2.out
  obtain ⟨Wn, rfl⟩ : ∃ n : Nat, W = n := ⟨W.toNat, by omega⟩
  obtain ⟨Hn, rfl⟩ : ∃ n : Nat, H = n := ⟨H.toNat, by omega⟩
  exact moves_in Wn Hn b lA lc l w (by omega) (by omega) (by omega) (by omega) (by omega) (by omega) (by omega) rl (by rw [q1]; exact d5) d6 (by rw [q1]; exact w5) w6
end Go.Proofs.Ytjghghbldifhaaa
