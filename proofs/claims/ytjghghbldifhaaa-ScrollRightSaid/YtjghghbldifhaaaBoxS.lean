/- The box of scroll.Find. Printed by gen_box.py. -/
import Derived.Test.YtjghghbldifhaaaToP
import Derived.Test.YtjghghbldifhaaaScrC
import Derived.Test.YtjghghbldifhaaaRegX
set_option linter.unusedVariables false
set_option linter.unusedSimpArgs false
namespace Go.Proofs.Ytjghghbldifhaaa
open Go.RowKit Go.Shelf
noncomputable def boxC : Code := (Try.f52.body.bind (findRegionR 5)).getD .skip
set_option maxRecDepth 100000 in
set_option maxHeartbeats 16000000 in
theorem boxS (c0 c1 c3 c4 c5 c6 c7 c9 c10 c11 c12 c13 c14 c15 c16 c17 c18 c19 c20 c21 c22 c23 c24 c25 c26 c27 c28 c29 c30 c31 c32 c33 c34 c35 c36 c37 c38 c39 c40 c41 c42 c43 c44 c45 c46 c47 c48 c49 c50 c51 c52 c53 c54 c55 c56 c57 c58 c59 c60 c61 c62 c63 c64 c65 c66 c67 c68 c69 c70 c71 c72 c73 c74 c75 c76 c77 c78 c79 c80 c81 c82 c83 c84 c85 c86 c87 c88 c89 : Value) (w : World) (P8 base bb bp cap : Nat) (W H : Int) (px : List Int) (lA : Option Addr) (lc : Nat) (l Z : List Rect) (bx : Rect) (hZ : listOf 2 l [⟨0, 0, W, H⟩] = Z) (hbx : boundsL Z = bx) (hZl : Z.length ≤ 1000000) (hl : l.length ≤ 100000) (hB : Hid (BufAt 117 58 w base bb bp cap W H px)) (rl : Hid (RectsAt w lA l)) (K : Act → World → Prop) (Q' : Exit → Act → World → Prop)
    (k8 : w.heap[P8]? = some (.cells #[.pointer (some ⟨bb, 0, none⟩)] 60 (0, 0)))
    (hK : ∀ (u48 u49 u50 u51 u52 u53 u54 u55 u56 : Value) (G : Nat) (w' : World), w'.heap[G]? = some (.cells #[.int .i64 bx.x, .int .i64 bx.y, .int .i64 bx.w, .int .i64 bx.h] 26 (0, 0)) → w.heap.size ≤ G → Ext w w' → K { tmps := #[c0, c1, .slice lA l.length lc, c3, c4, c5, c6, c7, .pointer (some ⟨P8, 0, none⟩), c9, c10, c11, .pointer (some ⟨G, 0, none⟩), c13, c14, c15, c16, c17, c18, c19, c20, c21, c22, c23, c24, c25, c26, c27, c28, c29, c30, c31, c32, c33, c34, c35, c36, c37, c38, c39, c40, c41, c42, c43, c44, c45, c46, c47, u48, u49, u50, u51, u52, u53, u54, u55, u56, c57, c58, c59, c60, c61, c62, c63, c64, c65, c66, c67, c68, c69, c70, c71, c72, c73, c74, c75, c76, c77, c78, c79, c80, c81, c82, c83, c84, c85, c86, c87, c88, c89], defers := [] } w') :
    Code.wp Try.prog boxC (Exit.then K Q') { tmps := #[c0, c1, .slice lA l.length lc, c3, c4, c5, c6, c7, .pointer (some ⟨P8, 0, none⟩), c9, c10, c11, c12, c13, c14, c15, c16, c17, c18, c19, c20, c21, c22, c23, c24, c25, c26, c27, c28, c29, c30, c31, c32, c33, c34, c35, c36, c37, c38, c39, c40, c41, c42, c43, c44, c45, c46, c47, c48, c49, c50, c51, c52, c53, c54, c55, c56, c57, c58, c59, c60, c61, c62, c63, c64, c65, c66, c67, c68, c69, c70, c71, c72, c73, c74, c75, c76, c77, c78, c79, c80, c81, c82, c83, c84, c85, c86, c87, c88, c89], defers := [] } w := by
  conv => arg 2; whnf
  have HZ := Lib.hid hZ
  have HBX := Lib.hid hbx
  clear hZ hbx
  have j1 := After.blk k8
  refine wp_region_sched (fun w' => ∃ x : After w, w' = x.now) (by kernel_rfl) ?_
  refine held_take [0, 1, 3] _ _ 8 rfl (by kernel_rfl) rfl (by kernel_rfl) ⟨⟨w.drew, (Ext.refl w).drew⟩, rfl⟩ ?_
  simp only [List.filterMap_cons, List.filterMap_nil, List.getElem?_toArray, List.getElem?_cons_succ, List.getElem?_cons_zero]
  repeat (quiet_step (fail))
  refine wpQuiet_nil ?_
  clear j1 k8
  change wpAnyH _ _ _ _ _ _ _ _ w.drew
  have hE0 : Ext w w.drew := (Ext.refl w).drew
  generalize w.drew = w0 at *
  refine held_two' (k1 := 2) (k2 := 9) rfl rfl (by kernel_rfl) ?_ ?_
  · go_wp2_with fail
    refine (w_any (hB.out.ext hE0)).mono ?_
    rintro e w1 ⟨rfl, E0⟩
    have E : Ext w0 w1 := E0 ▸ Ext.refl _
    clear E0
    have hE1 := hE0.trans E
    clear E
    go_wp2_with fail
    refine ⟨⟨⟨w1, hE1⟩, rfl⟩, ?_⟩
    refine held_two' (k1 := 4) (k2 := 9) rfl rfl (by kernel_rfl) ?_ ?_
    · go_wp2_with fail
      refine (h_any (hB.out.ext hE1)).mono ?_
      rintro e w2 ⟨rfl, E0⟩
      have E : Ext w1 w2 := E0 ▸ Ext.refl _
      clear E0
      have hE2 := hE1.trans E
      clear E
      go_wp2_with fail
      refine ⟨⟨⟨w2, hE2⟩, rfl⟩, ?_⟩
      refine held_two' (k1 := 5) (k2 := 9) rfl rfl (by kernel_rfl) ?_ ?_
      · go_wp2_with fail
        refine ⟨⟨⟨w2, hE2⟩, rfl⟩, ?_⟩
        refine held_two' (k1 := 6) (k2 := 9) rfl rfl (by kernel_rfl) ?_ ?_
        · go_wp2_with fail
          obtain ⟨w3, hw3⟩ : ∃ x, x = w2.alloc (.cells #[.int .i64 0, .int .i64 0, .int .i64 W, .int .i64 H] 26) := ⟨_, rfl⟩
          have kA : w3.heap[w2.heap.size]? = some (.cells #[.int .i64 0, .int .i64 0, .int .i64 W, .int .i64 H] 26 (0, 0)) := by rw [hw3]; exact blk_new _ _
          have E : Ext w2 w3 := by rw [hw3]; exact (Ext.refl _).alloc _
          have hE3 : Ext w w3 := hE2.trans E
          obtain ⟨SA, hSA⟩ : ∃ x, w2.heap.size = x := ⟨_, rfl⟩
          rw [← hw3]
          simp only [hSA] at kA ⊢
          clear hw3 hSA E
          refine ⟨⟨⟨w3, hE3⟩, rfl⟩, ?_⟩
          refine held_two' (k1 := 7) (k2 := 9) rfl rfl (by kernel_rfl) ?_ ?_
          · go_wp2_with fail
            refine (and_to HZ.out (Lib.hid (rl.out.ext hE3)) (Lib.hid (rects_block kA rfl)) (by omega) (by simp)).mono ?_
            rintro e w4 ⟨BZ, dZ, rfl, oZ, nZ, E⟩
            have RZ := Lib.hid (OwnR.at oZ)
            have hE4 := hE3.trans E
            clear E oZ nZ kA
            go_wp2_with fail
            refine ⟨⟨⟨w4, hE4⟩, rfl⟩, ?_⟩
            refine held_two' (k1 := 8) (k2 := 9) rfl rfl (by kernel_rfl) ?_ ?_
            · go_wp2_with fail
              refine (bounds_to HBX.out RZ (by omega)).mono ?_
              rintro e w5 ⟨rfl, E⟩
              have hE5 := hE4.trans E
              clear E RZ
              go_wp2_with fail
              refine ⟨⟨⟨w5, hE5⟩, rfl⟩, ?_⟩
              refine held_step (k := 9) rfl (by kernel_rfl) ?_
              go_wp2_with fail
              obtain ⟨w6, hw6⟩ : ∃ x, x = w5.alloc (.cells #[.int .i64 0, .int .i64 0, .int .i64 0, .int .i64 0] 26) := ⟨_, rfl⟩
              have kG : w6.heap[w5.heap.size]? = some (.cells #[.int .i64 0, .int .i64 0, .int .i64 0, .int .i64 0] 26 (0, 0)) := by rw [hw6]; exact blk_new _ _
              have E : Ext w5 w6 := by rw [hw6]; exact (Ext.refl _).alloc _
              have hE6 : Ext w w6 := hE5.trans E
              have gG := hE5.size
              obtain ⟨G, hG⟩ : ∃ x, w5.heap.size = x := ⟨_, rfl⟩
              rw [← hw6]
              simp only [hG] at kG gG ⊢
              clear hw6 hG E
              refine ⟨⟨⟨w6, hE6⟩, rfl⟩, ?_⟩
              obtain ⟨z1, y1⟩ := blk_rules kG
              have lG := blk_lt kG
              refine held_step (k := 10) rfl (by kernel_rfl) ?_
              go_wp2_with fail
              have hEf := (((hE6.set (p := ⟨G, 0, none⟩) gG (.int .i64 bx.x)).set (p := ⟨G, 1, none⟩) gG (.int .i64 bx.y)).set (p := ⟨G, 2, none⟩) gG (.int .i64 bx.w)).set (p := ⟨G, 3, none⟩) gG (.int .i64 bx.h)
              refine ⟨⟨⟨_, hEf⟩, rfl⟩, ?_⟩
              refine held_done (by kernel_rfl) ?_
              refine hK _ _ _ _ _ _ _ _ _ G _ ?_ gG hEf
              simpa using blk_set (blk_set (blk_set (blk_set kG 0 (.int .i64 bx.x)) 1 (.int .i64 bx.y)) 2 (.int .i64 bx.w)) 3 (.int .i64 bx.h)
            · go_wp2_with fail
              obtain ⟨w5, hw5⟩ : ∃ x, x = w4.alloc (.cells #[.int .i64 0, .int .i64 0, .int .i64 0, .int .i64 0] 26) := ⟨_, rfl⟩
              have kG : w5.heap[w4.heap.size]? = some (.cells #[.int .i64 0, .int .i64 0, .int .i64 0, .int .i64 0] 26 (0, 0)) := by rw [hw5]; exact blk_new _ _
              have E : Ext w4 w5 := by rw [hw5]; exact (Ext.refl _).alloc _
              replace RZ := Lib.hid (RZ.out.ext E)
              have hE5 : Ext w w5 := hE4.trans E
              have gG := hE4.size
              obtain ⟨G, hG⟩ : ∃ x, w4.heap.size = x := ⟨_, rfl⟩
              rw [← hw5]
              simp only [hG] at kG gG ⊢
              clear hw5 hG E
              refine ⟨⟨⟨w5, hE5⟩, rfl⟩, ?_⟩
              refine held_step (k := 8) rfl (by kernel_rfl) ?_
              go_wp2_with fail
              refine (bounds_to HBX.out RZ (by omega)).mono ?_
              rintro e w6 ⟨rfl, E⟩
              replace kG := E.keep kG
              have hE6 := hE5.trans E
              clear E RZ
              go_wp2_with fail
              refine ⟨⟨⟨w6, hE6⟩, rfl⟩, ?_⟩
              obtain ⟨z1, y1⟩ := blk_rules kG
              have lG := blk_lt kG
              refine held_step (k := 10) rfl (by kernel_rfl) ?_
              go_wp2_with fail
              have hEf := (((hE6.set (p := ⟨G, 0, none⟩) gG (.int .i64 bx.x)).set (p := ⟨G, 1, none⟩) gG (.int .i64 bx.y)).set (p := ⟨G, 2, none⟩) gG (.int .i64 bx.w)).set (p := ⟨G, 3, none⟩) gG (.int .i64 bx.h)
              refine ⟨⟨⟨_, hEf⟩, rfl⟩, ?_⟩
              refine held_done (by kernel_rfl) ?_
              refine hK _ _ _ _ _ _ _ _ _ G _ ?_ gG hEf
              simpa using blk_set (blk_set (blk_set (blk_set kG 0 (.int .i64 bx.x)) 1 (.int .i64 bx.y)) 2 (.int .i64 bx.w)) 3 (.int .i64 bx.h)
          · go_wp2_with fail
            obtain ⟨w4, hw4⟩ : ∃ x, x = w3.alloc (.cells #[.int .i64 0, .int .i64 0, .int .i64 0, .int .i64 0] 26) := ⟨_, rfl⟩
            have kG : w4.heap[w3.heap.size]? = some (.cells #[.int .i64 0, .int .i64 0, .int .i64 0, .int .i64 0] 26 (0, 0)) := by rw [hw4]; exact blk_new _ _
            have E : Ext w3 w4 := by rw [hw4]; exact (Ext.refl _).alloc _
            replace kA := E.keep kA
            have hE4 : Ext w w4 := hE3.trans E
            have gG := hE3.size
            obtain ⟨G, hG⟩ : ∃ x, w3.heap.size = x := ⟨_, rfl⟩
            rw [← hw4]
            simp only [hG] at kG gG ⊢
            clear hw4 hG E
            refine ⟨⟨⟨w4, hE4⟩, rfl⟩, ?_⟩
            refine held_step (k := 7) rfl (by kernel_rfl) ?_
            go_wp2_with fail
            refine (and_to HZ.out (Lib.hid (rl.out.ext hE4)) (Lib.hid (rects_block kA rfl)) (by omega) (by simp)).mono ?_
            rintro e w5 ⟨BZ, dZ, rfl, oZ, nZ, E⟩
            have RZ := Lib.hid (OwnR.at oZ)
            replace kG := E.keep kG
            have hE5 := hE4.trans E
            clear E oZ nZ kA
            go_wp2_with fail
            refine ⟨⟨⟨w5, hE5⟩, rfl⟩, ?_⟩
            refine held_step (k := 8) rfl (by kernel_rfl) ?_
            go_wp2_with fail
            refine (bounds_to HBX.out RZ (by omega)).mono ?_
            rintro e w6 ⟨rfl, E⟩
            replace kG := E.keep kG
            have hE6 := hE5.trans E
            clear E RZ
            go_wp2_with fail
            refine ⟨⟨⟨w6, hE6⟩, rfl⟩, ?_⟩
            obtain ⟨z1, y1⟩ := blk_rules kG
            have lG := blk_lt kG
            refine held_step (k := 10) rfl (by kernel_rfl) ?_
            go_wp2_with fail
            have hEf := (((hE6.set (p := ⟨G, 0, none⟩) gG (.int .i64 bx.x)).set (p := ⟨G, 1, none⟩) gG (.int .i64 bx.y)).set (p := ⟨G, 2, none⟩) gG (.int .i64 bx.w)).set (p := ⟨G, 3, none⟩) gG (.int .i64 bx.h)
            refine ⟨⟨⟨_, hEf⟩, rfl⟩, ?_⟩
            refine held_done (by kernel_rfl) ?_
            refine hK _ _ _ _ _ _ _ _ _ G _ ?_ gG hEf
            simpa using blk_set (blk_set (blk_set (blk_set kG 0 (.int .i64 bx.x)) 1 (.int .i64 bx.y)) 2 (.int .i64 bx.w)) 3 (.int .i64 bx.h)
        · go_wp2_with fail
          obtain ⟨w3, hw3⟩ : ∃ x, x = w2.alloc (.cells #[.int .i64 0, .int .i64 0, .int .i64 0, .int .i64 0] 26) := ⟨_, rfl⟩
          have kG : w3.heap[w2.heap.size]? = some (.cells #[.int .i64 0, .int .i64 0, .int .i64 0, .int .i64 0] 26 (0, 0)) := by rw [hw3]; exact blk_new _ _
          have E : Ext w2 w3 := by rw [hw3]; exact (Ext.refl _).alloc _
          have hE3 : Ext w w3 := hE2.trans E
          have gG := hE2.size
          obtain ⟨G, hG⟩ : ∃ x, w2.heap.size = x := ⟨_, rfl⟩
          rw [← hw3]
          simp only [hG] at kG gG ⊢
          clear hw3 hG E
          refine ⟨⟨⟨w3, hE3⟩, rfl⟩, ?_⟩
          refine held_step (k := 6) rfl (by kernel_rfl) ?_
          go_wp2_with fail
          obtain ⟨w4, hw4⟩ : ∃ x, x = w3.alloc (.cells #[.int .i64 0, .int .i64 0, .int .i64 W, .int .i64 H] 26) := ⟨_, rfl⟩
          have kA : w4.heap[w3.heap.size]? = some (.cells #[.int .i64 0, .int .i64 0, .int .i64 W, .int .i64 H] 26 (0, 0)) := by rw [hw4]; exact blk_new _ _
          have E : Ext w3 w4 := by rw [hw4]; exact (Ext.refl _).alloc _
          replace kG := E.keep kG
          have hE4 : Ext w w4 := hE3.trans E
          obtain ⟨SA, hSA⟩ : ∃ x, w3.heap.size = x := ⟨_, rfl⟩
          rw [← hw4]
          simp only [hSA] at kA ⊢
          clear hw4 hSA E
          refine ⟨⟨⟨w4, hE4⟩, rfl⟩, ?_⟩
          refine held_step (k := 7) rfl (by kernel_rfl) ?_
          go_wp2_with fail
          refine (and_to HZ.out (Lib.hid (rl.out.ext hE4)) (Lib.hid (rects_block kA rfl)) (by omega) (by simp)).mono ?_
          rintro e w5 ⟨BZ, dZ, rfl, oZ, nZ, E⟩
          have RZ := Lib.hid (OwnR.at oZ)
          replace kG := E.keep kG
          have hE5 := hE4.trans E
          clear E oZ nZ kA
          go_wp2_with fail
          refine ⟨⟨⟨w5, hE5⟩, rfl⟩, ?_⟩
          refine held_step (k := 8) rfl (by kernel_rfl) ?_
          go_wp2_with fail
          refine (bounds_to HBX.out RZ (by omega)).mono ?_
          rintro e w6 ⟨rfl, E⟩
          replace kG := E.keep kG
          have hE6 := hE5.trans E
          clear E RZ
          go_wp2_with fail
          refine ⟨⟨⟨w6, hE6⟩, rfl⟩, ?_⟩
          obtain ⟨z1, y1⟩ := blk_rules kG
          have lG := blk_lt kG
          refine held_step (k := 10) rfl (by kernel_rfl) ?_
          go_wp2_with fail
          have hEf := (((hE6.set (p := ⟨G, 0, none⟩) gG (.int .i64 bx.x)).set (p := ⟨G, 1, none⟩) gG (.int .i64 bx.y)).set (p := ⟨G, 2, none⟩) gG (.int .i64 bx.w)).set (p := ⟨G, 3, none⟩) gG (.int .i64 bx.h)
          refine ⟨⟨⟨_, hEf⟩, rfl⟩, ?_⟩
          refine held_done (by kernel_rfl) ?_
          refine hK _ _ _ _ _ _ _ _ _ G _ ?_ gG hEf
          simpa using blk_set (blk_set (blk_set (blk_set kG 0 (.int .i64 bx.x)) 1 (.int .i64 bx.y)) 2 (.int .i64 bx.w)) 3 (.int .i64 bx.h)
      · go_wp2_with fail
        obtain ⟨w3, hw3⟩ : ∃ x, x = w2.alloc (.cells #[.int .i64 0, .int .i64 0, .int .i64 0, .int .i64 0] 26) := ⟨_, rfl⟩
        have kG : w3.heap[w2.heap.size]? = some (.cells #[.int .i64 0, .int .i64 0, .int .i64 0, .int .i64 0] 26 (0, 0)) := by rw [hw3]; exact blk_new _ _
        have E : Ext w2 w3 := by rw [hw3]; exact (Ext.refl _).alloc _
        have hE3 : Ext w w3 := hE2.trans E
        have gG := hE2.size
        obtain ⟨G, hG⟩ : ∃ x, w2.heap.size = x := ⟨_, rfl⟩
        rw [← hw3]
        simp only [hG] at kG gG ⊢
        clear hw3 hG E
        refine ⟨⟨⟨w3, hE3⟩, rfl⟩, ?_⟩
        refine held_step (k := 5) rfl (by kernel_rfl) ?_
        go_wp2_with fail
        refine ⟨⟨⟨w3, hE3⟩, rfl⟩, ?_⟩
        refine held_step (k := 6) rfl (by kernel_rfl) ?_
        go_wp2_with fail
        obtain ⟨w4, hw4⟩ : ∃ x, x = w3.alloc (.cells #[.int .i64 0, .int .i64 0, .int .i64 W, .int .i64 H] 26) := ⟨_, rfl⟩
        have kA : w4.heap[w3.heap.size]? = some (.cells #[.int .i64 0, .int .i64 0, .int .i64 W, .int .i64 H] 26 (0, 0)) := by rw [hw4]; exact blk_new _ _
        have E : Ext w3 w4 := by rw [hw4]; exact (Ext.refl _).alloc _
        replace kG := E.keep kG
        have hE4 : Ext w w4 := hE3.trans E
        obtain ⟨SA, hSA⟩ : ∃ x, w3.heap.size = x := ⟨_, rfl⟩
        rw [← hw4]
        simp only [hSA] at kA ⊢
        clear hw4 hSA E
        refine ⟨⟨⟨w4, hE4⟩, rfl⟩, ?_⟩
        refine held_step (k := 7) rfl (by kernel_rfl) ?_
        go_wp2_with fail
        refine (and_to HZ.out (Lib.hid (rl.out.ext hE4)) (Lib.hid (rects_block kA rfl)) (by omega) (by simp)).mono ?_
        rintro e w5 ⟨BZ, dZ, rfl, oZ, nZ, E⟩
        have RZ := Lib.hid (OwnR.at oZ)
        replace kG := E.keep kG
        have hE5 := hE4.trans E
        clear E oZ nZ kA
        go_wp2_with fail
        refine ⟨⟨⟨w5, hE5⟩, rfl⟩, ?_⟩
        refine held_step (k := 8) rfl (by kernel_rfl) ?_
        go_wp2_with fail
        refine (bounds_to HBX.out RZ (by omega)).mono ?_
        rintro e w6 ⟨rfl, E⟩
        replace kG := E.keep kG
        have hE6 := hE5.trans E
        clear E RZ
        go_wp2_with fail
        refine ⟨⟨⟨w6, hE6⟩, rfl⟩, ?_⟩
        obtain ⟨z1, y1⟩ := blk_rules kG
        have lG := blk_lt kG
        refine held_step (k := 10) rfl (by kernel_rfl) ?_
        go_wp2_with fail
        have hEf := (((hE6.set (p := ⟨G, 0, none⟩) gG (.int .i64 bx.x)).set (p := ⟨G, 1, none⟩) gG (.int .i64 bx.y)).set (p := ⟨G, 2, none⟩) gG (.int .i64 bx.w)).set (p := ⟨G, 3, none⟩) gG (.int .i64 bx.h)
        refine ⟨⟨⟨_, hEf⟩, rfl⟩, ?_⟩
        refine held_done (by kernel_rfl) ?_
        refine hK _ _ _ _ _ _ _ _ _ G _ ?_ gG hEf
        simpa using blk_set (blk_set (blk_set (blk_set kG 0 (.int .i64 bx.x)) 1 (.int .i64 bx.y)) 2 (.int .i64 bx.w)) 3 (.int .i64 bx.h)
    · go_wp2_with fail
      obtain ⟨w2, hw2⟩ : ∃ x, x = w1.alloc (.cells #[.int .i64 0, .int .i64 0, .int .i64 0, .int .i64 0] 26) := ⟨_, rfl⟩
      have kG : w2.heap[w1.heap.size]? = some (.cells #[.int .i64 0, .int .i64 0, .int .i64 0, .int .i64 0] 26 (0, 0)) := by rw [hw2]; exact blk_new _ _
      have E : Ext w1 w2 := by rw [hw2]; exact (Ext.refl _).alloc _
      have hE2 : Ext w w2 := hE1.trans E
      have gG := hE1.size
      obtain ⟨G, hG⟩ : ∃ x, w1.heap.size = x := ⟨_, rfl⟩
      rw [← hw2]
      simp only [hG] at kG gG ⊢
      clear hw2 hG E
      refine ⟨⟨⟨w2, hE2⟩, rfl⟩, ?_⟩
      refine held_step (k := 4) rfl (by kernel_rfl) ?_
      go_wp2_with fail
      refine (h_any (hB.out.ext hE2)).mono ?_
      rintro e w3 ⟨rfl, E0⟩
      have E : Ext w2 w3 := E0 ▸ Ext.refl _
      clear E0
      replace kG := E.keep kG
      have hE3 := hE2.trans E
      clear E
      go_wp2_with fail
      refine ⟨⟨⟨w3, hE3⟩, rfl⟩, ?_⟩
      refine held_step (k := 5) rfl (by kernel_rfl) ?_
      go_wp2_with fail
      refine ⟨⟨⟨w3, hE3⟩, rfl⟩, ?_⟩
      refine held_step (k := 6) rfl (by kernel_rfl) ?_
      go_wp2_with fail
      obtain ⟨w4, hw4⟩ : ∃ x, x = w3.alloc (.cells #[.int .i64 0, .int .i64 0, .int .i64 W, .int .i64 H] 26) := ⟨_, rfl⟩
      have kA : w4.heap[w3.heap.size]? = some (.cells #[.int .i64 0, .int .i64 0, .int .i64 W, .int .i64 H] 26 (0, 0)) := by rw [hw4]; exact blk_new _ _
      have E : Ext w3 w4 := by rw [hw4]; exact (Ext.refl _).alloc _
      replace kG := E.keep kG
      have hE4 : Ext w w4 := hE3.trans E
      obtain ⟨SA, hSA⟩ : ∃ x, w3.heap.size = x := ⟨_, rfl⟩
      rw [← hw4]
      simp only [hSA] at kA ⊢
      clear hw4 hSA E
      refine ⟨⟨⟨w4, hE4⟩, rfl⟩, ?_⟩
      refine held_step (k := 7) rfl (by kernel_rfl) ?_
      go_wp2_with fail
      refine (and_to HZ.out (Lib.hid (rl.out.ext hE4)) (Lib.hid (rects_block kA rfl)) (by omega) (by simp)).mono ?_
      rintro e w5 ⟨BZ, dZ, rfl, oZ, nZ, E⟩
      have RZ := Lib.hid (OwnR.at oZ)
      replace kG := E.keep kG
      have hE5 := hE4.trans E
      clear E oZ nZ kA
      go_wp2_with fail
      refine ⟨⟨⟨w5, hE5⟩, rfl⟩, ?_⟩
      refine held_step (k := 8) rfl (by kernel_rfl) ?_
      go_wp2_with fail
      refine (bounds_to HBX.out RZ (by omega)).mono ?_
      rintro e w6 ⟨rfl, E⟩
      replace kG := E.keep kG
      have hE6 := hE5.trans E
      clear E RZ
      go_wp2_with fail
      refine ⟨⟨⟨w6, hE6⟩, rfl⟩, ?_⟩
      obtain ⟨z1, y1⟩ := blk_rules kG
      have lG := blk_lt kG
      refine held_step (k := 10) rfl (by kernel_rfl) ?_
      go_wp2_with fail
      have hEf := (((hE6.set (p := ⟨G, 0, none⟩) gG (.int .i64 bx.x)).set (p := ⟨G, 1, none⟩) gG (.int .i64 bx.y)).set (p := ⟨G, 2, none⟩) gG (.int .i64 bx.w)).set (p := ⟨G, 3, none⟩) gG (.int .i64 bx.h)
      refine ⟨⟨⟨_, hEf⟩, rfl⟩, ?_⟩
      refine held_done (by kernel_rfl) ?_
      refine hK _ _ _ _ _ _ _ _ _ G _ ?_ gG hEf
      simpa using blk_set (blk_set (blk_set (blk_set kG 0 (.int .i64 bx.x)) 1 (.int .i64 bx.y)) 2 (.int .i64 bx.w)) 3 (.int .i64 bx.h)
  · go_wp2_with fail
    obtain ⟨w1, hw1⟩ : ∃ x, x = w0.alloc (.cells #[.int .i64 0, .int .i64 0, .int .i64 0, .int .i64 0] 26) := ⟨_, rfl⟩
    have kG : w1.heap[w0.heap.size]? = some (.cells #[.int .i64 0, .int .i64 0, .int .i64 0, .int .i64 0] 26 (0, 0)) := by rw [hw1]; exact blk_new _ _
    have E : Ext w0 w1 := by rw [hw1]; exact (Ext.refl _).alloc _
    have hE1 : Ext w w1 := hE0.trans E
    have gG := hE0.size
    obtain ⟨G, hG⟩ : ∃ x, w0.heap.size = x := ⟨_, rfl⟩
    rw [← hw1]
    simp only [hG] at kG gG ⊢
    clear hw1 hG E
    refine ⟨⟨⟨w1, hE1⟩, rfl⟩, ?_⟩
    refine held_step (k := 2) rfl (by kernel_rfl) ?_
    go_wp2_with fail
    refine (w_any (hB.out.ext hE1)).mono ?_
    rintro e w2 ⟨rfl, E0⟩
    have E : Ext w1 w2 := E0 ▸ Ext.refl _
    clear E0
    replace kG := E.keep kG
    have hE2 := hE1.trans E
    clear E
    go_wp2_with fail
    refine ⟨⟨⟨w2, hE2⟩, rfl⟩, ?_⟩
    refine held_step (k := 4) rfl (by kernel_rfl) ?_
    go_wp2_with fail
    refine (h_any (hB.out.ext hE2)).mono ?_
    rintro e w3 ⟨rfl, E0⟩
    have E : Ext w2 w3 := E0 ▸ Ext.refl _
    clear E0
    replace kG := E.keep kG
    have hE3 := hE2.trans E
    clear E
    go_wp2_with fail
    refine ⟨⟨⟨w3, hE3⟩, rfl⟩, ?_⟩
    refine held_step (k := 5) rfl (by kernel_rfl) ?_
    go_wp2_with fail
    refine ⟨⟨⟨w3, hE3⟩, rfl⟩, ?_⟩
    refine held_step (k := 6) rfl (by kernel_rfl) ?_
    go_wp2_with fail
    obtain ⟨w4, hw4⟩ : ∃ x, x = w3.alloc (.cells #[.int .i64 0, .int .i64 0, .int .i64 W, .int .i64 H] 26) := ⟨_, rfl⟩
    have kA : w4.heap[w3.heap.size]? = some (.cells #[.int .i64 0, .int .i64 0, .int .i64 W, .int .i64 H] 26 (0, 0)) := by rw [hw4]; exact blk_new _ _
    have E : Ext w3 w4 := by rw [hw4]; exact (Ext.refl _).alloc _
    replace kG := E.keep kG
    have hE4 : Ext w w4 := hE3.trans E
    obtain ⟨SA, hSA⟩ : ∃ x, w3.heap.size = x := ⟨_, rfl⟩
    rw [← hw4]
    simp only [hSA] at kA ⊢
    clear hw4 hSA E
    refine ⟨⟨⟨w4, hE4⟩, rfl⟩, ?_⟩
    refine held_step (k := 7) rfl (by kernel_rfl) ?_
    go_wp2_with fail
    refine (and_to HZ.out (Lib.hid (rl.out.ext hE4)) (Lib.hid (rects_block kA rfl)) (by omega) (by simp)).mono ?_
    rintro e w5 ⟨BZ, dZ, rfl, oZ, nZ, E⟩
    have RZ := Lib.hid (OwnR.at oZ)
    replace kG := E.keep kG
    have hE5 := hE4.trans E
    clear E oZ nZ kA
    go_wp2_with fail
    refine ⟨⟨⟨w5, hE5⟩, rfl⟩, ?_⟩
    refine held_step (k := 8) rfl (by kernel_rfl) ?_
    go_wp2_with fail
    refine (bounds_to HBX.out RZ (by omega)).mono ?_
    rintro e w6 ⟨rfl, E⟩
    replace kG := E.keep kG
    have hE6 := hE5.trans E
    clear E RZ
    go_wp2_with fail
    refine ⟨⟨⟨w6, hE6⟩, rfl⟩, ?_⟩
    obtain ⟨z1, y1⟩ := blk_rules kG
    have lG := blk_lt kG
    refine held_step (k := 10) rfl (by kernel_rfl) ?_
    go_wp2_with fail
    have hEf := (((hE6.set (p := ⟨G, 0, none⟩) gG (.int .i64 bx.x)).set (p := ⟨G, 1, none⟩) gG (.int .i64 bx.y)).set (p := ⟨G, 2, none⟩) gG (.int .i64 bx.w)).set (p := ⟨G, 3, none⟩) gG (.int .i64 bx.h)
    refine ⟨⟨⟨_, hEf⟩, rfl⟩, ?_⟩
    refine held_done (by kernel_rfl) ?_
    refine hK _ _ _ _ _ _ _ _ _ G _ ?_ gG hEf
    simpa using blk_set (blk_set (blk_set (blk_set kG 0 (.int .i64 bx.x)) 1 (.int .i64 bx.y)) 2 (.int .i64 bx.w)) 3 (.int .i64 bx.h)
end Go.Proofs.Ytjghghbldifhaaa
