/- A region of ScrollMoves. Printed by gen_same.py. -/
import Derived.Test.YtjghghbldifhaaaScrV
import Derived.Test.YtjghghbldifhaaaToP
set_option linter.unusedVariables false
set_option linter.unusedSimpArgs false
namespace Go.Proofs.Ytjghghbldifhaaa
open Go.RowKit Go.Shelf
theorem GivesC.non' {box : Rect} {o : Option Nat} {w : World} {e : Ending} {w' : World} (h : GivesC box o w e w') (ho : o = none) : e = .returned (.tuple #[.agg #[.int .i64 0, .int .i64 0, .int .i64 0, .int .i64 0, .int .i64 0, .int .i64 0], .bool false]) ∧ Ext w w' := by
  subst ho
  exact h
noncomputable def sameC : Code := (Try.f9.body.bind (findRegionR 17)).getD .skip
set_option maxRecDepth 100000 in
set_option maxHeartbeats 16000000 in
theorem sameS (c0 c1 c2 c4 c5 c6 c7 c8 c10 c11 c12 c13 c15 c16 c17 c18 c19 c20 c21 c22 c23 c24 c25 c26 c27 c28 c29 c30 c31 c32 c33 c34 c35 c36 c37 c38 c39 c40 c41 c42 c43 c44 c45 c46 c47 c48 c49 c50 c51 c52 c53 c54 c55 c56 c57 c58 c59 c60 c61 c62 c63 c64 c65 c66 c67 c68 c69 c70 c71 c72 c73 c74 c75 c76 c77 c78 c79 c80 c81 c82 c83 c84 c85 c86 c87 c88 c89 c90 c91 c92 c93 c94 c95 c96 c97 c98 c99 c100 c101 c102 c103 c104 c105 c106 c107 c108 c109 c110 c111 c112 c113 c114 c115 c116 c117 c118 c119 c120 c121 c122 c123 c124 c125 c126 c127 c128 c129 c130 c131 c132 c133 c134 c135 c136 c137 c138 c139 c140 c141 c142 c143 c144 c145 c146 c147 c148 c149 c150 c151 c152 c153 c154 c155 c156 c157 c158 c159 c160 c161 c162 c163 c164 : Value) (w : World) (P9 PL : Nat) (W H : Int) (n ca : Nat) (A : Option Addr) (xs : List Int) (hn : xs.length = n) (r : Rect) (lA : Option Addr) (lc : Nat) (l : List Rect) (hl : l.length ≤ 16) (hx : ∀ x ∈ xs, 0 ≤ x ∧ x ≤ 4294967295) (rx : Hid (Reads .u32 w A xs)) (rl : Hid (RectsAt w lA l)) (K : Act → World → Prop) (Q' : Exit → Act → World → Prop)
    (k9 : w.heap[P9]? = some (.cells #[.int .i64 W, .int .i64 H, .slice A n ca] 43 (0, 0)))
    (kL : w.heap[PL]? = some (.cells #[.int .i64 r.x, .int .i64 r.y, .int .i64 r.w, .int .i64 r.h] 26 (0, 0)))
    (hK : ∀ (u106 u107 u108 u109 u110 u111 u112 u113 u114 : Value) (G : Nat) (w' : World), Ext w w' → K { tmps := #[c0, c1, c2, .slice lA l.length lc, c4, c5, c6, c7, c8, .pointer (some ⟨P9, 0, none⟩), c10, c11, c12, c13, .slice (some ⟨PL, 0, none⟩) 1 1, .pointer (some ⟨G, 0, none⟩), .bool false, c17, c18, c19, c20, c21, c22, c23, c24, c25, c26, c27, c28, c29, c30, c31, c32, c33, c34, c35, c36, c37, c38, c39, c40, c41, c42, c43, c44, c45, c46, c47, c48, c49, c50, c51, c52, c53, c54, c55, c56, c57, c58, c59, c60, c61, c62, c63, c64, c65, c66, c67, c68, c69, c70, c71, c72, c73, c74, c75, c76, c77, c78, c79, c80, c81, c82, c83, c84, c85, c86, c87, c88, c89, c90, c91, c92, c93, c94, c95, c96, c97, c98, c99, c100, c101, c102, c103, c104, c105, u106, u107, u108, u109, u110, u111, u112, u113, u114, c115, c116, c117, c118, c119, c120, c121, c122, c123, c124, c125, c126, c127, c128, c129, c130, c131, c132, c133, c134, c135, c136, c137, c138, c139, c140, c141, c142, c143, c144, c145, c146, c147, c148, c149, c150, c151, c152, c153, c154, c155, c156, c157, c158, c159, c160, c161, c162, c163, c164], defers := [] } w') :
    Code.wp Try.prog sameC (Exit.then K Q') { tmps := #[c0, c1, c2, .slice lA l.length lc, c4, c5, c6, c7, c8, .pointer (some ⟨P9, 0, none⟩), c10, c11, c12, c13, .slice (some ⟨PL, 0, none⟩) 1 1, c15, c16, c17, c18, c19, c20, c21, c22, c23, c24, c25, c26, c27, c28, c29, c30, c31, c32, c33, c34, c35, c36, c37, c38, c39, c40, c41, c42, c43, c44, c45, c46, c47, c48, c49, c50, c51, c52, c53, c54, c55, c56, c57, c58, c59, c60, c61, c62, c63, c64, c65, c66, c67, c68, c69, c70, c71, c72, c73, c74, c75, c76, c77, c78, c79, c80, c81, c82, c83, c84, c85, c86, c87, c88, c89, c90, c91, c92, c93, c94, c95, c96, c97, c98, c99, c100, c101, c102, c103, c104, c105, c106, c107, c108, c109, c110, c111, c112, c113, c114, c115, c116, c117, c118, c119, c120, c121, c122, c123, c124, c125, c126, c127, c128, c129, c130, c131, c132, c133, c134, c135, c136, c137, c138, c139, c140, c141, c142, c143, c144, c145, c146, c147, c148, c149, c150, c151, c152, c153, c154, c155, c156, c157, c158, c159, c160, c161, c162, c163, c164], defers := [] } w := by
  conv => arg 2; whnf
  subst hn
  have HX := Lib.hid hx
  have KL := Lib.hid kL
  clear hx kL
  have j1 := After.blk k9
  refine wp_region_sched (fun w' => ∃ x : After w, w' = x.now) (by kernel_rfl) ?_
  refine held_take [0, 1, 2, 3] _ _ 8 rfl (by kernel_rfl) rfl (by kernel_rfl) ⟨⟨w.drew, (Ext.refl w).drew⟩, rfl⟩ ?_
  simp only [List.filterMap_cons, List.filterMap_nil, List.getElem?_toArray, List.getElem?_cons_succ, List.getElem?_cons_zero]
  repeat (quiet_step (fail))
  refine wpQuiet_nil ?_
  clear j1 k9
  change wpAnyH _ _ _ _ _ _ _ _ w.drew
  have hE0 : Ext w w.drew := (Ext.refl w).drew
  generalize w.drew = w0 at *
  refine held_two' (k1 := 4) (k2 := 9) rfl rfl (by kernel_rfl) ?_ ?_
  · obtain ⟨Bn, dn, w1, hr, rN, E⟩ := app_full w0 PL r (hE0.keep KL.out) lA lc l (rl.out.ext hE0) hl
    refine wpList_run rfl (.tmp 109) (.tmp 110) 22 rfl _ _ _ rfl rfl hr ?_
    replace rN := Lib.hid rN
    have hE1 := hE0.trans E
    clear E hr
    go_wp2_with fail
    refine ⟨⟨⟨w1, hE1⟩, rfl⟩, ?_⟩
    refine held_two' (k1 := 5) (k2 := 9) rfl rfl (by kernel_rfl) ?_ ?_
    · go_wp2_with fail
      refine ((scroll_any A A Bn ca ca dn W H W H xs xs (r :: l) _ (rx.out.ext hE1) (rx.out.ext hE1) HX.out HX.out rN.out (by simp only [List.length_cons]; omega)).mono fun e w' h => GivesC.non' h (scroll_same ..)).mono ?_
      rintro e w2 ⟨rfl, E⟩
      have hE2 := hE1.trans E
      clear E rN
      go_wp2_with fail
      refine ⟨⟨⟨w2, hE2⟩, rfl⟩, ?_⟩
      refine held_take [6, 7, 8] _ _ 3 rfl (by kernel_rfl) rfl (by kernel_rfl) ⟨⟨w2, hE2⟩, rfl⟩ ?_
      simp only [List.filterMap_cons, List.filterMap_nil, List.getElem?_toArray, List.getElem?_cons_succ, List.getElem?_cons_zero]
      repeat (quiet_step (fail))
      refine wpQuiet_nil ?_
      refine held_step (k := 9) rfl (by kernel_rfl) ?_
      go_wp2_with fail
      obtain ⟨w3, hw3⟩ : ∃ x, x = w2.alloc (.cells #[.int .i64 0, .int .i64 0, .int .i64 0, .int .i64 0, .int .i64 0, .int .i64 0] 54) := ⟨_, rfl⟩
      have kG : w3.heap[w2.heap.size]? = some (.cells #[.int .i64 0, .int .i64 0, .int .i64 0, .int .i64 0, .int .i64 0, .int .i64 0] 54 (0, 0)) := by rw [hw3]; exact blk_new _ _
      have E : Ext w2 w3 := by rw [hw3]; exact (Ext.refl _).alloc _
      have hE3 : Ext w w3 := hE2.trans E
      have gG := hE2.size
      obtain ⟨G, hG⟩ : ∃ x, w2.heap.size = x := ⟨_, rfl⟩
      rw [← hw3]
      simp only [hG] at kG gG ⊢
      clear hw3 hG E
      refine ⟨⟨⟨w3, hE3⟩, rfl⟩, ?_⟩
      obtain ⟨z1, y1⟩ := blk_rules kG
      have lG := blk_lt kG
      refine held_step (k := 10) rfl (by kernel_rfl) ?_
      go_wp2_with fail
      have hEf := ((((((hE3.set (p := ⟨G, 0, none⟩) gG (.int .i64 0)).set (p := ⟨G, 1, none⟩) gG (.int .i64 0)).set (p := ⟨G, 2, none⟩) gG (.int .i64 0)).set (p := ⟨G, 3, none⟩) gG (.int .i64 0)).set (p := ⟨G, 4, none⟩) gG (.int .i64 0)).set (p := ⟨G, 5, none⟩) gG (.int .i64 0))
      refine ⟨⟨⟨_, hEf⟩, rfl⟩, ?_⟩
      refine held_take [11] _ _ 0 rfl (by kernel_rfl) rfl (by kernel_rfl) ⟨⟨_, hEf⟩, rfl⟩ ?_
      simp only [List.filterMap_cons, List.filterMap_nil, List.getElem?_toArray, List.getElem?_cons_succ, List.getElem?_cons_zero]
      repeat (quiet_step (fail))
      refine wpQuiet_nil ?_
      refine held_done (by kernel_rfl) ?_
      exact hK _ _ _ _ _ _ _ _ _ G _ hEf
    · go_wp2_with fail
      obtain ⟨w2, hw2⟩ : ∃ x, x = w1.alloc (.cells #[.int .i64 0, .int .i64 0, .int .i64 0, .int .i64 0, .int .i64 0, .int .i64 0] 54) := ⟨_, rfl⟩
      have kG : w2.heap[w1.heap.size]? = some (.cells #[.int .i64 0, .int .i64 0, .int .i64 0, .int .i64 0, .int .i64 0, .int .i64 0] 54 (0, 0)) := by rw [hw2]; exact blk_new _ _
      have E : Ext w1 w2 := by rw [hw2]; exact (Ext.refl _).alloc _
      replace rN := Lib.hid (rN.out.ext E)
      have hE2 : Ext w w2 := hE1.trans E
      have gG := hE1.size
      obtain ⟨G, hG⟩ : ∃ x, w1.heap.size = x := ⟨_, rfl⟩
      rw [← hw2]
      simp only [hG] at kG gG ⊢
      clear hw2 hG E
      refine ⟨⟨⟨w2, hE2⟩, rfl⟩, ?_⟩
      refine held_step (k := 5) rfl (by kernel_rfl) ?_
      go_wp2_with fail
      refine ((scroll_any A A Bn ca ca dn W H W H xs xs (r :: l) _ (rx.out.ext hE2) (rx.out.ext hE2) HX.out HX.out rN.out (by simp only [List.length_cons]; omega)).mono fun e w' h => GivesC.non' h (scroll_same ..)).mono ?_
      rintro e w3 ⟨rfl, E⟩
      replace kG := E.keep kG
      have hE3 := hE2.trans E
      clear E rN
      go_wp2_with fail
      refine ⟨⟨⟨w3, hE3⟩, rfl⟩, ?_⟩
      refine held_take [6, 7, 8] _ _ 2 rfl (by kernel_rfl) rfl (by kernel_rfl) ⟨⟨w3, hE3⟩, rfl⟩ ?_
      simp only [List.filterMap_cons, List.filterMap_nil, List.getElem?_toArray, List.getElem?_cons_succ, List.getElem?_cons_zero]
      repeat (quiet_step (fail))
      refine wpQuiet_nil ?_
      obtain ⟨z1, y1⟩ := blk_rules kG
      have lG := blk_lt kG
      refine held_step (k := 10) rfl (by kernel_rfl) ?_
      go_wp2_with fail
      have hEf := ((((((hE3.set (p := ⟨G, 0, none⟩) gG (.int .i64 0)).set (p := ⟨G, 1, none⟩) gG (.int .i64 0)).set (p := ⟨G, 2, none⟩) gG (.int .i64 0)).set (p := ⟨G, 3, none⟩) gG (.int .i64 0)).set (p := ⟨G, 4, none⟩) gG (.int .i64 0)).set (p := ⟨G, 5, none⟩) gG (.int .i64 0))
      refine ⟨⟨⟨_, hEf⟩, rfl⟩, ?_⟩
      refine held_take [11] _ _ 0 rfl (by kernel_rfl) rfl (by kernel_rfl) ⟨⟨_, hEf⟩, rfl⟩ ?_
      simp only [List.filterMap_cons, List.filterMap_nil, List.getElem?_toArray, List.getElem?_cons_succ, List.getElem?_cons_zero]
      repeat (quiet_step (fail))
      refine wpQuiet_nil ?_
      refine held_done (by kernel_rfl) ?_
      exact hK _ _ _ _ _ _ _ _ _ G _ hEf
  · go_wp2_with fail
    obtain ⟨w1, hw1⟩ : ∃ x, x = w0.alloc (.cells #[.int .i64 0, .int .i64 0, .int .i64 0, .int .i64 0, .int .i64 0, .int .i64 0] 54) := ⟨_, rfl⟩
    have kG : w1.heap[w0.heap.size]? = some (.cells #[.int .i64 0, .int .i64 0, .int .i64 0, .int .i64 0, .int .i64 0, .int .i64 0] 54 (0, 0)) := by rw [hw1]; exact blk_new _ _
    have E : Ext w0 w1 := by rw [hw1]; exact (Ext.refl _).alloc _
    have hE1 : Ext w w1 := hE0.trans E
    have gG := hE0.size
    obtain ⟨G, hG⟩ : ∃ x, w0.heap.size = x := ⟨_, rfl⟩
    rw [← hw1]
    simp only [hG] at kG gG ⊢
    clear hw1 hG E
    refine ⟨⟨⟨w1, hE1⟩, rfl⟩, ?_⟩
    refine held_step (k := 4) rfl (by kernel_rfl) ?_
    obtain ⟨Bn, dn, w2, hr, rN, E⟩ := app_full w1 PL r (hE1.keep KL.out) lA lc l (rl.out.ext hE1) hl
    refine wpList_run rfl (.tmp 109) (.tmp 110) 22 rfl _ _ _ rfl rfl hr ?_
    replace rN := Lib.hid rN
    replace kG := E.keep kG
    have hE2 := hE1.trans E
    clear E hr
    go_wp2_with fail
    refine ⟨⟨⟨w2, hE2⟩, rfl⟩, ?_⟩
    refine held_step (k := 5) rfl (by kernel_rfl) ?_
    go_wp2_with fail
    refine ((scroll_any A A Bn ca ca dn W H W H xs xs (r :: l) _ (rx.out.ext hE2) (rx.out.ext hE2) HX.out HX.out rN.out (by simp only [List.length_cons]; omega)).mono fun e w' h => GivesC.non' h (scroll_same ..)).mono ?_
    rintro e w3 ⟨rfl, E⟩
    replace kG := E.keep kG
    have hE3 := hE2.trans E
    clear E rN
    go_wp2_with fail
    refine ⟨⟨⟨w3, hE3⟩, rfl⟩, ?_⟩
    refine held_take [6, 7, 8] _ _ 2 rfl (by kernel_rfl) rfl (by kernel_rfl) ⟨⟨w3, hE3⟩, rfl⟩ ?_
    simp only [List.filterMap_cons, List.filterMap_nil, List.getElem?_toArray, List.getElem?_cons_succ, List.getElem?_cons_zero]
    repeat (quiet_step (fail))
    refine wpQuiet_nil ?_
    obtain ⟨z1, y1⟩ := blk_rules kG
    have lG := blk_lt kG
    refine held_step (k := 10) rfl (by kernel_rfl) ?_
    go_wp2_with fail
    have hEf := ((((((hE3.set (p := ⟨G, 0, none⟩) gG (.int .i64 0)).set (p := ⟨G, 1, none⟩) gG (.int .i64 0)).set (p := ⟨G, 2, none⟩) gG (.int .i64 0)).set (p := ⟨G, 3, none⟩) gG (.int .i64 0)).set (p := ⟨G, 4, none⟩) gG (.int .i64 0)).set (p := ⟨G, 5, none⟩) gG (.int .i64 0))
    refine ⟨⟨⟨_, hEf⟩, rfl⟩, ?_⟩
    refine held_take [11] _ _ 0 rfl (by kernel_rfl) rfl (by kernel_rfl) ⟨⟨_, hEf⟩, rfl⟩ ?_
    simp only [List.filterMap_cons, List.filterMap_nil, List.getElem?_toArray, List.getElem?_cons_succ, List.getElem?_cons_zero]
    repeat (quiet_step (fail))
    refine wpQuiet_nil ?_
    refine held_done (by kernel_rfl) ?_
    exact hK _ _ _ _ _ _ _ _ _ G _ hEf
end Go.Proofs.Ytjghghbldifhaaa
