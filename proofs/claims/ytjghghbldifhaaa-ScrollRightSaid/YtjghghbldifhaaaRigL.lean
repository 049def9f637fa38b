/- The last region of ScrollRight. Printed by gen_right.py. -/
/- The law ScrollRight. Printed by gen_rigl.py. -/
import Derived.Test.YtjghghbldifhaaaScrT
import Derived.Test.YtjghghbldifhaaaToP
import Derived.Test.YtjghghbldifhaaaScrR
set_option linter.unusedVariables false
set_option linter.unusedSimpArgs false
namespace Go.Proofs.Ytjghghbldifhaaa
open Go.RowKit Go.Shelf
noncomputable def rigC : Code := (Try.f14.body.bind (findRegionR 19)).getD .skip
set_option maxRecDepth 100000 in
set_option maxHeartbeats 32000000 in
theorem rigS (c0 c1 c4 c5 c6 c8 c9 c10 c11 c12 c13 c15 c17 c19 c21 c22 c23 c24 c25 c26 c27 c28 c29 c30 c31 c32 c33 c34 c35 c36 c37 c38 c39 c40 c41 c42 c43 c44 c45 c46 c47 c48 c49 c50 c51 c52 c53 c54 c55 c56 c57 c58 c59 c60 c61 c62 c63 c64 c65 c66 c67 c68 c69 c70 c71 c72 c73 c74 c75 c76 c77 c78 c79 c80 c81 c82 c83 c84 c85 c86 c87 c88 c89 c90 c91 c92 c93 c94 c95 c96 c97 c98 c99 c100 c101 c102 c103 c104 c105 c106 c107 c108 c109 c110 c111 c112 c113 c114 c115 c116 c117 c118 c119 c120 c121 c122 c123 c124 c125 c126 c127 c128 c129 c130 c131 c132 c133 c134 c135 c136 c137 c138 c139 c140 c141 c142 c143 c144 c145 c146 c147 c148 c149 c150 c151 c152 c153 c154 c155 c156 c157 c158 c159 c160 c161 c162 c163 c164 c165 c166 c167 c168 c169 c170 c171 c172 : Value) (w : World) (P3 P7 PT : Nat) (W H dx dy n1 n2 : Int) (v3 : Value) (B1 B2 B3 : Option Addr) (d1 d2 d3 : Nat) (was left moved Z : List Rect) (t bx : Rect) (lA : Option Addr) (lc : Nat) (l : List Rect) (hl : l.length ≤ 16)
    (r1 : Hid (RectsAt w B1 was)) (r2 : Hid (RectsAt w B2 left)) (r3 : Hid (RectsAt w B3 moved)) (rt : Hid (RectsAt w (some ⟨PT, 0, none⟩) [t])) (rl : Hid (RectsAt w lA l)) (b1 : was.length ≤ 2199023255552) (b2 : left.length ≤ 2199023255552) (b3 : moved.length ≤ 2199023255552)
    (e1 : listOf 2 left [t] = []) (e2 : listOf 1 moved [t] = []) (e3 : listOf 1 was [t] = left) (e4 : eqR (listOf 0 left []) (listOf 0 left []) = true) (e5 : areaL left = n1) (e6 : areaL was = n2) (hlt : n1 < n2) (e7 : listOf 2 l [⟨0, 0, W, H⟩] = Z) (e8 : boundsL Z = bx) (b4 : Z.length ≤ 2199023255552) (e9 : Rect.within t bx = true)
    (K : Act → World → Prop) (Q' : Exit → Act → World → Prop)
    (k3 : w.heap[P3]? = some (.cells #[.int .i64 W, .int .i64 H, v3] 43 (0, 0)))
    (k7 : w.heap[P7]? = some (.cells #[.int .i64 t.x, .int .i64 t.y, .int .i64 t.w, .int .i64 t.h, .int .i64 dx, .int .i64 dy] 54 (0, 0)))
    (hK : ∀ (u130 u131 u132 u133 u134 u135 u136 u137 u138 u139 u140 u141 u142 u143 u144 u145 u146 u147 u148 u149 u150 u151 u152 u153 u154 u155 u156 u157 u158 u159 u160 u161 u162 u163 u164 u165 u166 u167 u168 u169 u170 u171 u172 : Value) (w' : World), Ext w w' → K { tmps := #[c0, c1, .slice lA l.length lc, .pointer (some ⟨P3, 0, none⟩), c4, c5, .bool true, .pointer (some ⟨P7, 0, none⟩), c8, c9, c10, c11, c12, c13, .slice B1 was.length d1, c15, .slice B2 left.length d2, c17, .slice B3 moved.length d3, c19, .slice (some ⟨PT, 0, none⟩) 1 1, c21, c22, c23, c24, c25, c26, c27, c28, c29, c30, c31, c32, c33, c34, c35, c36, c37, c38, c39, c40, c41, c42, c43, c44, c45, c46, c47, c48, c49, c50, c51, c52, c53, c54, c55, c56, c57, c58, c59, c60, c61, c62, c63, c64, c65, c66, c67, c68, c69, c70, c71, c72, c73, c74, c75, c76, c77, c78, c79, c80, c81, c82, c83, c84, c85, c86, c87, c88, c89, c90, c91, c92, c93, c94, c95, c96, c97, c98, c99, c100, c101, c102, c103, c104, c105, c106, c107, c108, c109, c110, c111, c112, c113, c114, c115, c116, c117, c118, c119, c120, c121, c122, c123, c124, c125, c126, c127, c128, c129, u130, u131, u132, u133, u134, u135, u136, u137, u138, u139, u140, u141, u142, u143, u144, u145, u146, u147, u148, u149, u150, u151, u152, u153, u154, u155, u156, u157, u158, u159, u160, u161, u162, u163, u164, u165, u166, u167, u168, u169, u170, u171, u172], defers := [] } w') :
    Code.wp Try.prog rigC (Exit.then K Q') { tmps := #[c0, c1, .slice lA l.length lc, .pointer (some ⟨P3, 0, none⟩), c4, c5, c6, .pointer (some ⟨P7, 0, none⟩), c8, c9, c10, c11, c12, c13, .slice B1 was.length d1, c15, .slice B2 left.length d2, c17, .slice B3 moved.length d3, c19, .slice (some ⟨PT, 0, none⟩) 1 1, c21, c22, c23, c24, c25, c26, c27, c28, c29, c30, c31, c32, c33, c34, c35, c36, c37, c38, c39, c40, c41, c42, c43, c44, c45, c46, c47, c48, c49, c50, c51, c52, c53, c54, c55, c56, c57, c58, c59, c60, c61, c62, c63, c64, c65, c66, c67, c68, c69, c70, c71, c72, c73, c74, c75, c76, c77, c78, c79, c80, c81, c82, c83, c84, c85, c86, c87, c88, c89, c90, c91, c92, c93, c94, c95, c96, c97, c98, c99, c100, c101, c102, c103, c104, c105, c106, c107, c108, c109, c110, c111, c112, c113, c114, c115, c116, c117, c118, c119, c120, c121, c122, c123, c124, c125, c126, c127, c128, c129, c130, c131, c132, c133, c134, c135, c136, c137, c138, c139, c140, c141, c142, c143, c144, c145, c146, c147, c148, c149, c150, c151, c152, c153, c154, c155, c156, c157, c158, c159, c160, c161, c162, c163, c164, c165, c166, c167, c168, c169, c170, c171, c172], defers := [] } w := by
  conv => arg 2; whnf
  have E1 := Lib.hid e1
  have E2 := Lib.hid e2
  have E3 := Lib.hid e3
  have E4 := Lib.hid e4
  have E5 := Lib.hid e5
  have E6 := Lib.hid e6
  have E7 := Lib.hid e7
  have E8 := Lib.hid e8
  have hin := fun w => in_any t.x t.y t.w t.h bx.x bx.y bx.w bx.h w
  simp only [show Rect.mk t.x t.y t.w t.h = t from rfl, show Rect.mk bx.x bx.y bx.w bx.h = bx from rfl, e9] at hin
  have HIN := Lib.hid hin
  clear e1 e2 e3 e4 e5 e6 e7 e8 e9 hin
  have j3 := After.blk k3
  have j7 := After.blk k7
  refine wp_region_sched (fun w' => ∃ x : After w, w' = x.now) (by kernel_rfl) ?_
  refine held_take [0, 1] _ _ 42 rfl (by kernel_rfl) rfl (by kernel_rfl) ⟨⟨w.drew, (Ext.refl w).drew⟩, rfl⟩ ?_
  simp only [List.filterMap_cons, List.filterMap_nil, List.getElem?_toArray, List.getElem?_cons_succ, List.getElem?_cons_zero]
  repeat (quiet_step (fail))
  refine wpQuiet_nil ?_
  change wpAnyH _ _ _ _ _ _ _ _ w.drew
  obtain ⟨w1, hw1⟩ : ∃ z, z = w.drew := ⟨_, rfl⟩
  have hE1 : Ext w w1 := by rw [hw1]; exact (Ext.refl w).drew
  rw [← hw1]
  clear hw1
  refine held_step (k := 2) rfl (by kernel_rfl) ?_
  go_wp2_with fail
  refine (and_to E1.out (Lib.hid (r2.out.ext hE1)) (Lib.hid (rt.out.ext hE1)) (by omega) (by simp)).mono ?_
  rintro e w2 ⟨BA, dA, rfl, oA, nA, E⟩
  clear oA nA
  have hE2 := hE1.trans E
  clear E
  go_wp2_with fail
  refine ⟨⟨⟨w2, hE2⟩, rfl⟩, ?_⟩
  refine held_take [3, 4, 5, 6, 7] _ _ 36 rfl (by kernel_rfl) rfl (by kernel_rfl) ⟨⟨w2, hE2⟩, rfl⟩ ?_
  simp only [List.filterMap_cons, List.filterMap_nil, List.getElem?_toArray, List.getElem?_cons_succ, List.getElem?_cons_zero]
  repeat (quiet_step (fail))
  refine wpQuiet_nil ?_
  refine held_step (k := 8) rfl (by kernel_rfl) ?_
  go_wp2_with fail
  refine (minus_to E2.out (Lib.hid (r3.out.ext hE2)) (Lib.hid (rt.out.ext hE2)) (by omega) (by simp)).mono ?_
  rintro e w3 ⟨BM, dM, rfl, oM, nM, E⟩
  clear oM nM
  have hE3 := hE2.trans E
  clear E
  go_wp2_with fail
  refine ⟨⟨⟨w3, hE3⟩, rfl⟩, ?_⟩
  refine held_take [9, 10, 11, 12, 13, 14, 15] _ _ 28 rfl (by kernel_rfl) rfl (by kernel_rfl) ⟨⟨w3, hE3⟩, rfl⟩ ?_
  simp only [List.filterMap_cons, List.filterMap_nil, List.getElem?_toArray, List.getElem?_cons_succ, List.getElem?_cons_zero]
  repeat (quiet_step (fail))
  refine wpQuiet_nil ?_
  refine held_step (k := 16) rfl (by kernel_rfl) ?_
  go_wp2_with fail
  refine (minus_to E3.out (Lib.hid (r1.out.ext hE3)) (Lib.hid (rt.out.ext hE3)) (by omega) (by simp)).mono ?_
  rintro e w4 ⟨BW, dW, rfl, oW, nW, E⟩
  have RW := Lib.hid (OwnR.at oW)
  clear oW nW
  have hE4 := hE3.trans E
  clear E
  go_wp2_with fail
  refine ⟨⟨⟨w4, hE4⟩, rfl⟩, ?_⟩
  refine held_step (k := 17) rfl (by kernel_rfl) ?_
  go_wp2_with fail
  refine (same_to E4.out (Lib.hid (r2.out.ext hE4)) RW (by omega) (by omega)).mono ?_
  rintro e w5 ⟨rfl, E⟩
  clear RW
  have hE5 := hE4.trans E
  clear E
  go_wp2_with fail
  refine ⟨⟨⟨w5, hE5⟩, rfl⟩, ?_⟩
  refine held_take [18, 19, 20, 22] _ _ 22 rfl (by kernel_rfl) rfl (by kernel_rfl) ⟨⟨w5, hE5⟩, rfl⟩ ?_
  simp only [List.filterMap_cons, List.filterMap_nil, List.getElem?_toArray, List.getElem?_cons_succ, List.getElem?_cons_zero]
  repeat (quiet_step (fail))
  refine wpQuiet_nil ?_
  refine held_step (k := 21) rfl (by kernel_rfl) ?_
  go_wp2_with fail
  refine (area_to E5.out (Lib.hid (r2.out.ext hE5)) (by omega)).mono ?_
  rintro e w6 ⟨rfl, E⟩
  have hE6 := hE5.trans E
  clear E
  go_wp2_with fail
  refine ⟨⟨⟨w6, hE6⟩, rfl⟩, ?_⟩
  refine held_step (k := 23) rfl (by kernel_rfl) ?_
  go_wp2_with fail
  refine (area_to E6.out (Lib.hid (r1.out.ext hE6)) (by omega)).mono ?_
  rintro e w7 ⟨rfl, E⟩
  have hE7 := hE6.trans E
  clear E
  go_wp2_with fail
  refine ⟨⟨⟨w7, hE7⟩, rfl⟩, ?_⟩
  refine held_take [24, 25, 26, 27, 28, 29, 30, 31, 32, 33] _ _ 10 rfl (by kernel_rfl) rfl (by kernel_rfl) ⟨⟨w7, hE7⟩, rfl⟩ ?_
  simp only [List.filterMap_cons, List.filterMap_nil, List.getElem?_toArray, List.getElem?_cons_succ, List.getElem?_cons_zero]
  repeat (quiet_step (fail))
  refine wpQuiet_nil ?_
  refine held_step (k := 34) rfl (by kernel_rfl) ?_
  go_wp2_with fail
  refine ⟨⟨⟨w7, hE7⟩, rfl⟩, ?_⟩
  refine held_step (k := 35) rfl (by kernel_rfl) ?_
  go_wp2_with fail
  obtain ⟨w8, hw8⟩ : ∃ z, z = w7.alloc (.cells #[.int .i64 0, .int .i64 0, .int .i64 W, .int .i64 H] 26) := ⟨_, rfl⟩
  have kA : w8.heap[w7.heap.size]? = some (.cells #[.int .i64 0, .int .i64 0, .int .i64 W, .int .i64 H] 26 (0, 0)) := by rw [hw8]; exact blk_new _ _
  have E : Ext w7 w8 := by rw [hw8]; exact (Ext.refl _).alloc _
  obtain ⟨SA, hSA⟩ : ∃ z, w7.heap.size = z := ⟨_, rfl⟩
  rw [← hw8]
  simp only [hSA] at kA ⊢
  clear hw8 hSA
  have hE8 := hE7.trans E
  clear E
  refine ⟨⟨⟨w8, hE8⟩, rfl⟩, ?_⟩
  refine held_step (k := 36) rfl (by kernel_rfl) ?_
  go_wp2_with fail
  refine (and_to E7.out (Lib.hid (rl.out.ext hE8)) (Lib.hid (rects_block kA rfl)) (by omega) (by simp)).mono ?_
  rintro e w9 ⟨BZ, dZ, rfl, oZ, nZ, E⟩
  have RZ := Lib.hid (OwnR.at oZ)
  clear oZ nZ kA
  have hE9 := hE8.trans E
  clear E
  go_wp2_with fail
  refine ⟨⟨⟨w9, hE9⟩, rfl⟩, ?_⟩
  refine held_step (k := 37) rfl (by kernel_rfl) ?_
  go_wp2_with fail
  refine (bounds_to E8.out RZ (by omega)).mono ?_
  rintro e w10 ⟨rfl, E⟩
  clear RZ
  have hE10 := hE9.trans E
  clear E
  go_wp2_with fail
  refine ⟨⟨⟨w10, hE10⟩, rfl⟩, ?_⟩
  refine held_step (k := 38) rfl (by kernel_rfl) ?_
  go_wp2_with fail
  refine (HIN.out _).mono ?_
  rintro e w11 ⟨rfl, E⟩
  have hE11 := hE10.trans E
  clear E
  go_wp2_with fail
  refine ⟨⟨⟨w11, hE11⟩, rfl⟩, ?_⟩
  refine held_take [39, 40] _ _ 3 rfl (by kernel_rfl) rfl (by kernel_rfl) ⟨⟨w11, hE11⟩, rfl⟩ ?_
  simp only [List.filterMap_cons, List.filterMap_nil, List.getElem?_toArray, List.getElem?_cons_succ, List.getElem?_cons_zero]
  repeat (quiet_step (fail))
  refine wpQuiet_nil ?_
  refine held_step (k := 41) rfl (by kernel_rfl) ?_
  go_wp2_with fail
  refine (wakes18_any _).mono ?_
  rintro e w12 ⟨rfl, E⟩
  have hE12 := hE11.trans E
  clear E
  go_wp2_with fail
  refine ⟨⟨⟨w12, hE12⟩, rfl⟩, ?_⟩
  refine held_take [42, 43] _ _ 0 rfl (by kernel_rfl) rfl (by kernel_rfl) ⟨⟨w12, hE12⟩, rfl⟩ ?_
  simp only [List.filterMap_cons, List.filterMap_nil, List.getElem?_toArray, List.getElem?_cons_succ, List.getElem?_cons_zero]
  repeat (quiet_step (fail))
  refine wpQuiet_nil ?_
  refine held_done (by kernel_rfl) ?_
  exact hK _ _ _ _ _ _ _ _ _ _ _ _ _ _ _ _ _ _ _ _ _ _ _ _ _ _ _ _ _ _ _ _ _ _ _ _ _ _ _ _ _ _ _ _ hE12
end Go.Proofs.Ytjghghbldifhaaa
set_option linter.unusedVariables false
set_option linter.unusedSimpArgs false
namespace Go.Proofs.Ytjghghbldifhaaa
open Go.RowKit
attribute [local go_sem ↓] eq_copy
theorem GivesC.nonR {box : Rect} {o : Option Nat} {w : World} {e : Ending} {w' : World} (h : GivesC box o w e w') (ho : o = none) : e = .returned (.tuple #[.agg #[.int .i64 0, .int .i64 0, .int .i64 0, .int .i64 0, .int .i64 0, .int .i64 0], .bool false]) ∧ Ext w w' := by
  subst ho
  exact h
theorem from_someR (W H : Int) (A : Option Addr) (c : Nat) (xs : List Int) (w : World) (hr : Reads .u32 w A xs) (hx : ∀ x ∈ xs, 0 ≤ x ∧ x ≤ 4294967295) :
    Calls Try.prog 54 #[.agg #[.int .i64 W, .int .i64 H, .slice A xs.length c]] w fun e w' => ∃ v code, e = .returned (.tuple #[v, .int .i64 code]) ∧ Ext w w' := by
  cases h : isPic W H xs.length
  · exact (from_bad W H A c xs w h).mono fun e w' h => ⟨_, _, h.1, h.2⟩
  · exact (from_good W H A c xs w h hr hx).mono fun e w' ⟨bb, bp, cap, he, _, hE⟩ => ⟨_, _, he, hE⟩
theorem copy_fit {W H : Int} (b1 : 1 ≤ W) (b2 : W ≤ 256) (b3 : 1 ≤ H) (b4 : H ≤ 256) {pa pb : List Int} {box t : Rect} {dx dy : Int} (hl : (pa.length : Int) = W * H) (hp : ∀ x ∈ pa, 0 ≤ x ∧ x ≤ 16777215) (hf : Fit W H pa pb box t dx dy) :
    ∃ pc, CopyTold W H pa pc t dx dy 0 ∧ ∀ (w : World) (base bb bp cap : Nat), BufAt 117 58 w base bb bp cap W H pa → Calls Try.prog 71 #[.pointer (some ⟨bb, 0, none⟩), .agg #[.int .i64 t.x, .int .i64 t.y, .int .i64 t.w, .int .i64 t.h, .int .i64 dx, .int .i64 dy]] w fun e w' => e = .returned (.int .i64 0) ∧ BufAt 117 58 w' base bb bp cap W H pc ∧ w.grownBy w' (some bp) := by
  have hw := hf.whole b1 b2 b3 b4
  obtain ⟨q1, q2, F, hF, q3, q4⟩ := hf.from b1 b2 b3 b4
  exact ⟨_, copyTold_good b1 b2 b3 b4 hl hp hf.emp hw hF q3 q4, fun w base bb bp cap hB => copy_good hB t.x t.y t.w t.h dx dy hf.emp q1 q2 hw hF q3 q4⟩
theorem stepAt_axisR (n : Nat) : ((stepAt n).1 = 0 ∧ (stepAt n).2 ≠ 0) ∨ ((stepAt n).1 ≠ 0 ∧ (stepAt n).2 = 0) := by
  unfold stepAt
  split <;> simp <;> omega
theorem eqR_self (a : List Rect) : eqR a a = true := eqR_true rfl
set_option maxRecDepth 100000 in
set_option maxHeartbeats 16000000 in
theorem right_false (W H : Int) (A : Option Addr) (ca : Nat) (xs : List Int) (W' H' : Int) (A' : Option Addr) (cb : Nat) (ys : List Int) (lA : Option Addr) (lc : Nat) (l : List Rect) (w : World) (rx : Reads .u32 w A xs) (ry : Reads .u32 w A' ys) (hx : ∀ x ∈ xs, 0 ≤ x ∧ x ≤ 4294967295) (hy : ∀ x ∈ ys, 0 ≤ x ∧ x ≤ 4294967295) (rl : RectsAt w lA l) (d1 : ((400 : Int) < xs.length) = False) (d2 : ((400 : Int) < ys.length) = False) (hl : l.length ≤ 16) (ho : scrollOf W H xs W' H' ys l = none) :
    Calls Try.prog 14 #[.agg #[.int .i64 W, .int .i64 H, .slice A xs.length ca], .agg #[.int .i64 W', .int .i64 H', .slice A' ys.length cb], .slice lA l.length lc] w fun e w' => e = .returned (.bool true) ∧ Ext w w' := by
  have d3 : ((16 : Int) < l.length) = False := by simp; omega
  have RX := Lib.hid rx
  have RY := Lib.hid ry
  have HX := Lib.hid hx
  have HY := Lib.hid hy
  have C1 := Lib.hid fun (w1 : World) (E : Ext w w1) => (scroll_any A A' lA ca cb lc W H W' H' xs ys l w1 (rx.ext E) (ry.ext E) hx hy (rl.ext E) (by omega)).mono fun e w' h => GivesC.nonR h ho
  have e1 : Rect.eqB ⟨0, 0, 0, 0⟩ ⟨0, 0, 0, 0⟩ = true := by decide
  clear ho rx ry rl hx hy hl
  go_enter Try.func14, Try.ntmps14
  go_upto_region 1 with fail
  obtain ⟨w0, hw0⟩ : ∃ zz, zz = (w.alloc (.cells #[.int .i64 W, .int .i64 H, .slice A xs.length ca] 43)).alloc (.cells #[.int .i64 W', .int .i64 H', .slice A' ys.length cb] 43) := ⟨_, rfl⟩
  have k0 : w0.heap[w.heap.size]? = some (.cells #[.int .i64 W, .int .i64 H, .slice A xs.length ca] 43 (0, 0)) := by rw [hw0]; exact blk_old (blk_new w _) _
  have k1 : w0.heap[w.heap.size + 1]? = some (.cells #[.int .i64 W', .int .i64 H', .slice A' ys.length cb] 43 (0, 0)) := by rw [hw0]; exact blk_new1 w _ _
  have hE : Ext w w0 := by rw [hw0]; exact ((Ext.refl w).alloc _).alloc _
  rw [← hw0]
  clear hw0
  obtain ⟨c0, f0⟩ := blk_rules k0
  obtain ⟨c1, f1⟩ := blk_rules k1
  go_wp2_with fail
  clear c0 f0 c1 f1
  refine (C1.out _ hE).mono ?_
  rintro e w1 ⟨rfl, E⟩
  replace k0 := E.keep k0
  replace k1 := E.keep k1
  replace hE := hE.trans E
  clear E
  obtain ⟨c0, f0⟩ := blk_rules k0
  have l0 := blk_lt k0
  obtain ⟨c1, f1⟩ := blk_rules k1
  have l1 := blk_lt k1
  go_wp2_with fail
  clear c0 f0 l0
  clear c1 f1 l1
  obtain ⟨v1, hv1⟩ : ∃ zz, zz = w1.alloc (.cells #[.int .i64 0, .int .i64 0, .int .i64 0, .int .i64 0, .int .i64 0, .int .i64 0] 54) := ⟨_, rfl⟩
  have k7 : v1.heap[w1.heap.size]? = some (.cells #[.int .i64 0, .int .i64 0, .int .i64 0, .int .i64 0, .int .i64 0, .int .i64 0] 54 (0, 0)) := by rw [hv1]; exact blk_new _ _
  have E : Ext w1 v1 := by rw [hv1]; exact (Ext.refl _).alloc _
  rw [← hv1]
  clear hv1
  replace k0 := E.keep k0
  replace k1 := E.keep k1
  replace hE := hE.trans E
  clear E
  obtain ⟨Pk7, hPk7⟩ : ∃ zz, w1.heap.size = zz := ⟨_, rfl⟩
  simp only [hPk7] at k7 ⊢
  clear hPk7
  refine (from_someR W H A ca xs _ (RX.out.ext hE) HX.out).mono ?_
  rintro e w4 ⟨b0, p0, rfl, E⟩
  replace k0 := E.keep k0
  replace k1 := E.keep k1
  replace k7 := E.keep k7
  replace hE := hE.trans E
  clear E
  obtain ⟨c0, f0⟩ := blk_rules k0
  obtain ⟨c1, f1⟩ := blk_rules k1
  obtain ⟨c7, f7⟩ := blk_rules k7
  go_wp2_with fail
  refine (from_someR W' H' A' cb ys _ (RY.out.ext hE) HY.out).mono ?_
  rintro e w5 ⟨b1, p1, rfl, E⟩
  replace k0 := E.keep k0
  replace k1 := E.keep k1
  replace k7 := E.keep k7
  replace hE := hE.trans E
  clear E
  obtain ⟨c0, f0⟩ := blk_rules k0
  obtain ⟨c1, f1⟩ := blk_rules k1
  obtain ⟨c7, f7⟩ := blk_rules k7
  go_wp2_with fail
  refine (wakes18_any _).mono ?_
  rintro e w6 ⟨rfl, E⟩
  go_wp2_with fail
  go_ret
  exact ⟨rfl, hE.trans E⟩
set_option maxRecDepth 100000 in
set_option maxHeartbeats 32000000 in
theorem right_true (Wn Hn : Nat) (A : Option Addr) (ca : Nat) (xs : List Int) (A' : Option Addr) (cb : Nat) (ys : List Int) (lA : Option Addr) (lc : Nat) (l : List Rect) (w : World) (rx : Reads .u32 w A xs) (ry : Reads .u32 w A' ys) (hx : ∀ x ∈ xs, 0 ≤ x ∧ x ≤ 4294967295) (hy : ∀ x ∈ ys, 0 ≤ x ∧ x ≤ 4294967295) (rl : RectsAt w lA l) (d1 : ((400 : Int) < xs.length) = False) (d2 : ((400 : Int) < ys.length) = False) (hl : l.length ≤ 16) (nn : Nat) (ho : scrollOf Wn Hn xs Wn Hn ys l = some nn) :
    Calls Try.prog 14 #[.agg #[.int .i64 Wn, .int .i64 Hn, .slice A xs.length ca], .agg #[.int .i64 Wn, .int .i64 Hn, .slice A' ys.length cb], .slice lA l.length lc] w fun e w' => e = .returned (.bool true) ∧ Ext w w' := by
  have d3 : ((16 : Int) < l.length) = False := by simp; omega
  obtain ⟨g1, g2, _, _, g5⟩ := scroll_some ho
  obtain ⟨b1, b2, b3, b4, hxl⟩ := isPic_form g1
  obtain ⟨_, _, _, _, hyl⟩ := isPic_form g2
  obtain ⟨⟨dx, dy⟩, hs⟩ : ∃ s, stepAt nn = s := ⟨_, rfl⟩
  have hax := stepAt_axisR nn
  unfold tryAt at g5
  rw [hs] at g5 hax
  dsimp only at g5 hax
  have hf := try_fit b1 b2 b3 b4 (boxOf_in b1 b2 b3 b4 l) g5
  obtain ⟨bx, hbx⟩ : ∃ b, boxOf Wn Hn l = b := ⟨_, rfl⟩
  obtain ⟨t, ht⟩ : ∃ t, toQ bx dx dy = t := ⟨_, rfl⟩
  rw [hbx, ht] at hf
  have ht2 : cpTo (boxOf Wn Hn l) (scrollOf Wn Hn xs Wn Hn ys l) = t := by
    rw [ho, hbx]
    unfold cpTo
    dsimp only
    rw [hs]
    exact ht
  have hs2 : cpBy (scrollOf Wn Hn xs Wn Hn ys l) = (dx, dy) := by
    rw [ho]
    exact hs
  have hi2 : (scrollOf Wn Hn xs Wn Hn ys l).isSome = true := by rw [ho]; rfl
  have C1 := Lib.hid fun (w1 : World) (E : Ext w w1) => (scroll_any A A' lA ca cb lc Wn Hn Wn Hn xs ys l w1 (rx.ext E) (ry.ext E) hx hy (rl.ext E) (by omega)).mono fun e w' h => GivesC.form h ht2 hs2 hi2
  have RX := Lib.hid rx
  have RY := Lib.hid ry
  have HX := Lib.hid hx
  have HY := Lib.hid hy
  have RL := Lib.hid rl
  have hpl : ((xs.map cut24).length : Int) = (Wn : Int) * Hn := by rw [List.length_map]; exact hxl
  have hpx : ∀ x ∈ xs.map cut24, 0 ≤ x ∧ x ≤ 16777215 := fun x h => by
    obtain ⟨v, _, rfl⟩ := List.mem_map.1 h
    exact cut24_bd v
  obtain ⟨pc, hct, CP⟩ := copy_fit b1 b2 b3 b4 hpl hpx hf
  have n1 : 1 ≤ Wn := by omega
  have n2 : Wn ≤ 256 := by omega
  have n3 : 1 ≤ Hn := by omega
  have n4 : Hn ≤ 256 := by omega
  obtain ⟨m1, m2, m3, m4, m5⟩ := fit_lists n1 n2 n3 n4 hf hct
  obtain ⟨pa, hpa⟩ : ∃ p, xs.map cut24 = p := ⟨_, rfl⟩
  obtain ⟨pb, hpb⟩ : ∃ p, ys.map cut24 = p := ⟨_, rfl⟩
  rw [hpa] at CP
  rw [hpa, hpb] at m3 m5
  rw [hpa] at m2
  rw [hpb] at m1 m4

  have HPA := Lib.hid hpa
  have HPB := Lib.hid hpb
  have CCP := Lib.hid CP
  have M1 := Lib.hid m1
  have M2 := Lib.hid m2
  have M3 := Lib.hid m3
  have M5 := Lib.hid m5
  have hem := fun w => empty_any t.x t.y t.w t.h w
  simp only [show Rect.mk t.x t.y t.w t.h = t from rfl, hf.emp] at hem
  have HIB := Lib.hid hf.inb
  have HBX := Lib.hid hbx
  have u1 : ∀ p q : List Int, (listU (unF Wn Hn p q) Wn Hn).length ≤ 2199023255552 := fun p q => by
    rw [← listU_self (unF_in n1 n2 n3 n4 p q) (by omega) (by omega)]
    exact listOf_length _ _ _
  have U1 := Lib.hid u1
  clear m1 m2 m3 m4 m5 CP hpa hpb hpl hpx hf hct hi2 hs2 ht2 ht hbx g5 hs hxl hyl rx ry hx hy rl ho u1
  go_enter Try.func14, Try.ntmps14
  go_upto_region 1 with fail
  obtain ⟨w0, hw0⟩ : ∃ zz, zz = (w.alloc (.cells #[.int .i64 Wn, .int .i64 Hn, .slice A xs.length ca] 43)).alloc (.cells #[.int .i64 Wn, .int .i64 Hn, .slice A' ys.length cb] 43) := ⟨_, rfl⟩
  have k0 : w0.heap[w.heap.size]? = some (.cells #[.int .i64 Wn, .int .i64 Hn, .slice A xs.length ca] 43 (0, 0)) := by rw [hw0]; exact blk_old (blk_new w _) _
  have k1 : w0.heap[w.heap.size + 1]? = some (.cells #[.int .i64 Wn, .int .i64 Hn, .slice A' ys.length cb] 43 (0, 0)) := by rw [hw0]; exact blk_new1 w _ _
  have hE : Ext w w0 := by rw [hw0]; exact ((Ext.refl w).alloc _).alloc _
  rw [← hw0]
  clear hw0
  obtain ⟨c0, f0⟩ := blk_rules k0
  obtain ⟨c1, f1⟩ := blk_rules k1
  go_wp2_with fail
  clear c0 f0 c1 f1
  refine (C1.out _ hE).mono ?_
  rintro e w1 ⟨rfl, E⟩
  replace k0 := E.keep k0
  replace k1 := E.keep k1
  replace hE := hE.trans E
  clear E
  obtain ⟨c0, f0⟩ := blk_rules k0
  have l0 := blk_lt k0
  obtain ⟨c1, f1⟩ := blk_rules k1
  have l1 := blk_lt k1
  go_wp2_with fail
  clear c0 f0 l0
  clear c1 f1 l1
  obtain ⟨v1, hv1⟩ : ∃ zz, zz = w1.alloc (.cells #[.int .i64 t.x, .int .i64 t.y, .int .i64 t.w, .int .i64 t.h, .int .i64 dx, .int .i64 dy] 54) := ⟨_, rfl⟩
  have k7 : v1.heap[w1.heap.size]? = some (.cells #[.int .i64 t.x, .int .i64 t.y, .int .i64 t.w, .int .i64 t.h, .int .i64 dx, .int .i64 dy] 54 (0, 0)) := by rw [hv1]; exact blk_new _ _
  have E : Ext w1 v1 := by rw [hv1]; exact (Ext.refl _).alloc _
  rw [← hv1]
  clear hv1
  replace k0 := E.keep k0
  replace k1 := E.keep k1
  replace hE := hE.trans E
  clear E
  obtain ⟨Pk7, hPk7⟩ : ∃ zz, w1.heap.size = zz := ⟨_, rfl⟩
  simp only [hPk7] at k7 ⊢
  clear hPk7
  clear C1
  refine (from_good Wn Hn A ca xs _ g1 (RX.out.ext hE) HX.out).mono ?_
  rintro e w4 ⟨b0, p0, q0, rfl, hB0, E⟩
  rw [HPA.out] at hB0
  replace hB0 := Lib.hid hB0
  replace k0 := E.keep k0
  replace k1 := E.keep k1
  replace k7 := E.keep k7

  replace hE := hE.trans E
  clear E
  obtain ⟨c1, f1⟩ := blk_rules k1
  go_wp2_with fail
  clear c1 f1
  refine (from_good Wn Hn A' cb ys _ g2 (RY.out.ext hE) HY.out).mono ?_
  rintro e w5 ⟨b1, p1, q1, rfl, hB1, E⟩
  rw [HPB.out] at hB1
  replace hB1 := Lib.hid hB1
  replace k0 := E.keep k0
  replace k1 := E.keep k1
  replace k7 := E.keep k7
  replace hB0 := Lib.hid (hB0.out.ext E)
  replace hE := hE.trans E
  clear E
  obtain ⟨c7, f7⟩ := blk_rules k7


  have ax : (dx = 0 ∧ (dy != 0) = true ∧ (dy == 0) = false) ∨ (dy = 0 ∧ (dx != 0) = true ∧ (dx == 0) = false) := by
    rcases hax with ⟨h1, h2⟩ | ⟨h1, h2⟩
    · exact .inl ⟨h1, by simpa using h2, by simpa using h2⟩
    · exact .inr ⟨h2, by simpa using h1, by simpa using h1⟩
  clear hax RX RY HX HY g1 g2 d1 d2 d3 HPA HPB
  rcases ax with ⟨rfl, a1, a2⟩ | ⟨rfl, a1, a2⟩
  · go_wp2_with fail
    refine (hem _).mono ?_
    rintro e w6 ⟨rfl, E⟩
    clear c7 f7
    replace k0 := E.keep k0
    replace k1 := E.keep k1
    replace k7 := E.keep k7
    replace hB0 := Lib.hid (hB0.out.ext E)
    replace hB1 := Lib.hid (hB1.out.ext E)
    replace hE := hE.trans E
    clear E
    obtain ⟨c7, f7⟩ := blk_rules k7
    go_wp2_with fail
    clear c7 f7 a1 a2 hem
    refine (clone_any hB0.out).mono ?_
    rintro e w7 ⟨b2, p2, q2, rfl, hD, hp2, E⟩
    have z1 := blk_lt hB0.out.head
    have z2 := blk_lt hB1.out.head
    have z3 := (hB0.out.row.lt p0 rfl).2
    have z4 := (hB1.out.row.lt p1 rfl).2
    have z5 := hE.size
    have hD2 := Lib.hid hD
    clear hD
    replace k0 := E.keep k0
    replace k1 := E.keep k1
    replace k7 := E.keep k7
    replace hB0 := Lib.hid (hB0.out.ext E)
    replace hB1 := Lib.hid (hB1.out.ext E)
    replace hE := hE.trans E
    clear E
    obtain ⟨c7, f7⟩ := blk_rules k7
    go_wp2_with fail
    clear c7 f7
    refine (CCP.out _ _ _ _ _ hD2.out).mono ?_
    rintro e w8 ⟨rfl, hD, hg⟩
    replace k0 := hD2.out.far hg k0 (by decide)
    replace k1 := hD2.out.far hg k1 (by decide)
    replace k7 := hD2.out.far hg k7 (by decide)
    replace hB0 := Lib.hid (hB0.out.keptT hg (fun e => by injection e; omega) (fun e => by injection e; omega))
    replace hB1 := Lib.hid (hB1.out.keptT hg (fun e => by injection e; omega) (fun e => by injection e; omega))
    replace hE : Ext w w8 := Below.grown hE hg hE.size (fun r e => by cases e; omega)
    replace hD := Lib.hid hD
    clear hD2 hg z1 z2 z3 z4 z5 hp2 CCP
    go_wp2_with fail
    refine (diff_good hB0.out hB1.out (unF Wn Hn pa pb) (Lib.hid (unF_at n1 n2 n3 n4 pa pb)) (unF_in n1 n2 n3 n4 pa pb)).mono ?_
    rintro e w9 ⟨L1, y1, rfl, o1, _, E⟩
    have r1 := Lib.hid (OwnR.at o1)
    clear o1
    replace k0 := E.keep k0
    replace k1 := E.keep k1
    replace k7 := E.keep k7
    replace hB0 := Lib.hid (hB0.out.ext E)
    replace hB1 := Lib.hid (hB1.out.ext E)
    replace hD := Lib.hid (hD.out.ext E)
    replace hE := hE.trans E
    clear E
    go_wp2_with fail
    refine (diff_good hD.out hB1.out (unF Wn Hn pc pb) (Lib.hid (unF_at n1 n2 n3 n4 pc pb)) (unF_in n1 n2 n3 n4 pc pb)).mono ?_
    rintro e w10 ⟨L2, y2, rfl, o2, _, E⟩
    have r2 := Lib.hid (OwnR.at o2)
    clear o2
    replace k0 := E.keep k0
    replace k1 := E.keep k1
    replace k7 := E.keep k7
    replace hB0 := Lib.hid (hB0.out.ext E)
    replace hB1 := Lib.hid (hB1.out.ext E)
    replace hD := Lib.hid (hD.out.ext E)
    replace r1 := Lib.hid (r1.out.ext E)
    replace hE := hE.trans E
    clear E
    go_wp2_with fail
    refine (diff_good hB0.out hD.out (unF Wn Hn pa pc) (Lib.hid (unF_at n1 n2 n3 n4 pa pc)) (unF_in n1 n2 n3 n4 pa pc)).mono ?_
    rintro e w11 ⟨L3, y3, rfl, o3, _, E⟩
    have r3 := Lib.hid (OwnR.at o3)
    clear o3
    replace k0 := E.keep k0
    replace k1 := E.keep k1
    replace k7 := E.keep k7
    replace r1 := Lib.hid (r1.out.ext E)
    replace r2 := Lib.hid (r2.out.ext E)
    replace hE := hE.trans E
    clear E
    clear hB0 hB1 hD
    obtain ⟨c7, f7⟩ := blk_rules k7
    go_upto_region 19 with fail
    clear c7 f7
    obtain ⟨w12, hw12⟩ : ∃ z, z = w11.alloc (.cells #[.int .i64 t.x, .int .i64 t.y, .int .i64 t.w, .int .i64 t.h] 26) := ⟨_, rfl⟩
    have kT : w12.heap[w11.heap.size]? = some (.cells #[.int .i64 t.x, .int .i64 t.y, .int .i64 t.w, .int .i64 t.h] 26 (0, 0)) := by rw [hw12]; exact blk_new w11 _
    have E : Ext w11 w12 := by rw [hw12]; exact (Ext.refl w11).alloc _
    rw [← hw12]
    clear hw12
    replace k0 := E.keep k0
    replace k1 := E.keep k1
    replace k7 := E.keep k7
    replace r1 := Lib.hid (r1.out.ext E)
    replace r2 := Lib.hid (r2.out.ext E)
    replace r3 := Lib.hid (r3.out.ext E)
    replace hE := hE.trans E
    clear E
    refine rigS _ _ _ _ _ _ _ _ _ _ _ _ _ _ _ _ _ _ _ _ _ _ _ _ _ _ _ _ _ _ _ _ _ _ _ _ _ _ _ _ _ _ _ _ _ _ _ _ _ _ _ _ _ _ _ _ _ _ _ _ _ _ _ _ _ _ _ _ _ _ _ _ _ _ _ _ _ _ _ _ _ _ _ _ _ _ _ _ _ _ _ _ _ _ _ _ _ _ _ _ _ _ _ _ _ _ _ _ _ _ _ _ _ _ _ _ _ _ _ _ _ _ _ _ _ _ _ _ _ _ _ _ _ _ _ _ _ _ _ _ _ _ _ _ _ _ _ _ _ _ _ _ _ _ _ _ _ _ _ _ _ _ _ _ _ _ w12 _ _ w11.heap.size Wn Hn _ _ _ _ _ L1 L2 L3 y1 y2 y3 _ _ _ (listOf 2 l [⟨0, 0, Wn, Hn⟩]) t bx lA lc l hl r1 r2 r3 (Lib.hid (rects_block kT rfl)) (Lib.hid (RL.out.ext hE)) (U1.out _ _) (U1.out _ _) (U1.out _ _) M1.out M2.out M3.out (eqR_self _) rfl rfl M5.out rfl HBX.out (listOf_length ..) HIB.out _ _ k0 k7 ?_
    intro _ _ _ _ _ _ _ _ _ _ _ _ _ _ _ _ _ _ _ _ _ _ _ _ _ _ _ _ _ _ _ _ _ _ _ _ _ _ _ _ _ _ _ w13 E
    go_wp2_with fail
    go_ret
    exact ⟨rfl, hE.trans E⟩
  · go_wp2_with fail
    refine (hem _).mono ?_
    rintro e w6 ⟨rfl, E⟩
    clear c7 f7
    replace k0 := E.keep k0
    replace k1 := E.keep k1
    replace k7 := E.keep k7
    replace hB0 := Lib.hid (hB0.out.ext E)
    replace hB1 := Lib.hid (hB1.out.ext E)
    replace hE := hE.trans E
    clear E
    obtain ⟨c7, f7⟩ := blk_rules k7
    go_wp2_with fail
    clear c7 f7 a1 a2 hem
    refine (clone_any hB0.out).mono ?_
    rintro e w7 ⟨b2, p2, q2, rfl, hD, hp2, E⟩
    have z1 := blk_lt hB0.out.head
    have z2 := blk_lt hB1.out.head
    have z3 := (hB0.out.row.lt p0 rfl).2
    have z4 := (hB1.out.row.lt p1 rfl).2
    have z5 := hE.size
    have hD2 := Lib.hid hD
    clear hD
    replace k0 := E.keep k0
    replace k1 := E.keep k1
    replace k7 := E.keep k7
    replace hB0 := Lib.hid (hB0.out.ext E)
    replace hB1 := Lib.hid (hB1.out.ext E)
    replace hE := hE.trans E
    clear E
    obtain ⟨c7, f7⟩ := blk_rules k7
    go_wp2_with fail
    clear c7 f7
    refine (CCP.out _ _ _ _ _ hD2.out).mono ?_
    rintro e w8 ⟨rfl, hD, hg⟩
    replace k0 := hD2.out.far hg k0 (by decide)
    replace k1 := hD2.out.far hg k1 (by decide)
    replace k7 := hD2.out.far hg k7 (by decide)
    replace hB0 := Lib.hid (hB0.out.keptT hg (fun e => by injection e; omega) (fun e => by injection e; omega))
    replace hB1 := Lib.hid (hB1.out.keptT hg (fun e => by injection e; omega) (fun e => by injection e; omega))
    replace hE : Ext w w8 := Below.grown hE hg hE.size (fun r e => by cases e; omega)
    replace hD := Lib.hid hD
    clear hD2 hg z1 z2 z3 z4 z5 hp2 CCP
    go_wp2_with fail
    refine (diff_good hB0.out hB1.out (unF Wn Hn pa pb) (Lib.hid (unF_at n1 n2 n3 n4 pa pb)) (unF_in n1 n2 n3 n4 pa pb)).mono ?_
    rintro e w9 ⟨L1, y1, rfl, o1, _, E⟩
    have r1 := Lib.hid (OwnR.at o1)
    clear o1
    replace k0 := E.keep k0
    replace k1 := E.keep k1
    replace k7 := E.keep k7
    replace hB0 := Lib.hid (hB0.out.ext E)
    replace hB1 := Lib.hid (hB1.out.ext E)
    replace hD := Lib.hid (hD.out.ext E)
    replace hE := hE.trans E
    clear E
    go_wp2_with fail
    refine (diff_good hD.out hB1.out (unF Wn Hn pc pb) (Lib.hid (unF_at n1 n2 n3 n4 pc pb)) (unF_in n1 n2 n3 n4 pc pb)).mono ?_
    rintro e w10 ⟨L2, y2, rfl, o2, _, E⟩
    have r2 := Lib.hid (OwnR.at o2)
    clear o2
    replace k0 := E.keep k0
    replace k1 := E.keep k1
    replace k7 := E.keep k7
    replace hB0 := Lib.hid (hB0.out.ext E)
    replace hB1 := Lib.hid (hB1.out.ext E)
    replace hD := Lib.hid (hD.out.ext E)
    replace r1 := Lib.hid (r1.out.ext E)
    replace hE := hE.trans E
    clear E
    go_wp2_with fail
    refine (diff_good hB0.out hD.out (unF Wn Hn pa pc) (Lib.hid (unF_at n1 n2 n3 n4 pa pc)) (unF_in n1 n2 n3 n4 pa pc)).mono ?_
    rintro e w11 ⟨L3, y3, rfl, o3, _, E⟩
    have r3 := Lib.hid (OwnR.at o3)
    clear o3
    replace k0 := E.keep k0
    replace k1 := E.keep k1
    replace k7 := E.keep k7
    replace r1 := Lib.hid (r1.out.ext E)
    replace r2 := Lib.hid (r2.out.ext E)
    replace hE := hE.trans E
    clear E
    clear hB0 hB1 hD
    obtain ⟨c7, f7⟩ := blk_rules k7
    go_upto_region 19 with fail
    clear c7 f7
    obtain ⟨w12, hw12⟩ : ∃ z, z = w11.alloc (.cells #[.int .i64 t.x, .int .i64 t.y, .int .i64 t.w, .int .i64 t.h] 26) := ⟨_, rfl⟩
    have kT : w12.heap[w11.heap.size]? = some (.cells #[.int .i64 t.x, .int .i64 t.y, .int .i64 t.w, .int .i64 t.h] 26 (0, 0)) := by rw [hw12]; exact blk_new w11 _
    have E : Ext w11 w12 := by rw [hw12]; exact (Ext.refl w11).alloc _
    rw [← hw12]
    clear hw12
    replace k0 := E.keep k0
    replace k1 := E.keep k1
    replace k7 := E.keep k7
    replace r1 := Lib.hid (r1.out.ext E)
    replace r2 := Lib.hid (r2.out.ext E)
    replace r3 := Lib.hid (r3.out.ext E)
    replace hE := hE.trans E
    clear E
    refine rigS _ _ _ _ _ _ _ _ _ _ _ _ _ _ _ _ _ _ _ _ _ _ _ _ _ _ _ _ _ _ _ _ _ _ _ _ _ _ _ _ _ _ _ _ _ _ _ _ _ _ _ _ _ _ _ _ _ _ _ _ _ _ _ _ _ _ _ _ _ _ _ _ _ _ _ _ _ _ _ _ _ _ _ _ _ _ _ _ _ _ _ _ _ _ _ _ _ _ _ _ _ _ _ _ _ _ _ _ _ _ _ _ _ _ _ _ _ _ _ _ _ _ _ _ _ _ _ _ _ _ _ _ _ _ _ _ _ _ _ _ _ _ _ _ _ _ _ _ _ _ _ _ _ _ _ _ _ _ _ _ _ _ _ _ _ _ w12 _ _ w11.heap.size Wn Hn _ _ _ _ _ L1 L2 L3 y1 y2 y3 _ _ _ (listOf 2 l [⟨0, 0, Wn, Hn⟩]) t bx lA lc l hl r1 r2 r3 (Lib.hid (rects_block kT rfl)) (Lib.hid (RL.out.ext hE)) (U1.out _ _) (U1.out _ _) (U1.out _ _) M1.out M2.out M3.out (eqR_self _) rfl rfl M5.out rfl HBX.out (listOf_length ..) HIB.out _ _ k0 k7 ?_
    intro _ _ _ _ _ _ _ _ _ _ _ _ _ _ _ _ _ _ _ _ _ _ _ _ _ _ _ _ _ _ _ _ _ _ _ _ _ _ _ _ _ _ _ w13 E
    go_wp2_with fail
    go_ret
    exact ⟨rfl, hE.trans E⟩
set_option maxRecDepth 100000 in
set_option maxHeartbeats 8000000 in
theorem right_any (W H : Int) (A : Option Addr) (ca : Nat) (xs : List Int) (W' H' : Int) (A' : Option Addr) (cb : Nat) (ys : List Int) (lA : Option Addr) (lc : Nat) (l : List Rect) (w : World) (rx : Reads .u32 w A xs) (ry : Reads .u32 w A' ys) (hx : ∀ x ∈ xs, 0 ≤ x ∧ x ≤ 4294967295) (hy : ∀ x ∈ ys, 0 ≤ x ∧ x ≤ 4294967295) (rl : RectsAt w lA l) :
    Calls Try.prog 14 #[.agg #[.int .i64 W, .int .i64 H, .slice A xs.length ca], .agg #[.int .i64 W', .int .i64 H', .slice A' ys.length cb], .slice lA l.length lc] w fun e w' => e = .returned (.bool true) ∧ Ext w w' := by
  by_cases h1 : xs.length ≤ 400
  · have d1 : ((400 : Int) < xs.length) = False := by simp; omega
    by_cases h2 : ys.length ≤ 400
    · have d2 : ((400 : Int) < ys.length) = False := by simp; omega
      by_cases h3 : l.length ≤ 16
      · exact by
          cases ho : scrollOf W H xs W' H' ys l with
          | none => exact right_false W H A ca xs W' H' A' cb ys lA lc l w rx ry hx hy rl d1 d2 h3 ho
          | some nn =>
            obtain ⟨g1, _, g3, g4, _⟩ := scroll_some ho
            subst g3
            subst g4
            obtain ⟨b1, _, b3, _, _⟩ := isPic_form g1
            obtain ⟨Wn, rfl⟩ : ∃ n : Nat, W = n := ⟨W.toNat, by omega⟩
            obtain ⟨Hn, rfl⟩ : ∃ n : Nat, H = n := ⟨H.toNat, by omega⟩
            exact right_true Wn Hn A ca xs A' cb ys lA lc l w rx ry hx hy rl d1 d2 h3 nn ho
      · have d3 : ((16 : Int) < l.length) = True := by simp; omega
        clear rx ry rl
        go_enter Try.func14, Try.ntmps14
        go_upto_region 1 with fail
        obtain ⟨w0, hw0⟩ : ∃ zz, zz = (w.alloc (.cells #[.int .i64 W, .int .i64 H, .slice A xs.length ca] 43)).alloc (.cells #[.int .i64 W', .int .i64 H', .slice A' ys.length cb] 43) := ⟨_, rfl⟩
        have k0 : w0.heap[w.heap.size]? = some (.cells #[.int .i64 W, .int .i64 H, .slice A xs.length ca] 43 (0, 0)) := by rw [hw0]; exact blk_old (blk_new w _) _
        have k1 : w0.heap[w.heap.size + 1]? = some (.cells #[.int .i64 W', .int .i64 H', .slice A' ys.length cb] 43 (0, 0)) := by rw [hw0]; exact blk_new1 w _ _
        have hE : Ext w w0 := by rw [hw0]; exact ((Ext.refl w).alloc _).alloc _
        rw [← hw0]
        clear hw0
        obtain ⟨c0, f0⟩ := blk_rules k0
        obtain ⟨c1, f1⟩ := blk_rules k1
        go_wp2_with fail
        refine (wakes18_any _).mono ?_
        rintro e w1 ⟨rfl, E⟩
        go_wp2_with fail
        go_ret
        exact ⟨rfl, hE.trans E⟩
    · have d2 : ((400 : Int) < ys.length) = True := by simp; omega
      clear rx ry rl
      go_enter Try.func14, Try.ntmps14
      go_upto_region 1 with fail
      obtain ⟨w0, hw0⟩ : ∃ zz, zz = (w.alloc (.cells #[.int .i64 W, .int .i64 H, .slice A xs.length ca] 43)).alloc (.cells #[.int .i64 W', .int .i64 H', .slice A' ys.length cb] 43) := ⟨_, rfl⟩
      have k0 : w0.heap[w.heap.size]? = some (.cells #[.int .i64 W, .int .i64 H, .slice A xs.length ca] 43 (0, 0)) := by rw [hw0]; exact blk_old (blk_new w _) _
      have k1 : w0.heap[w.heap.size + 1]? = some (.cells #[.int .i64 W', .int .i64 H', .slice A' ys.length cb] 43 (0, 0)) := by rw [hw0]; exact blk_new1 w _ _
      have hE : Ext w w0 := by rw [hw0]; exact ((Ext.refl w).alloc _).alloc _
      rw [← hw0]
      clear hw0
      obtain ⟨c0, f0⟩ := blk_rules k0
      obtain ⟨c1, f1⟩ := blk_rules k1
      go_wp2_with fail
      refine (wakes18_any _).mono ?_
      rintro e w1 ⟨rfl, E⟩
      go_wp2_with fail
      go_ret
      exact ⟨rfl, hE.trans E⟩
  · have d1 : ((400 : Int) < xs.length) = True := by simp; omega
    clear rx ry rl
    go_enter Try.func14, Try.ntmps14
    go_upto_region 1 with fail
    obtain ⟨w0, hw0⟩ : ∃ zz, zz = (w.alloc (.cells #[.int .i64 W, .int .i64 H, .slice A xs.length ca] 43)).alloc (.cells #[.int .i64 W', .int .i64 H', .slice A' ys.length cb] 43) := ⟨_, rfl⟩
    have k0 : w0.heap[w.heap.size]? = some (.cells #[.int .i64 W, .int .i64 H, .slice A xs.length ca] 43 (0, 0)) := by rw [hw0]; exact blk_old (blk_new w _) _
    have k1 : w0.heap[w.heap.size + 1]? = some (.cells #[.int .i64 W', .int .i64 H', .slice A' ys.length cb] 43 (0, 0)) := by rw [hw0]; exact blk_new1 w _ _
    have hE : Ext w w0 := by rw [hw0]; exact ((Ext.refl w).alloc _).alloc _
    rw [← hw0]
    clear hw0
    obtain ⟨c0, f0⟩ := blk_rules k0
    obtain ⟨c1, f1⟩ := blk_rules k1
    go_wp2_with fail
    refine (wakes18_any _).mono ?_
    rintro e w1 ⟨rfl, E⟩
    go_wp2_with fail
    go_ret
    exact ⟨rfl, hE.trans E⟩
end Go.Proofs.Ytjghghbldifhaaa
