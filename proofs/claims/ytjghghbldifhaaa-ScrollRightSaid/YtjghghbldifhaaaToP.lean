/- A region 'to := And(box, Shift(box, dx, dy))'. Printed by gen_to.py. -/
import Derived.Test.YtjghghbldifhaaaPairA
import Derived.Test.YtjghghbldifhaaaRectD
set_option linter.unusedVariables false
set_option linter.unusedSimpArgs false
namespace Go.Proofs.Ytjghghbldifhaaa
open Go.RowKit Go.Shelf
/-- The first region of that number, in a range over a function too. -/
def findRegionR (n : Nat) : Code → Option Code
  | .region m l b => if m = n then some (.region m l b) else none
  | .block _ c => findRegionR n c
  | .seq a b => match findRegionR n a with
    | some x => some x
    | none => findRegionR n b
  | .loop c => findRegionR n c
  | .scope c => findRegionR n c
  | .cond _ a b => match findRegionR n a with
    | some x => some x
    | none => findRegionR n b
  | .rangeFunc _ _ a b => match findRegionR n a with
    | some x => some x
    | none => findRegionR n b
  | _ => none
noncomputable def toPC : Code := (Try.f52.body.bind (findRegionR 10)).getD .skip
set_option maxRecDepth 100000 in
set_option maxHeartbeats 16000000 in
theorem toP (c0 c1 c2 c3 c4 c5 c6 c7 c8 c9 c10 c11 c13 c16 c17 c18 c19 c20 c21 c22 c23 c24 c25 c26 c27 c28 c29 c30 c31 c32 c33 c34 c35 c36 c37 c38 c39 c40 c41 c42 c43 c44 c45 c46 c47 c48 c49 c50 c51 c52 c53 c54 c55 c56 c57 c58 c59 c60 c61 c62 c63 c64 c65 c66 c67 c68 c69 c70 c71 c72 c73 c74 c75 c76 c77 c78 c79 c80 c81 c82 c83 c84 c85 c86 c87 c88 c89 : Value) (w : World) (P lp nn : Nat) (bx : Rect) (dx dy : Int) (t : Rect) (ht : bx.and (bx.shift dx dy) = t) (K : Act → World → Prop) (Q' : Exit → Act → World → Prop)
    (kb : w.heap[P]? = some (.cells #[.int .i64 bx.x, .int .i64 bx.y, .int .i64 bx.w, .int .i64 bx.h] 26 (0, 0)))
    (hK : ∀ (u66 u67 u68 u69 u70 u71 : Value) (G : Nat) (w' : World), w'.heap[G]? = some (.cells #[.int .i64 t.x, .int .i64 t.y, .int .i64 t.w, .int .i64 t.h] 26 (0, 0)) → w.heap.size ≤ G → Ext w w' → K { tmps := #[c0, c1, c2, c3, c4, c5, c6, c7, c8, c9, c10, c11, .pointer (some ⟨P, 0, none⟩), c13, .int .i64 dx, .int .i64 dy, .pointer (some ⟨G, 0, none⟩), c17, c18, c19, c20, c21, c22, c23, c24, c25, c26, c27, c28, c29, c30, c31, c32, c33, c34, c35, c36, c37, c38, c39, c40, c41, c42, c43, c44, c45, c46, c47, c48, c49, c50, c51, c52, c53, c54, c55, c56, c57, c58, c59, c60, c61, c62, c63, c64, c65, u66, u67, u68, u69, u70, u71, c72, c73, c74, c75, c76, c77, c78, c79, c80, c81, c82, c83, c84, c85, c86, c87, c88, c89], defers := [] } w') :
    Code.wpIn (Fence.wide.inRound lp) nn Try.prog toPC (Exit.then K Q') { tmps := #[c0, c1, c2, c3, c4, c5, c6, c7, c8, c9, c10, c11, .pointer (some ⟨P, 0, none⟩), c13, .int .i64 dx, .int .i64 dy, c16, c17, c18, c19, c20, c21, c22, c23, c24, c25, c26, c27, c28, c29, c30, c31, c32, c33, c34, c35, c36, c37, c38, c39, c40, c41, c42, c43, c44, c45, c46, c47, c48, c49, c50, c51, c52, c53, c54, c55, c56, c57, c58, c59, c60, c61, c62, c63, c64, c65, c66, c67, c68, c69, c70, c71, c72, c73, c74, c75, c76, c77, c78, c79, c80, c81, c82, c83, c84, c85, c86, c87, c88, c89], defers := [] } w := by
  conv => arg 4; whnf
  have cS := fun w => shift_any bx.x bx.y bx.w bx.h dx dy w
  obtain ⟨s, hs⟩ : ∃ s, bx.shift dx dy = s := ⟨_, rfl⟩
  simp only [show Rect.mk bx.x bx.y bx.w bx.h = bx from rfl, hs] at cS
  have cT := fun w => and_any bx.x bx.y bx.w bx.h s.x s.y s.w s.h w
  rw [hs] at ht
  simp only [show Rect.mk bx.x bx.y bx.w bx.h = bx from rfl, show Rect.mk s.x s.y s.w s.h = s from rfl, ht] at cT
  clear hs ht
  have j1 := After.blk kb
  refine round_region_sched (fun w' => ∃ x : After w, w' = x.now) (by kernel_rfl) (by kernel_rfl) ?_
  refine held_take [0, 1, 2, 3] _ _ 4 rfl (by kernel_rfl) rfl (by kernel_rfl) ⟨⟨w.drew, (Ext.refl w).drew⟩, rfl⟩ ?_
  simp only [List.filterMap_cons, List.filterMap_nil, List.getElem?_toArray, List.getElem?_cons_succ, List.getElem?_cons_zero]
  repeat (quiet_step (fail))
  refine wpQuiet_nil ?_
  clear j1
  change wpAnyH _ _ _ _ _ _ _ _ w.drew
  have hE0 : Ext w w.drew := (Ext.refl w).drew
  generalize w.drew = w0 at *
  refine held_two' (k1 := 4) (k2 := 6) rfl rfl (by kernel_rfl) ?_ ?_
  · go_wp2_with fail
    refine (cS _).mono ?_
    rintro e w1 ⟨rfl, E⟩
    have hE1 := hE0.trans E
    clear E
    go_wp2_with fail
    refine ⟨⟨⟨w1, hE1⟩, rfl⟩, ?_⟩
    refine held_two' (k1 := 5) (k2 := 6) rfl rfl (by kernel_rfl) ?_ ?_
    · go_wp2_with fail
      refine (cT _).mono ?_
      rintro e w2 ⟨rfl, E⟩
      have hE2 := hE1.trans E
      clear E
      go_wp2_with fail
      refine ⟨⟨⟨w2, hE2⟩, rfl⟩, ?_⟩
      refine held_step (k := 6) rfl (by kernel_rfl) ?_
      go_wp2_with fail
      obtain ⟨w3, hw3⟩ : ∃ x, x = w2.alloc (.cells #[.int .i64 0, .int .i64 0, .int .i64 0, .int .i64 0] 26) := ⟨_, rfl⟩
      have kG : w3.heap[w2.heap.size]? = some (.cells #[.int .i64 0, .int .i64 0, .int .i64 0, .int .i64 0] 26 (0, 0)) := by rw [hw3]; exact blk_new _ _
      have hE3 : Ext w w3 := by rw [hw3]; exact hE2.alloc _
      have gG := hE2.size
      obtain ⟨G, hG⟩ : ∃ x, w2.heap.size = x := ⟨_, rfl⟩
      rw [← hw3]
      simp only [hG] at kG gG ⊢
      clear hw3 hG
      refine ⟨⟨⟨w3, hE3⟩, rfl⟩, ?_⟩
      obtain ⟨z1, y1⟩ := blk_rules kG
      have lG := blk_lt kG
      refine held_step (k := 7) rfl (by kernel_rfl) ?_
      go_wp2_with fail
      have hEf := (((hE3.set (p := ⟨G, 0, none⟩) gG (.int .i64 t.x)).set (p := ⟨G, 1, none⟩) gG (.int .i64 t.y)).set (p := ⟨G, 2, none⟩) gG (.int .i64 t.w)).set (p := ⟨G, 3, none⟩) gG (.int .i64 t.h)
      refine ⟨⟨⟨_, hEf⟩, rfl⟩, ?_⟩
      refine held_done (by kernel_rfl) ?_
      refine hK _ _ _ _ _ _ G _ ?_ gG hEf
      simpa using blk_set (blk_set (blk_set (blk_set kG 0 (.int .i64 t.x)) 1 (.int .i64 t.y)) 2 (.int .i64 t.w)) 3 (.int .i64 t.h)
    · go_wp2_with fail
      obtain ⟨w2, hw2⟩ : ∃ x, x = w1.alloc (.cells #[.int .i64 0, .int .i64 0, .int .i64 0, .int .i64 0] 26) := ⟨_, rfl⟩
      have kG : w2.heap[w1.heap.size]? = some (.cells #[.int .i64 0, .int .i64 0, .int .i64 0, .int .i64 0] 26 (0, 0)) := by rw [hw2]; exact blk_new _ _
      have hE2 : Ext w w2 := by rw [hw2]; exact hE1.alloc _
      have gG := hE1.size
      obtain ⟨G, hG⟩ : ∃ x, w1.heap.size = x := ⟨_, rfl⟩
      rw [← hw2]
      simp only [hG] at kG gG ⊢
      clear hw2 hG
      refine ⟨⟨⟨w2, hE2⟩, rfl⟩, ?_⟩
      refine held_step (k := 5) rfl (by kernel_rfl) ?_
      go_wp2_with fail
      refine (cT _).mono ?_
      rintro e w3 ⟨rfl, E⟩
      replace kG := E.keep kG
      have hE3 := hE2.trans E
      clear E
      go_wp2_with fail
      refine ⟨⟨⟨w3, hE3⟩, rfl⟩, ?_⟩
      obtain ⟨z1, y1⟩ := blk_rules kG
      have lG := blk_lt kG
      refine held_step (k := 7) rfl (by kernel_rfl) ?_
      go_wp2_with fail
      have hEf := (((hE3.set (p := ⟨G, 0, none⟩) gG (.int .i64 t.x)).set (p := ⟨G, 1, none⟩) gG (.int .i64 t.y)).set (p := ⟨G, 2, none⟩) gG (.int .i64 t.w)).set (p := ⟨G, 3, none⟩) gG (.int .i64 t.h)
      refine ⟨⟨⟨_, hEf⟩, rfl⟩, ?_⟩
      refine held_done (by kernel_rfl) ?_
      refine hK _ _ _ _ _ _ G _ ?_ gG hEf
      simpa using blk_set (blk_set (blk_set (blk_set kG 0 (.int .i64 t.x)) 1 (.int .i64 t.y)) 2 (.int .i64 t.w)) 3 (.int .i64 t.h)
  · go_wp2_with fail
    obtain ⟨w1, hw1⟩ : ∃ x, x = w0.alloc (.cells #[.int .i64 0, .int .i64 0, .int .i64 0, .int .i64 0] 26) := ⟨_, rfl⟩
    have kG : w1.heap[w0.heap.size]? = some (.cells #[.int .i64 0, .int .i64 0, .int .i64 0, .int .i64 0] 26 (0, 0)) := by rw [hw1]; exact blk_new _ _
    have hE1 : Ext w w1 := by rw [hw1]; exact hE0.alloc _
    have gG := hE0.size
    obtain ⟨G, hG⟩ : ∃ x, w0.heap.size = x := ⟨_, rfl⟩
    rw [← hw1]
    simp only [hG] at kG gG ⊢
    clear hw1 hG
    refine ⟨⟨⟨w1, hE1⟩, rfl⟩, ?_⟩
    refine held_step (k := 4) rfl (by kernel_rfl) ?_
    go_wp2_with fail
    refine (cS _).mono ?_
    rintro e w2 ⟨rfl, E⟩
    replace kG := E.keep kG
    have hE2 := hE1.trans E
    clear E
    go_wp2_with fail
    refine ⟨⟨⟨w2, hE2⟩, rfl⟩, ?_⟩
    refine held_step (k := 5) rfl (by kernel_rfl) ?_
    go_wp2_with fail
    refine (cT _).mono ?_
    rintro e w3 ⟨rfl, E⟩
    replace kG := E.keep kG
    have hE3 := hE2.trans E
    clear E
    go_wp2_with fail
    refine ⟨⟨⟨w3, hE3⟩, rfl⟩, ?_⟩
    obtain ⟨z1, y1⟩ := blk_rules kG
    have lG := blk_lt kG
    refine held_step (k := 7) rfl (by kernel_rfl) ?_
    go_wp2_with fail
    have hEf := (((hE3.set (p := ⟨G, 0, none⟩) gG (.int .i64 t.x)).set (p := ⟨G, 1, none⟩) gG (.int .i64 t.y)).set (p := ⟨G, 2, none⟩) gG (.int .i64 t.w)).set (p := ⟨G, 3, none⟩) gG (.int .i64 t.h)
    refine ⟨⟨⟨_, hEf⟩, rfl⟩, ?_⟩
    refine held_done (by kernel_rfl) ?_
    refine hK _ _ _ _ _ _ G _ ?_ gG hEf
    simpa using blk_set (blk_set (blk_set (blk_set kG 0 (.int .i64 t.x)) 1 (.int .i64 t.y)) 2 (.int .i64 t.w)) 3 (.int .i64 t.h)
end Go.Proofs.Ytjghghbldifhaaa
