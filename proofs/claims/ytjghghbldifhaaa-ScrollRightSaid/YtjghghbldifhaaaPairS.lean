/- A region 'x, y := Own(a), Own(b)'. Printed by gen_pair.py. -/
import Derived.Test.YtjghghbldifhaaaPairA
set_option linter.unusedVariables false
set_option linter.unusedSimpArgs false
namespace Go.Proofs.Ytjghghbldifhaaa
open Go.RowKit
noncomputable def pairSC : Code := (Try.f53.body.bind (findRegion 3)).getD .skip
set_option maxRecDepth 100000 in
set_option maxHeartbeats 32000000 in
theorem pairS (c0 c1 c2 c5 c6 c7 c8 c9 c10 c11 c12 c13 c14 c15 c16 c17 c18 c19 c20 c21 c22 c23 c24 c25 c26 c27 c28 c29 c30 c31 c32 c33 c34 c35 c36 c37 c38 c39 c40 c41 c42 c43 c44 c45 c46 c47 c48 c49 c50 c51 c52 c53 c54 c55 c56 c57 c58 c59 c60 c61 c62 c63 c64 c65 c66 c67 c68 c69 c70 c71 c72 c73 c74 c75 c76 c77 c78 c79 c80 c81 c82 c83 c84 c85 c86 c87 c88 c89 c90 c91 c92 c93 c94 c95 c96 : Value) (w : World) (W H W' H' : Int) (A A' : Option Addr) (ca cb P1 P2 : Nat) (xs ys : List Int) (K : Act → World → Prop) (Q' : Exit → Act → World → Prop)
    (ka : w.heap[P1]? = some (.cells #[.int .i64 W, .int .i64 H, .slice A xs.length ca] 43 (0, 0))) (kb : w.heap[P2]? = some (.cells #[.int .i64 W', .int .i64 H', .slice A' ys.length cb] 43 (0, 0)))
    (rx : Hid (Reads .u32 w A xs)) (ry : Hid (Reads .u32 w A' ys)) (hx : Hid (∀ x ∈ xs, 0 ≤ x ∧ x ≤ 4294967295)) (hy : Hid (∀ x ∈ ys, 0 ≤ x ∧ x ≤ 4294967295)) (hxn : xs.length ≤ 65536) (hyn : ys.length ≤ 65536)
    (hK : ∀ (u40 u41 u42 u43 : Value) (G1 G2 : Nat) (B1 B2 : Option Addr) (e1 e2 : Nat) (w' : World), w'.heap[G1]? = some (.cells #[.int .i64 W, .int .i64 H, .slice B1 xs.length e1] 43 (0, 0)) → w'.heap[G2]? = some (.cells #[.int .i64 W', .int .i64 H', .slice B2 ys.length e2] 43 (0, 0)) → Reads .u32 w' B1 (xs.map cut24) → Reads .u32 w' B2 (ys.map cut24) → Ext w w' → K { tmps := #[c0, c1, c2, .pointer (some ⟨P1, 0, none⟩), .pointer (some ⟨P2, 0, none⟩), c5, c6, c7, .pointer (some ⟨G1, 0, none⟩), .pointer (some ⟨G2, 0, none⟩), c10, c11, c12, c13, c14, c15, c16, c17, c18, c19, c20, c21, c22, c23, c24, c25, c26, c27, c28, c29, c30, c31, c32, c33, c34, c35, c36, c37, c38, c39, u40, u41, u42, u43, c44, c45, c46, c47, c48, c49, c50, c51, c52, c53, c54, c55, c56, c57, c58, c59, c60, c61, c62, c63, c64, c65, c66, c67, c68, c69, c70, c71, c72, c73, c74, c75, c76, c77, c78, c79, c80, c81, c82, c83, c84, c85, c86, c87, c88, c89, c90, c91, c92, c93, c94, c95, c96], defers := [] } w') :
    Code.wp Try.prog pairSC (Exit.then K Q') { tmps := #[c0, c1, c2, .pointer (some ⟨P1, 0, none⟩), .pointer (some ⟨P2, 0, none⟩), c5, c6, c7, c8, c9, c10, c11, c12, c13, c14, c15, c16, c17, c18, c19, c20, c21, c22, c23, c24, c25, c26, c27, c28, c29, c30, c31, c32, c33, c34, c35, c36, c37, c38, c39, c40, c41, c42, c43, c44, c45, c46, c47, c48, c49, c50, c51, c52, c53, c54, c55, c56, c57, c58, c59, c60, c61, c62, c63, c64, c65, c66, c67, c68, c69, c70, c71, c72, c73, c74, c75, c76, c77, c78, c79, c80, c81, c82, c83, c84, c85, c86, c87, c88, c89, c90, c91, c92, c93, c94, c95, c96], defers := [] } w := by
  conv => arg 2; whnf
  have j1 := After.blk ka
  have j2 := After.blk kb
  refine wp_region_sched (fun w' => ∃ x : After w, w' = x.now) (by kernel_rfl) ?_
  refine held_take [0, 2] _ _ 6 rfl (by kernel_rfl) rfl (by kernel_rfl) ⟨⟨w.drew, (Ext.refl w).drew⟩, rfl⟩ ?_
  simp only [List.filterMap_cons, List.filterMap_nil, List.getElem?_toArray, List.getElem?_cons_succ, List.getElem?_cons_zero]
  repeat (quiet_step (fail))
  refine wpQuiet_nil ?_
  clear j1 j2
  change wpAnyH _ _ _ _ _ _ _ _ w.drew
  have hE0 : Ext w w.drew := (Ext.refl w).drew
  generalize w.drew = w0 at *
  refine held_three (k1 := 1) (k2 := 4) (k3 := 5) rfl rfl rfl (by kernel_rfl) ?_ ?_ ?_
  · go_wp2_with fail
    refine (rown_any W H A ca xs _ (rx.out.ext hE0) hx.out hxn).mono ?_
    rintro e w1 ⟨Ba, da, rfl, ho, E⟩
    have ra := RowHas.of ho
    have hE1 := hE0.trans E
    clear ho E
    go_wp2_with fail
    refine ⟨⟨⟨w1, hE1⟩, rfl⟩, ?_⟩
    refine held_three (k1 := 3) (k2 := 4) (k3 := 5) rfl rfl rfl (by kernel_rfl) ?_ ?_ ?_
    · go_wp2_with fail
      refine (rown_any W' H' A' cb ys _ (ry.out.ext hE1) hy.out hyn).mono ?_
      rintro e w2 ⟨Bb, db, rfl, ho, E⟩
      have rb := RowHas.of ho
      replace ra := ra.ext E
      have hE2 := hE1.trans E
      clear ho E
      go_wp2_with fail
      refine ⟨⟨⟨w2, hE2⟩, rfl⟩, ?_⟩
      refine held_two' (k1 := 4) (k2 := 5) rfl rfl (by kernel_rfl) ?_ ?_
      · go_wp2_with fail
        obtain ⟨w3, hw3⟩ : ∃ x, x = w2.alloc (.cells #[.int .i64 0, .int .i64 0, .slice none 0 0] 43) := ⟨_, rfl⟩
        have E : Ext w2 w3 := by rw [hw3]; exact (Ext.refl _).alloc _
        have k1 : w3.heap[w2.heap.size]? = some (.cells #[.int .i64 0, .int .i64 0, .slice none 0 0] 43 (0, 0)) := by rw [hw3]; exact blk_new _ _
        have g1 := hE2.size
        obtain ⟨G1, hG1⟩ : ∃ x, w2.heap.size = x := ⟨_, rfl⟩
        rw [← hw3]
        simp only [hG1] at k1 g1 ⊢
        have ka' := ra.apart (g := G1) (by omega)
        have kb' := rb.apart (g := G1) (by omega)
        replace ra := ra.ext E
        replace rb := rb.ext E
        have lt1 := blk_lt k1
        have hE3 := hE2.trans E
        clear E hw3
        refine ⟨⟨⟨w3, hE3⟩, rfl⟩, ?_⟩
        refine held_step (k := 5) rfl (by kernel_rfl) ?_
        go_wp2_with fail
        obtain ⟨w4, hw4⟩ : ∃ x, x = w3.alloc (.cells #[.int .i64 0, .int .i64 0, .slice none 0 0] 43) := ⟨_, rfl⟩
        have E : Ext w3 w4 := by rw [hw4]; exact (Ext.refl _).alloc _
        have k2 : w4.heap[w3.heap.size]? = some (.cells #[.int .i64 0, .int .i64 0, .slice none 0 0] 43 (0, 0)) := by rw [hw4]; exact blk_new _ _
        have g2 := hE3.size
        obtain ⟨G2, hG2⟩ : ∃ x, w3.heap.size = x := ⟨_, rfl⟩
        rw [← hw4]
        simp only [hG2] at k2 g2 ⊢
        have hne : G1 ≠ G2 := by have := blk_lt k1; omega
        have ka2 := ra.apart (g := G2) (by omega)
        have kb2 := rb.apart (g := G2) (by omega)
        replace k1 := E.keep k1
        replace ra := ra.ext E
        replace rb := rb.ext E
        have lt2 := blk_lt k2
        replace lt1 := Nat.lt_of_lt_of_le lt1 E.size
        have hE4 := hE3.trans E
        clear E hw4
        refine ⟨⟨⟨w4, hE4⟩, rfl⟩, ?_⟩
        obtain ⟨z1, y1⟩ := blk_rules k1
        obtain ⟨z2, y2⟩ := blk_rules k2
        have l1 := blk_lt k1
        have l2 := blk_lt k2
        refine held_step (k := 6) rfl (by kernel_rfl) ?_
        go_wp2_with fail
        refine ⟨⟨⟨_, ((hE4.set (p := ⟨G1, 0, none⟩) g1 _).set (p := ⟨G1, 1, none⟩) g1 _).set (p := ⟨G1, 2, none⟩) g1 _⟩, rfl⟩, ?_⟩
        refine held_step (k := 7) rfl (by kernel_rfl) ?_
        go_wp2_with fail
        have hEf := ((((((hE4.set (p := ⟨G1, 0, none⟩) g1 (.int .i64 W)).set (p := ⟨G1, 1, none⟩) g1 (.int .i64 H)).set (p := ⟨G1, 2, none⟩) g1 (.slice Ba xs.length da)).set (p := ⟨G2, 0, none⟩) g2 (.int .i64 W')).set (p := ⟨G2, 1, none⟩) g2 (.int .i64 H')).set (p := ⟨G2, 2, none⟩) g2 (.slice Bb ys.length db))
        refine ⟨⟨⟨_, hEf⟩, rfl⟩, ?_⟩
        refine held_done (by kernel_rfl) ?_
        refine hK _ _ _ _ G1 G2 Ba Bb da db _ ?_ ?_ ((((((ra.set ka').set ka').set ka').set ka2).set ka2).set ka2).reads ((((((rb.set kb').set kb').set kb').set kb2).set kb2).set kb2).reads hEf
        · exact blk_set_ne (blk_set_ne (blk_set_ne (by simpa using blk_set (blk_set (blk_set k1 0 (.int .i64 W)) 1 (.int .i64 H)) 2 (.slice Ba xs.length da)) hne _ _) hne _ _) hne _ _
        · simpa using blk_set (blk_set (blk_set (blk_set_ne (blk_set_ne (blk_set_ne k2 hne.symm 0 (.int .i64 W)) hne.symm 1 (.int .i64 H)) hne.symm 2 (.slice Ba xs.length da)) 0 (.int .i64 W')) 1 (.int .i64 H')) 2 (.slice Bb ys.length db)
      · go_wp2_with fail
        obtain ⟨w3, hw3⟩ : ∃ x, x = w2.alloc (.cells #[.int .i64 0, .int .i64 0, .slice none 0 0] 43) := ⟨_, rfl⟩
        have E : Ext w2 w3 := by rw [hw3]; exact (Ext.refl _).alloc _
        have k2 : w3.heap[w2.heap.size]? = some (.cells #[.int .i64 0, .int .i64 0, .slice none 0 0] 43 (0, 0)) := by rw [hw3]; exact blk_new _ _
        have g2 := hE2.size
        obtain ⟨G2, hG2⟩ : ∃ x, w2.heap.size = x := ⟨_, rfl⟩
        rw [← hw3]
        simp only [hG2] at k2 g2 ⊢
        have ka2 := ra.apart (g := G2) (by omega)
        have kb2 := rb.apart (g := G2) (by omega)
        replace ra := ra.ext E
        replace rb := rb.ext E
        have lt2 := blk_lt k2
        have hE3 := hE2.trans E
        clear E hw3
        refine ⟨⟨⟨w3, hE3⟩, rfl⟩, ?_⟩
        refine held_step (k := 4) rfl (by kernel_rfl) ?_
        go_wp2_with fail
        obtain ⟨w4, hw4⟩ : ∃ x, x = w3.alloc (.cells #[.int .i64 0, .int .i64 0, .slice none 0 0] 43) := ⟨_, rfl⟩
        have E : Ext w3 w4 := by rw [hw4]; exact (Ext.refl _).alloc _
        have k1 : w4.heap[w3.heap.size]? = some (.cells #[.int .i64 0, .int .i64 0, .slice none 0 0] 43 (0, 0)) := by rw [hw4]; exact blk_new _ _
        have g1 := hE3.size
        obtain ⟨G1, hG1⟩ : ∃ x, w3.heap.size = x := ⟨_, rfl⟩
        rw [← hw4]
        simp only [hG1] at k1 g1 ⊢
        have hne : G1 ≠ G2 := by have := blk_lt k2; omega
        have ka' := ra.apart (g := G1) (by omega)
        have kb' := rb.apart (g := G1) (by omega)
        replace k2 := E.keep k2
        replace ra := ra.ext E
        replace rb := rb.ext E
        have lt1 := blk_lt k1
        replace lt2 := Nat.lt_of_lt_of_le lt2 E.size
        have hE4 := hE3.trans E
        clear E hw4
        refine ⟨⟨⟨w4, hE4⟩, rfl⟩, ?_⟩
        obtain ⟨z1, y1⟩ := blk_rules k1
        obtain ⟨z2, y2⟩ := blk_rules k2
        have l1 := blk_lt k1
        have l2 := blk_lt k2
        refine held_step (k := 6) rfl (by kernel_rfl) ?_
        go_wp2_with fail
        refine ⟨⟨⟨_, ((hE4.set (p := ⟨G1, 0, none⟩) g1 _).set (p := ⟨G1, 1, none⟩) g1 _).set (p := ⟨G1, 2, none⟩) g1 _⟩, rfl⟩, ?_⟩
        refine held_step (k := 7) rfl (by kernel_rfl) ?_
        go_wp2_with fail
        have hEf := ((((((hE4.set (p := ⟨G1, 0, none⟩) g1 (.int .i64 W)).set (p := ⟨G1, 1, none⟩) g1 (.int .i64 H)).set (p := ⟨G1, 2, none⟩) g1 (.slice Ba xs.length da)).set (p := ⟨G2, 0, none⟩) g2 (.int .i64 W')).set (p := ⟨G2, 1, none⟩) g2 (.int .i64 H')).set (p := ⟨G2, 2, none⟩) g2 (.slice Bb ys.length db))
        refine ⟨⟨⟨_, hEf⟩, rfl⟩, ?_⟩
        refine held_done (by kernel_rfl) ?_
        refine hK _ _ _ _ G1 G2 Ba Bb da db _ ?_ ?_ ((((((ra.set ka').set ka').set ka').set ka2).set ka2).set ka2).reads ((((((rb.set kb').set kb').set kb').set kb2).set kb2).set kb2).reads hEf
        · exact blk_set_ne (blk_set_ne (blk_set_ne (by simpa using blk_set (blk_set (blk_set k1 0 (.int .i64 W)) 1 (.int .i64 H)) 2 (.slice Ba xs.length da)) hne _ _) hne _ _) hne _ _
        · simpa using blk_set (blk_set (blk_set (blk_set_ne (blk_set_ne (blk_set_ne k2 hne.symm 0 (.int .i64 W)) hne.symm 1 (.int .i64 H)) hne.symm 2 (.slice Ba xs.length da)) 0 (.int .i64 W')) 1 (.int .i64 H')) 2 (.slice Bb ys.length db)
    · go_wp2_with fail
      obtain ⟨w2, hw2⟩ : ∃ x, x = w1.alloc (.cells #[.int .i64 0, .int .i64 0, .slice none 0 0] 43) := ⟨_, rfl⟩
      have E : Ext w1 w2 := by rw [hw2]; exact (Ext.refl _).alloc _
      have k1 : w2.heap[w1.heap.size]? = some (.cells #[.int .i64 0, .int .i64 0, .slice none 0 0] 43 (0, 0)) := by rw [hw2]; exact blk_new _ _
      have g1 := hE1.size
      obtain ⟨G1, hG1⟩ : ∃ x, w1.heap.size = x := ⟨_, rfl⟩
      rw [← hw2]
      simp only [hG1] at k1 g1 ⊢
      have ka' := ra.apart (g := G1) (by omega)
      replace ra := ra.ext E
      have lt1 := blk_lt k1
      have hE2 := hE1.trans E
      clear E hw2
      refine ⟨⟨⟨w2, hE2⟩, rfl⟩, ?_⟩
      refine held_two' (k1 := 3) (k2 := 5) rfl rfl (by kernel_rfl) ?_ ?_
      · go_wp2_with fail
        refine (rown_any W' H' A' cb ys _ (ry.out.ext hE2) hy.out hyn).mono ?_
        rintro e w3 ⟨Bb, db, rfl, ho, E⟩
        have rb := RowHas.of ho
        replace k1 := E.keep k1
        have kb' := rb.behind (g := G1) lt1
        replace ra := ra.ext E
        replace lt1 := Nat.lt_of_lt_of_le lt1 E.size
        have hE3 := hE2.trans E
        clear ho E
        go_wp2_with fail
        refine ⟨⟨⟨w3, hE3⟩, rfl⟩, ?_⟩
        refine held_step (k := 5) rfl (by kernel_rfl) ?_
        go_wp2_with fail
        obtain ⟨w4, hw4⟩ : ∃ x, x = w3.alloc (.cells #[.int .i64 0, .int .i64 0, .slice none 0 0] 43) := ⟨_, rfl⟩
        have E : Ext w3 w4 := by rw [hw4]; exact (Ext.refl _).alloc _
        have k2 : w4.heap[w3.heap.size]? = some (.cells #[.int .i64 0, .int .i64 0, .slice none 0 0] 43 (0, 0)) := by rw [hw4]; exact blk_new _ _
        have g2 := hE3.size
        obtain ⟨G2, hG2⟩ : ∃ x, w3.heap.size = x := ⟨_, rfl⟩
        rw [← hw4]
        simp only [hG2] at k2 g2 ⊢
        have hne : G1 ≠ G2 := by have := blk_lt k1; omega
        have ka2 := ra.apart (g := G2) (by omega)
        have kb2 := rb.apart (g := G2) (by omega)
        replace k1 := E.keep k1
        replace ra := ra.ext E
        replace rb := rb.ext E
        have lt2 := blk_lt k2
        replace lt1 := Nat.lt_of_lt_of_le lt1 E.size
        have hE4 := hE3.trans E
        clear E hw4
        refine ⟨⟨⟨w4, hE4⟩, rfl⟩, ?_⟩
        obtain ⟨z1, y1⟩ := blk_rules k1
        obtain ⟨z2, y2⟩ := blk_rules k2
        have l1 := blk_lt k1
        have l2 := blk_lt k2
        refine held_step (k := 6) rfl (by kernel_rfl) ?_
        go_wp2_with fail
        refine ⟨⟨⟨_, ((hE4.set (p := ⟨G1, 0, none⟩) g1 _).set (p := ⟨G1, 1, none⟩) g1 _).set (p := ⟨G1, 2, none⟩) g1 _⟩, rfl⟩, ?_⟩
        refine held_step (k := 7) rfl (by kernel_rfl) ?_
        go_wp2_with fail
        have hEf := ((((((hE4.set (p := ⟨G1, 0, none⟩) g1 (.int .i64 W)).set (p := ⟨G1, 1, none⟩) g1 (.int .i64 H)).set (p := ⟨G1, 2, none⟩) g1 (.slice Ba xs.length da)).set (p := ⟨G2, 0, none⟩) g2 (.int .i64 W')).set (p := ⟨G2, 1, none⟩) g2 (.int .i64 H')).set (p := ⟨G2, 2, none⟩) g2 (.slice Bb ys.length db))
        refine ⟨⟨⟨_, hEf⟩, rfl⟩, ?_⟩
        refine held_done (by kernel_rfl) ?_
        refine hK _ _ _ _ G1 G2 Ba Bb da db _ ?_ ?_ ((((((ra.set ka').set ka').set ka').set ka2).set ka2).set ka2).reads ((((((rb.set kb').set kb').set kb').set kb2).set kb2).set kb2).reads hEf
        · exact blk_set_ne (blk_set_ne (blk_set_ne (by simpa using blk_set (blk_set (blk_set k1 0 (.int .i64 W)) 1 (.int .i64 H)) 2 (.slice Ba xs.length da)) hne _ _) hne _ _) hne _ _
        · simpa using blk_set (blk_set (blk_set (blk_set_ne (blk_set_ne (blk_set_ne k2 hne.symm 0 (.int .i64 W)) hne.symm 1 (.int .i64 H)) hne.symm 2 (.slice Ba xs.length da)) 0 (.int .i64 W')) 1 (.int .i64 H')) 2 (.slice Bb ys.length db)
      · go_wp2_with fail
        obtain ⟨w3, hw3⟩ : ∃ x, x = w2.alloc (.cells #[.int .i64 0, .int .i64 0, .slice none 0 0] 43) := ⟨_, rfl⟩
        have E : Ext w2 w3 := by rw [hw3]; exact (Ext.refl _).alloc _
        have k2 : w3.heap[w2.heap.size]? = some (.cells #[.int .i64 0, .int .i64 0, .slice none 0 0] 43 (0, 0)) := by rw [hw3]; exact blk_new _ _
        have g2 := hE2.size
        obtain ⟨G2, hG2⟩ : ∃ x, w2.heap.size = x := ⟨_, rfl⟩
        rw [← hw3]
        simp only [hG2] at k2 g2 ⊢
        have hne : G1 ≠ G2 := by have := blk_lt k1; omega
        have ka2 := ra.apart (g := G2) (by omega)
        replace k1 := E.keep k1
        replace ra := ra.ext E
        have lt2 := blk_lt k2
        replace lt1 := Nat.lt_of_lt_of_le lt1 E.size
        have hE3 := hE2.trans E
        clear E hw3
        refine ⟨⟨⟨w3, hE3⟩, rfl⟩, ?_⟩
        refine held_step (k := 3) rfl (by kernel_rfl) ?_
        go_wp2_with fail
        refine (rown_any W' H' A' cb ys _ (ry.out.ext hE3) hy.out hyn).mono ?_
        rintro e w4 ⟨Bb, db, rfl, ho, E⟩
        have rb := RowHas.of ho
        replace k1 := E.keep k1
        replace k2 := E.keep k2
        have kb' := rb.behind (g := G1) lt1
        have kb2 := rb.behind (g := G2) lt2
        replace ra := ra.ext E
        replace lt1 := Nat.lt_of_lt_of_le lt1 E.size
        replace lt2 := Nat.lt_of_lt_of_le lt2 E.size
        have hE4 := hE3.trans E
        clear ho E
        go_wp2_with fail
        refine ⟨⟨⟨w4, hE4⟩, rfl⟩, ?_⟩
        obtain ⟨z1, y1⟩ := blk_rules k1
        obtain ⟨z2, y2⟩ := blk_rules k2
        have l1 := blk_lt k1
        have l2 := blk_lt k2
        refine held_step (k := 6) rfl (by kernel_rfl) ?_
        go_wp2_with fail
        refine ⟨⟨⟨_, ((hE4.set (p := ⟨G1, 0, none⟩) g1 _).set (p := ⟨G1, 1, none⟩) g1 _).set (p := ⟨G1, 2, none⟩) g1 _⟩, rfl⟩, ?_⟩
        refine held_step (k := 7) rfl (by kernel_rfl) ?_
        go_wp2_with fail
        have hEf := ((((((hE4.set (p := ⟨G1, 0, none⟩) g1 (.int .i64 W)).set (p := ⟨G1, 1, none⟩) g1 (.int .i64 H)).set (p := ⟨G1, 2, none⟩) g1 (.slice Ba xs.length da)).set (p := ⟨G2, 0, none⟩) g2 (.int .i64 W')).set (p := ⟨G2, 1, none⟩) g2 (.int .i64 H')).set (p := ⟨G2, 2, none⟩) g2 (.slice Bb ys.length db))
        refine ⟨⟨⟨_, hEf⟩, rfl⟩, ?_⟩
        refine held_done (by kernel_rfl) ?_
        refine hK _ _ _ _ G1 G2 Ba Bb da db _ ?_ ?_ ((((((ra.set ka').set ka').set ka').set ka2).set ka2).set ka2).reads ((((((rb.set kb').set kb').set kb').set kb2).set kb2).set kb2).reads hEf
        · exact blk_set_ne (blk_set_ne (blk_set_ne (by simpa using blk_set (blk_set (blk_set k1 0 (.int .i64 W)) 1 (.int .i64 H)) 2 (.slice Ba xs.length da)) hne _ _) hne _ _) hne _ _
        · simpa using blk_set (blk_set (blk_set (blk_set_ne (blk_set_ne (blk_set_ne k2 hne.symm 0 (.int .i64 W)) hne.symm 1 (.int .i64 H)) hne.symm 2 (.slice Ba xs.length da)) 0 (.int .i64 W')) 1 (.int .i64 H')) 2 (.slice Bb ys.length db)
    · go_wp2_with fail
      obtain ⟨w2, hw2⟩ : ∃ x, x = w1.alloc (.cells #[.int .i64 0, .int .i64 0, .slice none 0 0] 43) := ⟨_, rfl⟩
      have E : Ext w1 w2 := by rw [hw2]; exact (Ext.refl _).alloc _
      have k2 : w2.heap[w1.heap.size]? = some (.cells #[.int .i64 0, .int .i64 0, .slice none 0 0] 43 (0, 0)) := by rw [hw2]; exact blk_new _ _
      have g2 := hE1.size
      obtain ⟨G2, hG2⟩ : ∃ x, w1.heap.size = x := ⟨_, rfl⟩
      rw [← hw2]
      simp only [hG2] at k2 g2 ⊢
      have ka2 := ra.apart (g := G2) (by omega)
      replace ra := ra.ext E
      have lt2 := blk_lt k2
      have hE2 := hE1.trans E
      clear E hw2
      refine ⟨⟨⟨w2, hE2⟩, rfl⟩, ?_⟩
      refine held_two' (k1 := 3) (k2 := 4) rfl rfl (by kernel_rfl) ?_ ?_
      · go_wp2_with fail
        refine (rown_any W' H' A' cb ys _ (ry.out.ext hE2) hy.out hyn).mono ?_
        rintro e w3 ⟨Bb, db, rfl, ho, E⟩
        have rb := RowHas.of ho
        replace k2 := E.keep k2
        have kb2 := rb.behind (g := G2) lt2
        replace ra := ra.ext E
        replace lt2 := Nat.lt_of_lt_of_le lt2 E.size
        have hE3 := hE2.trans E
        clear ho E
        go_wp2_with fail
        refine ⟨⟨⟨w3, hE3⟩, rfl⟩, ?_⟩
        refine held_step (k := 4) rfl (by kernel_rfl) ?_
        go_wp2_with fail
        obtain ⟨w4, hw4⟩ : ∃ x, x = w3.alloc (.cells #[.int .i64 0, .int .i64 0, .slice none 0 0] 43) := ⟨_, rfl⟩
        have E : Ext w3 w4 := by rw [hw4]; exact (Ext.refl _).alloc _
        have k1 : w4.heap[w3.heap.size]? = some (.cells #[.int .i64 0, .int .i64 0, .slice none 0 0] 43 (0, 0)) := by rw [hw4]; exact blk_new _ _
        have g1 := hE3.size
        obtain ⟨G1, hG1⟩ : ∃ x, w3.heap.size = x := ⟨_, rfl⟩
        rw [← hw4]
        simp only [hG1] at k1 g1 ⊢
        have hne : G1 ≠ G2 := by have := blk_lt k2; omega
        have ka' := ra.apart (g := G1) (by omega)
        have kb' := rb.apart (g := G1) (by omega)
        replace k2 := E.keep k2
        replace ra := ra.ext E
        replace rb := rb.ext E
        have lt1 := blk_lt k1
        replace lt2 := Nat.lt_of_lt_of_le lt2 E.size
        have hE4 := hE3.trans E
        clear E hw4
        refine ⟨⟨⟨w4, hE4⟩, rfl⟩, ?_⟩
        obtain ⟨z1, y1⟩ := blk_rules k1
        obtain ⟨z2, y2⟩ := blk_rules k2
        have l1 := blk_lt k1
        have l2 := blk_lt k2
        refine held_step (k := 6) rfl (by kernel_rfl) ?_
        go_wp2_with fail
        refine ⟨⟨⟨_, ((hE4.set (p := ⟨G1, 0, none⟩) g1 _).set (p := ⟨G1, 1, none⟩) g1 _).set (p := ⟨G1, 2, none⟩) g1 _⟩, rfl⟩, ?_⟩
        refine held_step (k := 7) rfl (by kernel_rfl) ?_
        go_wp2_with fail
        have hEf := ((((((hE4.set (p := ⟨G1, 0, none⟩) g1 (.int .i64 W)).set (p := ⟨G1, 1, none⟩) g1 (.int .i64 H)).set (p := ⟨G1, 2, none⟩) g1 (.slice Ba xs.length da)).set (p := ⟨G2, 0, none⟩) g2 (.int .i64 W')).set (p := ⟨G2, 1, none⟩) g2 (.int .i64 H')).set (p := ⟨G2, 2, none⟩) g2 (.slice Bb ys.length db))
        refine ⟨⟨⟨_, hEf⟩, rfl⟩, ?_⟩
        refine held_done (by kernel_rfl) ?_
        refine hK _ _ _ _ G1 G2 Ba Bb da db _ ?_ ?_ ((((((ra.set ka').set ka').set ka').set ka2).set ka2).set ka2).reads ((((((rb.set kb').set kb').set kb').set kb2).set kb2).set kb2).reads hEf
        · exact blk_set_ne (blk_set_ne (blk_set_ne (by simpa using blk_set (blk_set (blk_set k1 0 (.int .i64 W)) 1 (.int .i64 H)) 2 (.slice Ba xs.length da)) hne _ _) hne _ _) hne _ _
        · simpa using blk_set (blk_set (blk_set (blk_set_ne (blk_set_ne (blk_set_ne k2 hne.symm 0 (.int .i64 W)) hne.symm 1 (.int .i64 H)) hne.symm 2 (.slice Ba xs.length da)) 0 (.int .i64 W')) 1 (.int .i64 H')) 2 (.slice Bb ys.length db)
      · go_wp2_with fail
        obtain ⟨w3, hw3⟩ : ∃ x, x = w2.alloc (.cells #[.int .i64 0, .int .i64 0, .slice none 0 0] 43) := ⟨_, rfl⟩
        have E : Ext w2 w3 := by rw [hw3]; exact (Ext.refl _).alloc _
        have k1 : w3.heap[w2.heap.size]? = some (.cells #[.int .i64 0, .int .i64 0, .slice none 0 0] 43 (0, 0)) := by rw [hw3]; exact blk_new _ _
        have g1 := hE2.size
        obtain ⟨G1, hG1⟩ : ∃ x, w2.heap.size = x := ⟨_, rfl⟩
        rw [← hw3]
        simp only [hG1] at k1 g1 ⊢
        have hne : G1 ≠ G2 := by have := blk_lt k2; omega
        have ka' := ra.apart (g := G1) (by omega)
        replace k2 := E.keep k2
        replace ra := ra.ext E
        have lt1 := blk_lt k1
        replace lt2 := Nat.lt_of_lt_of_le lt2 E.size
        have hE3 := hE2.trans E
        clear E hw3
        refine ⟨⟨⟨w3, hE3⟩, rfl⟩, ?_⟩
        refine held_step (k := 3) rfl (by kernel_rfl) ?_
        go_wp2_with fail
        refine (rown_any W' H' A' cb ys _ (ry.out.ext hE3) hy.out hyn).mono ?_
        rintro e w4 ⟨Bb, db, rfl, ho, E⟩
        have rb := RowHas.of ho
        replace k1 := E.keep k1
        replace k2 := E.keep k2
        have kb' := rb.behind (g := G1) lt1
        have kb2 := rb.behind (g := G2) lt2
        replace ra := ra.ext E
        replace lt1 := Nat.lt_of_lt_of_le lt1 E.size
        replace lt2 := Nat.lt_of_lt_of_le lt2 E.size
        have hE4 := hE3.trans E
        clear ho E
        go_wp2_with fail
        refine ⟨⟨⟨w4, hE4⟩, rfl⟩, ?_⟩
        obtain ⟨z1, y1⟩ := blk_rules k1
        obtain ⟨z2, y2⟩ := blk_rules k2
        have l1 := blk_lt k1
        have l2 := blk_lt k2
        refine held_step (k := 6) rfl (by kernel_rfl) ?_
        go_wp2_with fail
        refine ⟨⟨⟨_, ((hE4.set (p := ⟨G1, 0, none⟩) g1 _).set (p := ⟨G1, 1, none⟩) g1 _).set (p := ⟨G1, 2, none⟩) g1 _⟩, rfl⟩, ?_⟩
        refine held_step (k := 7) rfl (by kernel_rfl) ?_
        go_wp2_with fail
        have hEf := ((((((hE4.set (p := ⟨G1, 0, none⟩) g1 (.int .i64 W)).set (p := ⟨G1, 1, none⟩) g1 (.int .i64 H)).set (p := ⟨G1, 2, none⟩) g1 (.slice Ba xs.length da)).set (p := ⟨G2, 0, none⟩) g2 (.int .i64 W')).set (p := ⟨G2, 1, none⟩) g2 (.int .i64 H')).set (p := ⟨G2, 2, none⟩) g2 (.slice Bb ys.length db))
        refine ⟨⟨⟨_, hEf⟩, rfl⟩, ?_⟩
        refine held_done (by kernel_rfl) ?_
        refine hK _ _ _ _ G1 G2 Ba Bb da db _ ?_ ?_ ((((((ra.set ka').set ka').set ka').set ka2).set ka2).set ka2).reads ((((((rb.set kb').set kb').set kb').set kb2).set kb2).set kb2).reads hEf
        · exact blk_set_ne (blk_set_ne (blk_set_ne (by simpa using blk_set (blk_set (blk_set k1 0 (.int .i64 W)) 1 (.int .i64 H)) 2 (.slice Ba xs.length da)) hne _ _) hne _ _) hne _ _
        · simpa using blk_set (blk_set (blk_set (blk_set_ne (blk_set_ne (blk_set_ne k2 hne.symm 0 (.int .i64 W)) hne.symm 1 (.int .i64 H)) hne.symm 2 (.slice Ba xs.length da)) 0 (.int .i64 W')) 1 (.int .i64 H')) 2 (.slice Bb ys.length db)
  · go_wp2_with fail
    obtain ⟨w1, hw1⟩ : ∃ x, x = w0.alloc (.cells #[.int .i64 0, .int .i64 0, .slice none 0 0] 43) := ⟨_, rfl⟩
    have E : Ext w0 w1 := by rw [hw1]; exact (Ext.refl _).alloc _
    have k1 : w1.heap[w0.heap.size]? = some (.cells #[.int .i64 0, .int .i64 0, .slice none 0 0] 43 (0, 0)) := by rw [hw1]; exact blk_new _ _
    have g1 := hE0.size
    obtain ⟨G1, hG1⟩ : ∃ x, w0.heap.size = x := ⟨_, rfl⟩
    rw [← hw1]
    simp only [hG1] at k1 g1 ⊢
    have lt1 := blk_lt k1
    have hE1 := hE0.trans E
    clear E hw1
    refine ⟨⟨⟨w1, hE1⟩, rfl⟩, ?_⟩
    refine held_two' (k1 := 1) (k2 := 5) rfl rfl (by kernel_rfl) ?_ ?_
    · go_wp2_with fail
      refine (rown_any W H A ca xs _ (rx.out.ext hE1) hx.out hxn).mono ?_
      rintro e w2 ⟨Ba, da, rfl, ho, E⟩
      have ra := RowHas.of ho
      replace k1 := E.keep k1
      have ka' := ra.behind (g := G1) lt1
      replace lt1 := Nat.lt_of_lt_of_le lt1 E.size
      have hE2 := hE1.trans E
      clear ho E
      go_wp2_with fail
      refine ⟨⟨⟨w2, hE2⟩, rfl⟩, ?_⟩
      refine held_two' (k1 := 3) (k2 := 5) rfl rfl (by kernel_rfl) ?_ ?_
      · go_wp2_with fail
        refine (rown_any W' H' A' cb ys _ (ry.out.ext hE2) hy.out hyn).mono ?_
        rintro e w3 ⟨Bb, db, rfl, ho, E⟩
        have rb := RowHas.of ho
        replace k1 := E.keep k1
        have kb' := rb.behind (g := G1) lt1
        replace ra := ra.ext E
        replace lt1 := Nat.lt_of_lt_of_le lt1 E.size
        have hE3 := hE2.trans E
        clear ho E
        go_wp2_with fail
        refine ⟨⟨⟨w3, hE3⟩, rfl⟩, ?_⟩
        refine held_step (k := 5) rfl (by kernel_rfl) ?_
        go_wp2_with fail
        obtain ⟨w4, hw4⟩ : ∃ x, x = w3.alloc (.cells #[.int .i64 0, .int .i64 0, .slice none 0 0] 43) := ⟨_, rfl⟩
        have E : Ext w3 w4 := by rw [hw4]; exact (Ext.refl _).alloc _
        have k2 : w4.heap[w3.heap.size]? = some (.cells #[.int .i64 0, .int .i64 0, .slice none 0 0] 43 (0, 0)) := by rw [hw4]; exact blk_new _ _
        have g2 := hE3.size
        obtain ⟨G2, hG2⟩ : ∃ x, w3.heap.size = x := ⟨_, rfl⟩
        rw [← hw4]
        simp only [hG2] at k2 g2 ⊢
        have hne : G1 ≠ G2 := by have := blk_lt k1; omega
        have ka2 := ra.apart (g := G2) (by omega)
        have kb2 := rb.apart (g := G2) (by omega)
        replace k1 := E.keep k1
        replace ra := ra.ext E
        replace rb := rb.ext E
        have lt2 := blk_lt k2
        replace lt1 := Nat.lt_of_lt_of_le lt1 E.size
        have hE4 := hE3.trans E
        clear E hw4
        refine ⟨⟨⟨w4, hE4⟩, rfl⟩, ?_⟩
        obtain ⟨z1, y1⟩ := blk_rules k1
        obtain ⟨z2, y2⟩ := blk_rules k2
        have l1 := blk_lt k1
        have l2 := blk_lt k2
        refine held_step (k := 6) rfl (by kernel_rfl) ?_
        go_wp2_with fail
        refine ⟨⟨⟨_, ((hE4.set (p := ⟨G1, 0, none⟩) g1 _).set (p := ⟨G1, 1, none⟩) g1 _).set (p := ⟨G1, 2, none⟩) g1 _⟩, rfl⟩, ?_⟩
        refine held_step (k := 7) rfl (by kernel_rfl) ?_
        go_wp2_with fail
        have hEf := ((((((hE4.set (p := ⟨G1, 0, none⟩) g1 (.int .i64 W)).set (p := ⟨G1, 1, none⟩) g1 (.int .i64 H)).set (p := ⟨G1, 2, none⟩) g1 (.slice Ba xs.length da)).set (p := ⟨G2, 0, none⟩) g2 (.int .i64 W')).set (p := ⟨G2, 1, none⟩) g2 (.int .i64 H')).set (p := ⟨G2, 2, none⟩) g2 (.slice Bb ys.length db))
        refine ⟨⟨⟨_, hEf⟩, rfl⟩, ?_⟩
        refine held_done (by kernel_rfl) ?_
        refine hK _ _ _ _ G1 G2 Ba Bb da db _ ?_ ?_ ((((((ra.set ka').set ka').set ka').set ka2).set ka2).set ka2).reads ((((((rb.set kb').set kb').set kb').set kb2).set kb2).set kb2).reads hEf
        · exact blk_set_ne (blk_set_ne (blk_set_ne (by simpa using blk_set (blk_set (blk_set k1 0 (.int .i64 W)) 1 (.int .i64 H)) 2 (.slice Ba xs.length da)) hne _ _) hne _ _) hne _ _
        · simpa using blk_set (blk_set (blk_set (blk_set_ne (blk_set_ne (blk_set_ne k2 hne.symm 0 (.int .i64 W)) hne.symm 1 (.int .i64 H)) hne.symm 2 (.slice Ba xs.length da)) 0 (.int .i64 W')) 1 (.int .i64 H')) 2 (.slice Bb ys.length db)
      · go_wp2_with fail
        obtain ⟨w3, hw3⟩ : ∃ x, x = w2.alloc (.cells #[.int .i64 0, .int .i64 0, .slice none 0 0] 43) := ⟨_, rfl⟩
        have E : Ext w2 w3 := by rw [hw3]; exact (Ext.refl _).alloc _
        have k2 : w3.heap[w2.heap.size]? = some (.cells #[.int .i64 0, .int .i64 0, .slice none 0 0] 43 (0, 0)) := by rw [hw3]; exact blk_new _ _
        have g2 := hE2.size
        obtain ⟨G2, hG2⟩ : ∃ x, w2.heap.size = x := ⟨_, rfl⟩
        rw [← hw3]
        simp only [hG2] at k2 g2 ⊢
        have hne : G1 ≠ G2 := by have := blk_lt k1; omega
        have ka2 := ra.apart (g := G2) (by omega)
        replace k1 := E.keep k1
        replace ra := ra.ext E
        have lt2 := blk_lt k2
        replace lt1 := Nat.lt_of_lt_of_le lt1 E.size
        have hE3 := hE2.trans E
        clear E hw3
        refine ⟨⟨⟨w3, hE3⟩, rfl⟩, ?_⟩
        refine held_step (k := 3) rfl (by kernel_rfl) ?_
        go_wp2_with fail
        refine (rown_any W' H' A' cb ys _ (ry.out.ext hE3) hy.out hyn).mono ?_
        rintro e w4 ⟨Bb, db, rfl, ho, E⟩
        have rb := RowHas.of ho
        replace k1 := E.keep k1
        replace k2 := E.keep k2
        have kb' := rb.behind (g := G1) lt1
        have kb2 := rb.behind (g := G2) lt2
        replace ra := ra.ext E
        replace lt1 := Nat.lt_of_lt_of_le lt1 E.size
        replace lt2 := Nat.lt_of_lt_of_le lt2 E.size
        have hE4 := hE3.trans E
        clear ho E
        go_wp2_with fail
        refine ⟨⟨⟨w4, hE4⟩, rfl⟩, ?_⟩
        obtain ⟨z1, y1⟩ := blk_rules k1
        obtain ⟨z2, y2⟩ := blk_rules k2
        have l1 := blk_lt k1
        have l2 := blk_lt k2
        refine held_step (k := 6) rfl (by kernel_rfl) ?_
        go_wp2_with fail
        refine ⟨⟨⟨_, ((hE4.set (p := ⟨G1, 0, none⟩) g1 _).set (p := ⟨G1, 1, none⟩) g1 _).set (p := ⟨G1, 2, none⟩) g1 _⟩, rfl⟩, ?_⟩
        refine held_step (k := 7) rfl (by kernel_rfl) ?_
        go_wp2_with fail
        have hEf := ((((((hE4.set (p := ⟨G1, 0, none⟩) g1 (.int .i64 W)).set (p := ⟨G1, 1, none⟩) g1 (.int .i64 H)).set (p := ⟨G1, 2, none⟩) g1 (.slice Ba xs.length da)).set (p := ⟨G2, 0, none⟩) g2 (.int .i64 W')).set (p := ⟨G2, 1, none⟩) g2 (.int .i64 H')).set (p := ⟨G2, 2, none⟩) g2 (.slice Bb ys.length db))
        refine ⟨⟨⟨_, hEf⟩, rfl⟩, ?_⟩
        refine held_done (by kernel_rfl) ?_
        refine hK _ _ _ _ G1 G2 Ba Bb da db _ ?_ ?_ ((((((ra.set ka').set ka').set ka').set ka2).set ka2).set ka2).reads ((((((rb.set kb').set kb').set kb').set kb2).set kb2).set kb2).reads hEf
        · exact blk_set_ne (blk_set_ne (blk_set_ne (by simpa using blk_set (blk_set (blk_set k1 0 (.int .i64 W)) 1 (.int .i64 H)) 2 (.slice Ba xs.length da)) hne _ _) hne _ _) hne _ _
        · simpa using blk_set (blk_set (blk_set (blk_set_ne (blk_set_ne (blk_set_ne k2 hne.symm 0 (.int .i64 W)) hne.symm 1 (.int .i64 H)) hne.symm 2 (.slice Ba xs.length da)) 0 (.int .i64 W')) 1 (.int .i64 H')) 2 (.slice Bb ys.length db)
    · go_wp2_with fail
      obtain ⟨w2, hw2⟩ : ∃ x, x = w1.alloc (.cells #[.int .i64 0, .int .i64 0, .slice none 0 0] 43) := ⟨_, rfl⟩
      have E : Ext w1 w2 := by rw [hw2]; exact (Ext.refl _).alloc _
      have k2 : w2.heap[w1.heap.size]? = some (.cells #[.int .i64 0, .int .i64 0, .slice none 0 0] 43 (0, 0)) := by rw [hw2]; exact blk_new _ _
      have g2 := hE1.size
      obtain ⟨G2, hG2⟩ : ∃ x, w1.heap.size = x := ⟨_, rfl⟩
      rw [← hw2]
      simp only [hG2] at k2 g2 ⊢
      have hne : G1 ≠ G2 := by have := blk_lt k1; omega
      replace k1 := E.keep k1
      have lt2 := blk_lt k2
      replace lt1 := Nat.lt_of_lt_of_le lt1 E.size
      have hE2 := hE1.trans E
      clear E hw2
      refine ⟨⟨⟨w2, hE2⟩, rfl⟩, ?_⟩
      refine held_step (k := 1) rfl (by kernel_rfl) ?_
      go_wp2_with fail
      refine (rown_any W H A ca xs _ (rx.out.ext hE2) hx.out hxn).mono ?_
      rintro e w3 ⟨Ba, da, rfl, ho, E⟩
      have ra := RowHas.of ho
      replace k1 := E.keep k1
      replace k2 := E.keep k2
      have ka' := ra.behind (g := G1) lt1
      have ka2 := ra.behind (g := G2) lt2
      replace lt1 := Nat.lt_of_lt_of_le lt1 E.size
      replace lt2 := Nat.lt_of_lt_of_le lt2 E.size
      have hE3 := hE2.trans E
      clear ho E
      go_wp2_with fail
      refine ⟨⟨⟨w3, hE3⟩, rfl⟩, ?_⟩
      refine held_step (k := 3) rfl (by kernel_rfl) ?_
      go_wp2_with fail
      refine (rown_any W' H' A' cb ys _ (ry.out.ext hE3) hy.out hyn).mono ?_
      rintro e w4 ⟨Bb, db, rfl, ho, E⟩
      have rb := RowHas.of ho
      replace k1 := E.keep k1
      replace k2 := E.keep k2
      have kb' := rb.behind (g := G1) lt1
      have kb2 := rb.behind (g := G2) lt2
      replace ra := ra.ext E
      replace lt1 := Nat.lt_of_lt_of_le lt1 E.size
      replace lt2 := Nat.lt_of_lt_of_le lt2 E.size
      have hE4 := hE3.trans E
      clear ho E
      go_wp2_with fail
      refine ⟨⟨⟨w4, hE4⟩, rfl⟩, ?_⟩
      obtain ⟨z1, y1⟩ := blk_rules k1
      obtain ⟨z2, y2⟩ := blk_rules k2
      have l1 := blk_lt k1
      have l2 := blk_lt k2
      refine held_step (k := 6) rfl (by kernel_rfl) ?_
      go_wp2_with fail
      refine ⟨⟨⟨_, ((hE4.set (p := ⟨G1, 0, none⟩) g1 _).set (p := ⟨G1, 1, none⟩) g1 _).set (p := ⟨G1, 2, none⟩) g1 _⟩, rfl⟩, ?_⟩
      refine held_step (k := 7) rfl (by kernel_rfl) ?_
      go_wp2_with fail
      have hEf := ((((((hE4.set (p := ⟨G1, 0, none⟩) g1 (.int .i64 W)).set (p := ⟨G1, 1, none⟩) g1 (.int .i64 H)).set (p := ⟨G1, 2, none⟩) g1 (.slice Ba xs.length da)).set (p := ⟨G2, 0, none⟩) g2 (.int .i64 W')).set (p := ⟨G2, 1, none⟩) g2 (.int .i64 H')).set (p := ⟨G2, 2, none⟩) g2 (.slice Bb ys.length db))
      refine ⟨⟨⟨_, hEf⟩, rfl⟩, ?_⟩
      refine held_done (by kernel_rfl) ?_
      refine hK _ _ _ _ G1 G2 Ba Bb da db _ ?_ ?_ ((((((ra.set ka').set ka').set ka').set ka2).set ka2).set ka2).reads ((((((rb.set kb').set kb').set kb').set kb2).set kb2).set kb2).reads hEf
      · exact blk_set_ne (blk_set_ne (blk_set_ne (by simpa using blk_set (blk_set (blk_set k1 0 (.int .i64 W)) 1 (.int .i64 H)) 2 (.slice Ba xs.length da)) hne _ _) hne _ _) hne _ _
      · simpa using blk_set (blk_set (blk_set (blk_set_ne (blk_set_ne (blk_set_ne k2 hne.symm 0 (.int .i64 W)) hne.symm 1 (.int .i64 H)) hne.symm 2 (.slice Ba xs.length da)) 0 (.int .i64 W')) 1 (.int .i64 H')) 2 (.slice Bb ys.length db)
  · go_wp2_with fail
    obtain ⟨w1, hw1⟩ : ∃ x, x = w0.alloc (.cells #[.int .i64 0, .int .i64 0, .slice none 0 0] 43) := ⟨_, rfl⟩
    have E : Ext w0 w1 := by rw [hw1]; exact (Ext.refl _).alloc _
    have k2 : w1.heap[w0.heap.size]? = some (.cells #[.int .i64 0, .int .i64 0, .slice none 0 0] 43 (0, 0)) := by rw [hw1]; exact blk_new _ _
    have g2 := hE0.size
    obtain ⟨G2, hG2⟩ : ∃ x, w0.heap.size = x := ⟨_, rfl⟩
    rw [← hw1]
    simp only [hG2] at k2 g2 ⊢
    have lt2 := blk_lt k2
    have hE1 := hE0.trans E
    clear E hw1
    refine ⟨⟨⟨w1, hE1⟩, rfl⟩, ?_⟩
    refine held_two' (k1 := 1) (k2 := 4) rfl rfl (by kernel_rfl) ?_ ?_
    · go_wp2_with fail
      refine (rown_any W H A ca xs _ (rx.out.ext hE1) hx.out hxn).mono ?_
      rintro e w2 ⟨Ba, da, rfl, ho, E⟩
      have ra := RowHas.of ho
      replace k2 := E.keep k2
      have ka2 := ra.behind (g := G2) lt2
      replace lt2 := Nat.lt_of_lt_of_le lt2 E.size
      have hE2 := hE1.trans E
      clear ho E
      go_wp2_with fail
      refine ⟨⟨⟨w2, hE2⟩, rfl⟩, ?_⟩
      refine held_two' (k1 := 3) (k2 := 4) rfl rfl (by kernel_rfl) ?_ ?_
      · go_wp2_with fail
        refine (rown_any W' H' A' cb ys _ (ry.out.ext hE2) hy.out hyn).mono ?_
        rintro e w3 ⟨Bb, db, rfl, ho, E⟩
        have rb := RowHas.of ho
        replace k2 := E.keep k2
        have kb2 := rb.behind (g := G2) lt2
        replace ra := ra.ext E
        replace lt2 := Nat.lt_of_lt_of_le lt2 E.size
        have hE3 := hE2.trans E
        clear ho E
        go_wp2_with fail
        refine ⟨⟨⟨w3, hE3⟩, rfl⟩, ?_⟩
        refine held_step (k := 4) rfl (by kernel_rfl) ?_
        go_wp2_with fail
        obtain ⟨w4, hw4⟩ : ∃ x, x = w3.alloc (.cells #[.int .i64 0, .int .i64 0, .slice none 0 0] 43) := ⟨_, rfl⟩
        have E : Ext w3 w4 := by rw [hw4]; exact (Ext.refl _).alloc _
        have k1 : w4.heap[w3.heap.size]? = some (.cells #[.int .i64 0, .int .i64 0, .slice none 0 0] 43 (0, 0)) := by rw [hw4]; exact blk_new _ _
        have g1 := hE3.size
        obtain ⟨G1, hG1⟩ : ∃ x, w3.heap.size = x := ⟨_, rfl⟩
        rw [← hw4]
        simp only [hG1] at k1 g1 ⊢
        have hne : G1 ≠ G2 := by have := blk_lt k2; omega
        have ka' := ra.apart (g := G1) (by omega)
        have kb' := rb.apart (g := G1) (by omega)
        replace k2 := E.keep k2
        replace ra := ra.ext E
        replace rb := rb.ext E
        have lt1 := blk_lt k1
        replace lt2 := Nat.lt_of_lt_of_le lt2 E.size
        have hE4 := hE3.trans E
        clear E hw4
        refine ⟨⟨⟨w4, hE4⟩, rfl⟩, ?_⟩
        obtain ⟨z1, y1⟩ := blk_rules k1
        obtain ⟨z2, y2⟩ := blk_rules k2
        have l1 := blk_lt k1
        have l2 := blk_lt k2
        refine held_step (k := 6) rfl (by kernel_rfl) ?_
        go_wp2_with fail
        refine ⟨⟨⟨_, ((hE4.set (p := ⟨G1, 0, none⟩) g1 _).set (p := ⟨G1, 1, none⟩) g1 _).set (p := ⟨G1, 2, none⟩) g1 _⟩, rfl⟩, ?_⟩
        refine held_step (k := 7) rfl (by kernel_rfl) ?_
        go_wp2_with fail
        have hEf := ((((((hE4.set (p := ⟨G1, 0, none⟩) g1 (.int .i64 W)).set (p := ⟨G1, 1, none⟩) g1 (.int .i64 H)).set (p := ⟨G1, 2, none⟩) g1 (.slice Ba xs.length da)).set (p := ⟨G2, 0, none⟩) g2 (.int .i64 W')).set (p := ⟨G2, 1, none⟩) g2 (.int .i64 H')).set (p := ⟨G2, 2, none⟩) g2 (.slice Bb ys.length db))
        refine ⟨⟨⟨_, hEf⟩, rfl⟩, ?_⟩
        refine held_done (by kernel_rfl) ?_
        refine hK _ _ _ _ G1 G2 Ba Bb da db _ ?_ ?_ ((((((ra.set ka').set ka').set ka').set ka2).set ka2).set ka2).reads ((((((rb.set kb').set kb').set kb').set kb2).set kb2).set kb2).reads hEf
        · exact blk_set_ne (blk_set_ne (blk_set_ne (by simpa using blk_set (blk_set (blk_set k1 0 (.int .i64 W)) 1 (.int .i64 H)) 2 (.slice Ba xs.length da)) hne _ _) hne _ _) hne _ _
        · simpa using blk_set (blk_set (blk_set (blk_set_ne (blk_set_ne (blk_set_ne k2 hne.symm 0 (.int .i64 W)) hne.symm 1 (.int .i64 H)) hne.symm 2 (.slice Ba xs.length da)) 0 (.int .i64 W')) 1 (.int .i64 H')) 2 (.slice Bb ys.length db)
      · go_wp2_with fail
        obtain ⟨w3, hw3⟩ : ∃ x, x = w2.alloc (.cells #[.int .i64 0, .int .i64 0, .slice none 0 0] 43) := ⟨_, rfl⟩
        have E : Ext w2 w3 := by rw [hw3]; exact (Ext.refl _).alloc _
        have k1 : w3.heap[w2.heap.size]? = some (.cells #[.int .i64 0, .int .i64 0, .slice none 0 0] 43 (0, 0)) := by rw [hw3]; exact blk_new _ _
        have g1 := hE2.size
        obtain ⟨G1, hG1⟩ : ∃ x, w2.heap.size = x := ⟨_, rfl⟩
        rw [← hw3]
        simp only [hG1] at k1 g1 ⊢
        have hne : G1 ≠ G2 := by have := blk_lt k2; omega
        have ka' := ra.apart (g := G1) (by omega)
        replace k2 := E.keep k2
        replace ra := ra.ext E
        have lt1 := blk_lt k1
        replace lt2 := Nat.lt_of_lt_of_le lt2 E.size
        have hE3 := hE2.trans E
        clear E hw3
        refine ⟨⟨⟨w3, hE3⟩, rfl⟩, ?_⟩
        refine held_step (k := 3) rfl (by kernel_rfl) ?_
        go_wp2_with fail
        refine (rown_any W' H' A' cb ys _ (ry.out.ext hE3) hy.out hyn).mono ?_
        rintro e w4 ⟨Bb, db, rfl, ho, E⟩
        have rb := RowHas.of ho
        replace k1 := E.keep k1
        replace k2 := E.keep k2
        have kb' := rb.behind (g := G1) lt1
        have kb2 := rb.behind (g := G2) lt2
        replace ra := ra.ext E
        replace lt1 := Nat.lt_of_lt_of_le lt1 E.size
        replace lt2 := Nat.lt_of_lt_of_le lt2 E.size
        have hE4 := hE3.trans E
        clear ho E
        go_wp2_with fail
        refine ⟨⟨⟨w4, hE4⟩, rfl⟩, ?_⟩
        obtain ⟨z1, y1⟩ := blk_rules k1
        obtain ⟨z2, y2⟩ := blk_rules k2
        have l1 := blk_lt k1
        have l2 := blk_lt k2
        refine held_step (k := 6) rfl (by kernel_rfl) ?_
        go_wp2_with fail
        refine ⟨⟨⟨_, ((hE4.set (p := ⟨G1, 0, none⟩) g1 _).set (p := ⟨G1, 1, none⟩) g1 _).set (p := ⟨G1, 2, none⟩) g1 _⟩, rfl⟩, ?_⟩
        refine held_step (k := 7) rfl (by kernel_rfl) ?_
        go_wp2_with fail
        have hEf := ((((((hE4.set (p := ⟨G1, 0, none⟩) g1 (.int .i64 W)).set (p := ⟨G1, 1, none⟩) g1 (.int .i64 H)).set (p := ⟨G1, 2, none⟩) g1 (.slice Ba xs.length da)).set (p := ⟨G2, 0, none⟩) g2 (.int .i64 W')).set (p := ⟨G2, 1, none⟩) g2 (.int .i64 H')).set (p := ⟨G2, 2, none⟩) g2 (.slice Bb ys.length db))
        refine ⟨⟨⟨_, hEf⟩, rfl⟩, ?_⟩
        refine held_done (by kernel_rfl) ?_
        refine hK _ _ _ _ G1 G2 Ba Bb da db _ ?_ ?_ ((((((ra.set ka').set ka').set ka').set ka2).set ka2).set ka2).reads ((((((rb.set kb').set kb').set kb').set kb2).set kb2).set kb2).reads hEf
        · exact blk_set_ne (blk_set_ne (blk_set_ne (by simpa using blk_set (blk_set (blk_set k1 0 (.int .i64 W)) 1 (.int .i64 H)) 2 (.slice Ba xs.length da)) hne _ _) hne _ _) hne _ _
        · simpa using blk_set (blk_set (blk_set (blk_set_ne (blk_set_ne (blk_set_ne k2 hne.symm 0 (.int .i64 W)) hne.symm 1 (.int .i64 H)) hne.symm 2 (.slice Ba xs.length da)) 0 (.int .i64 W')) 1 (.int .i64 H')) 2 (.slice Bb ys.length db)
    · go_wp2_with fail
      obtain ⟨w2, hw2⟩ : ∃ x, x = w1.alloc (.cells #[.int .i64 0, .int .i64 0, .slice none 0 0] 43) := ⟨_, rfl⟩
      have E : Ext w1 w2 := by rw [hw2]; exact (Ext.refl _).alloc _
      have k1 : w2.heap[w1.heap.size]? = some (.cells #[.int .i64 0, .int .i64 0, .slice none 0 0] 43 (0, 0)) := by rw [hw2]; exact blk_new _ _
      have g1 := hE1.size
      obtain ⟨G1, hG1⟩ : ∃ x, w1.heap.size = x := ⟨_, rfl⟩
      rw [← hw2]
      simp only [hG1] at k1 g1 ⊢
      have hne : G1 ≠ G2 := by have := blk_lt k2; omega
      replace k2 := E.keep k2
      have lt1 := blk_lt k1
      replace lt2 := Nat.lt_of_lt_of_le lt2 E.size
      have hE2 := hE1.trans E
      clear E hw2
      refine ⟨⟨⟨w2, hE2⟩, rfl⟩, ?_⟩
      refine held_step (k := 1) rfl (by kernel_rfl) ?_
      go_wp2_with fail
      refine (rown_any W H A ca xs _ (rx.out.ext hE2) hx.out hxn).mono ?_
      rintro e w3 ⟨Ba, da, rfl, ho, E⟩
      have ra := RowHas.of ho
      replace k1 := E.keep k1
      replace k2 := E.keep k2
      have ka' := ra.behind (g := G1) lt1
      have ka2 := ra.behind (g := G2) lt2
      replace lt1 := Nat.lt_of_lt_of_le lt1 E.size
      replace lt2 := Nat.lt_of_lt_of_le lt2 E.size
      have hE3 := hE2.trans E
      clear ho E
      go_wp2_with fail
      refine ⟨⟨⟨w3, hE3⟩, rfl⟩, ?_⟩
      refine held_step (k := 3) rfl (by kernel_rfl) ?_
      go_wp2_with fail
      refine (rown_any W' H' A' cb ys _ (ry.out.ext hE3) hy.out hyn).mono ?_
      rintro e w4 ⟨Bb, db, rfl, ho, E⟩
      have rb := RowHas.of ho
      replace k1 := E.keep k1
      replace k2 := E.keep k2
      have kb' := rb.behind (g := G1) lt1
      have kb2 := rb.behind (g := G2) lt2
      replace ra := ra.ext E
      replace lt1 := Nat.lt_of_lt_of_le lt1 E.size
      replace lt2 := Nat.lt_of_lt_of_le lt2 E.size
      have hE4 := hE3.trans E
      clear ho E
      go_wp2_with fail
      refine ⟨⟨⟨w4, hE4⟩, rfl⟩, ?_⟩
      obtain ⟨z1, y1⟩ := blk_rules k1
      obtain ⟨z2, y2⟩ := blk_rules k2
      have l1 := blk_lt k1
      have l2 := blk_lt k2
      refine held_step (k := 6) rfl (by kernel_rfl) ?_
      go_wp2_with fail
      refine ⟨⟨⟨_, ((hE4.set (p := ⟨G1, 0, none⟩) g1 _).set (p := ⟨G1, 1, none⟩) g1 _).set (p := ⟨G1, 2, none⟩) g1 _⟩, rfl⟩, ?_⟩
      refine held_step (k := 7) rfl (by kernel_rfl) ?_
      go_wp2_with fail
      have hEf := ((((((hE4.set (p := ⟨G1, 0, none⟩) g1 (.int .i64 W)).set (p := ⟨G1, 1, none⟩) g1 (.int .i64 H)).set (p := ⟨G1, 2, none⟩) g1 (.slice Ba xs.length da)).set (p := ⟨G2, 0, none⟩) g2 (.int .i64 W')).set (p := ⟨G2, 1, none⟩) g2 (.int .i64 H')).set (p := ⟨G2, 2, none⟩) g2 (.slice Bb ys.length db))
      refine ⟨⟨⟨_, hEf⟩, rfl⟩, ?_⟩
      refine held_done (by kernel_rfl) ?_
      refine hK _ _ _ _ G1 G2 Ba Bb da db _ ?_ ?_ ((((((ra.set ka').set ka').set ka').set ka2).set ka2).set ka2).reads ((((((rb.set kb').set kb').set kb').set kb2).set kb2).set kb2).reads hEf
      · exact blk_set_ne (blk_set_ne (blk_set_ne (by simpa using blk_set (blk_set (blk_set k1 0 (.int .i64 W)) 1 (.int .i64 H)) 2 (.slice Ba xs.length da)) hne _ _) hne _ _) hne _ _
      · simpa using blk_set (blk_set (blk_set (blk_set_ne (blk_set_ne (blk_set_ne k2 hne.symm 0 (.int .i64 W)) hne.symm 1 (.int .i64 H)) hne.symm 2 (.slice Ba xs.length da)) 0 (.int .i64 W')) 1 (.int .i64 H')) 2 (.slice Bb ys.length db)
end Go.Proofs.Ytjghghbldifhaaa
