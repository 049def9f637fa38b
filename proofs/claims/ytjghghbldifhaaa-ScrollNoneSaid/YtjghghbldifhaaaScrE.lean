/- The document's answer: vignetteref18.Find, where there is nothing to be found. Printed by gen_scre.py. -/
import Derived.Test.YtjghghbldifhaaaScrD
set_option linter.unusedVariables false
set_option linter.unusedSimpArgs false
namespace Go.Proofs.Ytjghghbldifhaaa
open Go.RowKit
set_option maxRecDepth 100000 in
set_option maxHeartbeats 16000000 in
theorem rscroll_no1 (A A' lA : Option Addr) (ca cb lc m n k : Nat) (W H W' H' : Int) (box : Rect) (w : World) (h : isPic W H m = false) :
    Calls Try.prog 53 #[.agg #[.int .i64 W, .int .i64 H, .slice A m ca], .agg #[.int .i64 W', .int .i64 H', .slice A' n cb], .slice lA k lc] w (GivesC box none w) := by
  have hI1 := fun w => ris_any W H A ca m w
  have hI2 := fun w => ris_any W' H' A' cb n w
  simp only [h] at hI1
  unfold GivesC
  go_enter Try.func53, Try.ntmps53
  go_wp2_with fail
  obtain ⟨w0, hw0⟩ : ∃ x, x = ((w.alloc (.cells #[.int .i64 W, .int .i64 H, .slice A m ca] 43)).alloc (.cells #[.int .i64 W', .int .i64 H', .slice A' n cb] 43)).alloc (.cells #[.int .i64 0, .int .i64 0, .int .i64 0, .int .i64 0, .int .i64 0, .int .i64 0] 54) := ⟨_, rfl⟩
  have k3 : w0.heap[w.heap.size]? = some (.cells #[.int .i64 W, .int .i64 H, .slice A m ca] 43 (0, 0)) := by rw [hw0]; exact blk_old (blk_old (blk_new w _) _) _
  have k4 : w0.heap[w.heap.size + 1]? = some (.cells #[.int .i64 W', .int .i64 H', .slice A' n cb] 43 (0, 0)) := by rw [hw0]; exact blk_old (blk_new1 w _ _) _
  have k6 : w0.heap[w.heap.size + 1 + 1]? = some (.cells #[.int .i64 0, .int .i64 0, .int .i64 0, .int .i64 0, .int .i64 0, .int .i64 0] 54 (0, 0)) := by rw [hw0]; exact blk_new2 w _ _ _
  have hE0 : Ext w w0 := by rw [hw0]; exact (((Ext.refl w).alloc _).alloc _).alloc _
  rw [← hw0]
  clear hw0
  refine (hI1 _).mono ?_
  rintro e w1 ⟨rfl, E⟩
  replace k3 := E.keep k3
  replace k4 := E.keep k4
  replace k6 := E.keep k6
  replace hE0 := hE0.trans E
  clear E hI1
  obtain ⟨c3, f3⟩ := blk_rules k3
  obtain ⟨c4, f4⟩ := blk_rules k4
  obtain ⟨c6, f6⟩ := blk_rules k6
  have l6 := blk_lt k6
  go_wp2_with fail
  refine bodyPost_ret (v := .tuple #[.agg #[.int .i64 0, .int .i64 0, .int .i64 0, .int .i64 0, .int .i64 0, .int .i64 0], .bool false]) (by simp only [results, Try.results53]; go_simp; done) rfl ⟨rfl, ?_⟩
  repeat' (first | with_reducible exact hE0 | with_reducible refine Ext.set ?_ ?_ _ | (dsimp only; omega) | (simp; done))
set_option maxRecDepth 100000 in
set_option maxHeartbeats 16000000 in
theorem rscroll_no2 (A A' lA : Option Addr) (ca cb lc m n k : Nat) (W H W' H' : Int) (box : Rect) (w : World) (h : isPic W H m = true) (h2 : isPic W' H' n = false) :
    Calls Try.prog 53 #[.agg #[.int .i64 W, .int .i64 H, .slice A m ca], .agg #[.int .i64 W', .int .i64 H', .slice A' n cb], .slice lA k lc] w (GivesC box none w) := by
  have hI1 := fun w => ris_any W H A ca m w
  have hI2 := fun w => ris_any W' H' A' cb n w
  simp only [h] at hI1
  simp only [h2] at hI2
  unfold GivesC
  go_enter Try.func53, Try.ntmps53
  go_wp2_with fail
  obtain ⟨w0, hw0⟩ : ∃ x, x = ((w.alloc (.cells #[.int .i64 W, .int .i64 H, .slice A m ca] 43)).alloc (.cells #[.int .i64 W', .int .i64 H', .slice A' n cb] 43)).alloc (.cells #[.int .i64 0, .int .i64 0, .int .i64 0, .int .i64 0, .int .i64 0, .int .i64 0] 54) := ⟨_, rfl⟩
  have k3 : w0.heap[w.heap.size]? = some (.cells #[.int .i64 W, .int .i64 H, .slice A m ca] 43 (0, 0)) := by rw [hw0]; exact blk_old (blk_old (blk_new w _) _) _
  have k4 : w0.heap[w.heap.size + 1]? = some (.cells #[.int .i64 W', .int .i64 H', .slice A' n cb] 43 (0, 0)) := by rw [hw0]; exact blk_old (blk_new1 w _ _) _
  have k6 : w0.heap[w.heap.size + 1 + 1]? = some (.cells #[.int .i64 0, .int .i64 0, .int .i64 0, .int .i64 0, .int .i64 0, .int .i64 0] 54 (0, 0)) := by rw [hw0]; exact blk_new2 w _ _ _
  have hE0 : Ext w w0 := by rw [hw0]; exact (((Ext.refl w).alloc _).alloc _).alloc _
  rw [← hw0]
  clear hw0
  refine (hI1 _).mono ?_
  rintro e w1 ⟨rfl, E⟩
  replace k3 := E.keep k3
  replace k4 := E.keep k4
  replace k6 := E.keep k6
  replace hE0 := hE0.trans E
  clear E hI1
  obtain ⟨c3, f3⟩ := blk_rules k3
  obtain ⟨c4, f4⟩ := blk_rules k4
  obtain ⟨c6, f6⟩ := blk_rules k6
  have l6 := blk_lt k6
  go_wp2_with fail
  clear c3 f3 c4 f4 c6 f6 l6
  refine (hI2 _).mono ?_
  rintro e w2 ⟨rfl, E⟩
  replace k3 := E.keep k3
  replace k4 := E.keep k4
  replace k6 := E.keep k6
  replace hE0 := hE0.trans E
  clear E hI2
  obtain ⟨c3, f3⟩ := blk_rules k3
  obtain ⟨c4, f4⟩ := blk_rules k4
  obtain ⟨c6, f6⟩ := blk_rules k6
  have l6 := blk_lt k6
  go_wp2_with fail
  refine bodyPost_ret (v := .tuple #[.agg #[.int .i64 0, .int .i64 0, .int .i64 0, .int .i64 0, .int .i64 0, .int .i64 0], .bool false]) (by simp only [results, Try.results53]; go_simp; done) rfl ⟨rfl, ?_⟩
  repeat' (first | with_reducible exact hE0 | with_reducible refine Ext.set ?_ ?_ _ | (dsimp only; omega) | (simp; done))
set_option maxRecDepth 100000 in
set_option maxHeartbeats 16000000 in
theorem rscroll_no3 (A A' lA : Option Addr) (ca cb lc m n k : Nat) (W H W' H' : Int) (box : Rect) (w : World) (h : isPic W H m = true) (h2 : isPic W' H' n = true) (h3 : W ≠ W') :
    Calls Try.prog 53 #[.agg #[.int .i64 W, .int .i64 H, .slice A m ca], .agg #[.int .i64 W', .int .i64 H', .slice A' n cb], .slice lA k lc] w (GivesC box none w) := by
  have hI1 := fun w => ris_any W H A ca m w
  have hI2 := fun w => ris_any W' H' A' cb n w
  simp only [h] at hI1
  simp only [h2] at hI2
  have dW : (W != W') = true := by simpa using h3
  unfold GivesC
  go_enter Try.func53, Try.ntmps53
  go_wp2_with fail
  obtain ⟨w0, hw0⟩ : ∃ x, x = ((w.alloc (.cells #[.int .i64 W, .int .i64 H, .slice A m ca] 43)).alloc (.cells #[.int .i64 W', .int .i64 H', .slice A' n cb] 43)).alloc (.cells #[.int .i64 0, .int .i64 0, .int .i64 0, .int .i64 0, .int .i64 0, .int .i64 0] 54) := ⟨_, rfl⟩
  have k3 : w0.heap[w.heap.size]? = some (.cells #[.int .i64 W, .int .i64 H, .slice A m ca] 43 (0, 0)) := by rw [hw0]; exact blk_old (blk_old (blk_new w _) _) _
  have k4 : w0.heap[w.heap.size + 1]? = some (.cells #[.int .i64 W', .int .i64 H', .slice A' n cb] 43 (0, 0)) := by rw [hw0]; exact blk_old (blk_new1 w _ _) _
  have k6 : w0.heap[w.heap.size + 1 + 1]? = some (.cells #[.int .i64 0, .int .i64 0, .int .i64 0, .int .i64 0, .int .i64 0, .int .i64 0] 54 (0, 0)) := by rw [hw0]; exact blk_new2 w _ _ _
  have hE0 : Ext w w0 := by rw [hw0]; exact (((Ext.refl w).alloc _).alloc _).alloc _
  rw [← hw0]
  clear hw0
  refine (hI1 _).mono ?_
  rintro e w1 ⟨rfl, E⟩
  replace k3 := E.keep k3
  replace k4 := E.keep k4
  replace k6 := E.keep k6
  replace hE0 := hE0.trans E
  clear E hI1
  obtain ⟨c3, f3⟩ := blk_rules k3
  obtain ⟨c4, f4⟩ := blk_rules k4
  obtain ⟨c6, f6⟩ := blk_rules k6
  have l6 := blk_lt k6
  go_wp2_with fail
  clear c3 f3 c4 f4 c6 f6 l6
  refine (hI2 _).mono ?_
  rintro e w2 ⟨rfl, E⟩
  replace k3 := E.keep k3
  replace k4 := E.keep k4
  replace k6 := E.keep k6
  replace hE0 := hE0.trans E
  clear E hI2
  obtain ⟨c3, f3⟩ := blk_rules k3
  obtain ⟨c4, f4⟩ := blk_rules k4
  obtain ⟨c6, f6⟩ := blk_rules k6
  have l6 := blk_lt k6
  go_wp2_with fail
  refine bodyPost_ret (v := .tuple #[.agg #[.int .i64 0, .int .i64 0, .int .i64 0, .int .i64 0, .int .i64 0, .int .i64 0], .bool false]) (by simp only [results, Try.results53]; go_simp; done) rfl ⟨rfl, ?_⟩
  repeat' (first | with_reducible exact hE0 | with_reducible refine Ext.set ?_ ?_ _ | (dsimp only; omega) | (simp; done))
set_option maxRecDepth 100000 in
set_option maxHeartbeats 16000000 in
theorem rscroll_no4 (A A' lA : Option Addr) (ca cb lc m n k : Nat) (W H W' H' : Int) (box : Rect) (w : World) (h : isPic W H m = true) (h2 : isPic W' H' n = true) (h3 : W = W') (h4 : H ≠ H') :
    Calls Try.prog 53 #[.agg #[.int .i64 W, .int .i64 H, .slice A m ca], .agg #[.int .i64 W', .int .i64 H', .slice A' n cb], .slice lA k lc] w (GivesC box none w) := by
  have hI1 := fun w => ris_any W H A ca m w
  have hI2 := fun w => ris_any W' H' A' cb n w
  simp only [h] at hI1
  simp only [h2] at hI2
  have dW : (W != W') = false := by simpa using h3
  have dH : (H != H') = true := by simpa using h4
  clear h3
  unfold GivesC
  go_enter Try.func53, Try.ntmps53
  go_wp2_with fail
  obtain ⟨w0, hw0⟩ : ∃ x, x = ((w.alloc (.cells #[.int .i64 W, .int .i64 H, .slice A m ca] 43)).alloc (.cells #[.int .i64 W', .int .i64 H', .slice A' n cb] 43)).alloc (.cells #[.int .i64 0, .int .i64 0, .int .i64 0, .int .i64 0, .int .i64 0, .int .i64 0] 54) := ⟨_, rfl⟩
  have k3 : w0.heap[w.heap.size]? = some (.cells #[.int .i64 W, .int .i64 H, .slice A m ca] 43 (0, 0)) := by rw [hw0]; exact blk_old (blk_old (blk_new w _) _) _
  have k4 : w0.heap[w.heap.size + 1]? = some (.cells #[.int .i64 W', .int .i64 H', .slice A' n cb] 43 (0, 0)) := by rw [hw0]; exact blk_old (blk_new1 w _ _) _
  have k6 : w0.heap[w.heap.size + 1 + 1]? = some (.cells #[.int .i64 0, .int .i64 0, .int .i64 0, .int .i64 0, .int .i64 0, .int .i64 0] 54 (0, 0)) := by rw [hw0]; exact blk_new2 w _ _ _
  have hE0 : Ext w w0 := by rw [hw0]; exact (((Ext.refl w).alloc _).alloc _).alloc _
  rw [← hw0]
  clear hw0
  refine (hI1 _).mono ?_
  rintro e w1 ⟨rfl, E⟩
  replace k3 := E.keep k3
  replace k4 := E.keep k4
  replace k6 := E.keep k6
  replace hE0 := hE0.trans E
  clear E hI1
  obtain ⟨c3, f3⟩ := blk_rules k3
  obtain ⟨c4, f4⟩ := blk_rules k4
  obtain ⟨c6, f6⟩ := blk_rules k6
  have l6 := blk_lt k6
  go_wp2_with fail
  clear c3 f3 c4 f4 c6 f6 l6
  refine (hI2 _).mono ?_
  rintro e w2 ⟨rfl, E⟩
  replace k3 := E.keep k3
  replace k4 := E.keep k4
  replace k6 := E.keep k6
  replace hE0 := hE0.trans E
  clear E hI2
  obtain ⟨c3, f3⟩ := blk_rules k3
  obtain ⟨c4, f4⟩ := blk_rules k4
  obtain ⟨c6, f6⟩ := blk_rules k6
  have l6 := blk_lt k6
  go_wp2_with fail
  refine bodyPost_ret (v := .tuple #[.agg #[.int .i64 0, .int .i64 0, .int .i64 0, .int .i64 0, .int .i64 0, .int .i64 0], .bool false]) (by simp only [results, Try.results53]; go_simp; done) rfl ⟨rfl, ?_⟩
  repeat' (first | with_reducible exact hE0 | with_reducible refine Ext.set ?_ ?_ _ | (dsimp only; omega) | (simp; done))
theorem rscroll_any (A A' lA : Option Addr) (ca cb lc : Nat) (W H W' H' : Int) (xs ys : List Int) (l : List Rect) (w : World) (rx : Reads .u32 w A xs) (ry : Reads .u32 w A' ys) (hx : ∀ x ∈ xs, 0 ≤ x ∧ x ≤ 4294967295) (hy : ∀ x ∈ ys, 0 ≤ x ∧ x ≤ 4294967295) (rl : RectsAt w lA l) (hl : l.length ≤ 100000) :
    Calls Try.prog 53 #[.agg #[.int .i64 W, .int .i64 H, .slice A xs.length ca], .agg #[.int .i64 W', .int .i64 H', .slice A' ys.length cb], .slice lA l.length lc] w (GivesC (boxOf W H l) (scrollOf W H xs W' H' ys l) w) := by
  unfold scrollOf
  cases h : isPic W H xs.length
  · exact rscroll_no1 A A' lA ca cb lc _ _ _ W H W' H' _ w h
  · cases h2 : isPic W' H' ys.length
    · exact rscroll_no2 A A' lA ca cb lc _ _ _ W H W' H' _ w h h2
    · by_cases h3 : W = W'
      · by_cases h4 : H = H'
        · subst h3
          subst h4
          rw [if_pos (by simp)]
          exact rscroll_good A A' lA ca cb lc W H xs ys l w h h2 rx ry hx hy rl hl
        · rw [if_neg (by simp [h4])]
          exact rscroll_no4 A A' lA ca cb lc _ _ _ W H W' H' _ w h h2 h3 h4
      · rw [if_neg (by simp [h3])]
        exact rscroll_no3 A A' lA ca cb lc _ _ _ W H W' H' _ w h h2 h3
end Go.Proofs.Ytjghghbldifhaaa
