/- scroll.Find, where there is nothing to be found. Printed by gen_scrg.py. -/
/- scroll.Find, where there is nothing to be found. Printed by gen_scrh.py. -/
import Derived.Test.YtjghghbldifhaaaScrC
set_option linter.unusedVariables false
set_option linter.unusedSimpArgs false
namespace Go.Proofs.Ytjghghbldifhaaa
open Go.RowKit
set_option maxRecDepth 100000 in
set_option maxHeartbeats 16000000 in
theorem scroll_no1 (A A' lA : Option Addr) (ca cb lc k : Nat) (W H W' H' : Int) (xs ys : List Int) (box : Rect) (w : World) (h1 : isPic W H xs.length = false) (h2 : isPic W' H' ys.length = false) (rx : Reads .u32 w A xs) (ry : Reads .u32 w A' ys) (hx : ∀ x ∈ xs, 0 ≤ x ∧ x ≤ 4294967295) (hy : ∀ x ∈ ys, 0 ≤ x ∧ x ≤ 4294967295) :
    Calls Try.prog 52 #[.agg #[.int .i64 W, .int .i64 H, .slice A xs.length ca], .agg #[.int .i64 W', .int .i64 H', .slice A' ys.length cb], .slice lA k lc] w (GivesC box none w) := by
  have RX := Lib.hid rx
  have RY := Lib.hid ry
  have HX := Lib.hid hx
  have HY := Lib.hid hy
  clear rx ry hx hy
  unfold GivesC
  go_enter Try.func52, Try.ntmps52
  go_wp2_with fail
  obtain ⟨w0, hw0⟩ : ∃ x, x = (((w.alloc (.cells #[.int .i64 W, .int .i64 H, .slice A xs.length ca] 43)).alloc (.cells #[.int .i64 W', .int .i64 H', .slice A' ys.length cb] 43)).alloc (.cells #[.int .i64 0, .int .i64 0, .int .i64 0, .int .i64 0, .int .i64 0, .int .i64 0] 54)).alloc (.cells #[.bool false] 4) := ⟨_, rfl⟩
  have k3 : w0.heap[w.heap.size]? = some (.cells #[.int .i64 W, .int .i64 H, .slice A xs.length ca] 43 (0, 0)) := by rw [hw0]; exact blk_old (blk_old (blk_old (blk_new w _) _) _) _
  have k4 : w0.heap[w.heap.size + 1]? = some (.cells #[.int .i64 W', .int .i64 H', .slice A' ys.length cb] 43 (0, 0)) := by rw [hw0]; exact blk_old (blk_old (blk_new1 w _ _) _) _
  have k6 : w0.heap[w.heap.size + 1 + 1]? = some (.cells #[.int .i64 0, .int .i64 0, .int .i64 0, .int .i64 0, .int .i64 0, .int .i64 0] 54 (0, 0)) := by rw [hw0]; exact blk_old (blk_new2 w _ _ _) _
  have k7 : w0.heap[w.heap.size + 1 + 1 + 1]? = some (.cells #[.bool false] 4 (0, 0)) := by rw [hw0]; exact blk_new3 w _ _ _ _
  have hE0 : Ext w w0 := by rw [hw0]; exact ((((Ext.refl w).alloc _).alloc _).alloc _).alloc _
  rw [← hw0]
  clear hw0
  refine (from_bad W H A ca xs _ h1).mono ?_
  rintro e w1 ⟨rfl, E⟩
  replace k3 := E.keep k3
  replace k4 := E.keep k4
  replace k6 := E.keep k6
  replace k7 := E.keep k7
  replace hE0 := hE0.trans E
  clear E
  obtain ⟨c4, f4⟩ := blk_rules k4
  have l4 := blk_lt k4
  go_wp2_with fail
  clear c4 f4 l4
  have E : Ext w1 (w1.alloc (.cells #[.pointer none] 60)) := (Ext.refl _).alloc _
  replace k3 := E.keep k3
  replace k4 := E.keep k4
  replace k6 := E.keep k6
  replace k7 := E.keep k7
  replace hE0 := hE0.trans E
  clear E
  generalize w1.alloc (.cells #[.pointer none] 60) = v1 at *
  refine (from_bad W' H' A' cb ys _ h2).mono ?_
  rintro e w2 ⟨rfl, E⟩
  replace k3 := E.keep k3
  replace k4 := E.keep k4
  replace k6 := E.keep k6
  replace k7 := E.keep k7
  replace hE0 := hE0.trans E
  clear E
  obtain ⟨c4, f4⟩ := blk_rules k4
  have l4 := blk_lt k4
  go_wp2_with fail
  clear c4 f4 l4
  have E : Ext w2 (w2.alloc (.cells #[.pointer none] 60)) := (Ext.refl _).alloc _
  replace k3 := E.keep k3
  replace k4 := E.keep k4
  replace k6 := E.keep k6
  replace k7 := E.keep k7
  replace hE0 := hE0.trans E
  clear E
  generalize w2.alloc (.cells #[.pointer none] 60) = v2 at *
  refine wp_region_after (by kernel_rfl) (by kernel_rfl) ?_
  repeat (go_big_quiet_step (fail))
  refine wpQuiet_nil ?_
  intro _ hw'
  obtain ⟨z, rfl⟩ := hw'
  replace k6 := z.ext.keep k6
  replace k7 := z.ext.keep k7
  replace hE0 := hE0.trans z.ext
  clear k3 k4
  generalize z.now = w3 at *
  clear z
  obtain ⟨c6, f6⟩ := blk_rules k6
  obtain ⟨c7, f7⟩ := blk_rules k7
  have l6 := blk_lt k6
  have l7 := blk_lt k7
  go_wp2_with fail
  refine bodyPost_ret (v := .tuple #[.agg #[.int .i64 0, .int .i64 0, .int .i64 0, .int .i64 0, .int .i64 0, .int .i64 0], .bool false]) (by simp only [results, Try.results52]; go_simp; done) rfl ⟨rfl, ?_⟩
  repeat' (first | with_reducible exact hE0 | with_reducible refine Ext.set ?_ ?_ _ | (dsimp only; omega) | (simp; done))
set_option maxRecDepth 100000 in
set_option maxHeartbeats 16000000 in
theorem scroll_no2 (A A' lA : Option Addr) (ca cb lc k : Nat) (W H W' H' : Int) (xs ys : List Int) (box : Rect) (w : World) (h1 : isPic W H xs.length = false) (h2 : isPic W' H' ys.length = true) (rx : Reads .u32 w A xs) (ry : Reads .u32 w A' ys) (hx : ∀ x ∈ xs, 0 ≤ x ∧ x ≤ 4294967295) (hy : ∀ x ∈ ys, 0 ≤ x ∧ x ≤ 4294967295) :
    Calls Try.prog 52 #[.agg #[.int .i64 W, .int .i64 H, .slice A xs.length ca], .agg #[.int .i64 W', .int .i64 H', .slice A' ys.length cb], .slice lA k lc] w (GivesC box none w) := by
  have RX := Lib.hid rx
  have RY := Lib.hid ry
  have HX := Lib.hid hx
  have HY := Lib.hid hy
  clear rx ry hx hy
  unfold GivesC
  go_enter Try.func52, Try.ntmps52
  go_wp2_with fail
  obtain ⟨w0, hw0⟩ : ∃ x, x = (((w.alloc (.cells #[.int .i64 W, .int .i64 H, .slice A xs.length ca] 43)).alloc (.cells #[.int .i64 W', .int .i64 H', .slice A' ys.length cb] 43)).alloc (.cells #[.int .i64 0, .int .i64 0, .int .i64 0, .int .i64 0, .int .i64 0, .int .i64 0] 54)).alloc (.cells #[.bool false] 4) := ⟨_, rfl⟩
  have k3 : w0.heap[w.heap.size]? = some (.cells #[.int .i64 W, .int .i64 H, .slice A xs.length ca] 43 (0, 0)) := by rw [hw0]; exact blk_old (blk_old (blk_old (blk_new w _) _) _) _
  have k4 : w0.heap[w.heap.size + 1]? = some (.cells #[.int .i64 W', .int .i64 H', .slice A' ys.length cb] 43 (0, 0)) := by rw [hw0]; exact blk_old (blk_old (blk_new1 w _ _) _) _
  have k6 : w0.heap[w.heap.size + 1 + 1]? = some (.cells #[.int .i64 0, .int .i64 0, .int .i64 0, .int .i64 0, .int .i64 0, .int .i64 0] 54 (0, 0)) := by rw [hw0]; exact blk_old (blk_new2 w _ _ _) _
  have k7 : w0.heap[w.heap.size + 1 + 1 + 1]? = some (.cells #[.bool false] 4 (0, 0)) := by rw [hw0]; exact blk_new3 w _ _ _ _
  have hE0 : Ext w w0 := by rw [hw0]; exact ((((Ext.refl w).alloc _).alloc _).alloc _).alloc _
  rw [← hw0]
  clear hw0
  refine (from_bad W H A ca xs _ h1).mono ?_
  rintro e w1 ⟨rfl, E⟩
  replace k3 := E.keep k3
  replace k4 := E.keep k4
  replace k6 := E.keep k6
  replace k7 := E.keep k7
  replace hE0 := hE0.trans E
  clear E
  obtain ⟨c4, f4⟩ := blk_rules k4
  have l4 := blk_lt k4
  go_wp2_with fail
  clear c4 f4 l4
  have E : Ext w1 (w1.alloc (.cells #[.pointer none] 60)) := (Ext.refl _).alloc _
  replace k3 := E.keep k3
  replace k4 := E.keep k4
  replace k6 := E.keep k6
  replace k7 := E.keep k7
  replace hE0 := hE0.trans E
  clear E
  generalize w1.alloc (.cells #[.pointer none] 60) = v1 at *
  refine (from_good W' H' A' cb ys _ h2 (RY.out.ext hE0) HY.out).mono ?_
  rintro e w2 ⟨b1, p1, q1, rfl, _, E⟩
  replace k3 := E.keep k3
  replace k4 := E.keep k4
  replace k6 := E.keep k6
  replace k7 := E.keep k7
  replace hE0 := hE0.trans E
  clear E
  obtain ⟨c4, f4⟩ := blk_rules k4
  have l4 := blk_lt k4
  go_wp2_with fail
  clear c4 f4 l4
  have E : Ext w2 (w2.alloc (.cells #[.pointer (some ⟨b1, 0, none⟩)] 60)) := (Ext.refl _).alloc _
  replace k3 := E.keep k3
  replace k4 := E.keep k4
  replace k6 := E.keep k6
  replace k7 := E.keep k7
  replace hE0 := hE0.trans E
  clear E
  generalize w2.alloc (.cells #[.pointer (some ⟨b1, 0, none⟩)] 60) = v2 at *
  refine wp_region_after (by kernel_rfl) (by kernel_rfl) ?_
  repeat (go_big_quiet_step (fail))
  refine wpQuiet_nil ?_
  intro _ hw'
  obtain ⟨z, rfl⟩ := hw'
  replace k6 := z.ext.keep k6
  replace k7 := z.ext.keep k7
  replace hE0 := hE0.trans z.ext
  clear k3 k4
  generalize z.now = w3 at *
  clear z
  obtain ⟨c6, f6⟩ := blk_rules k6
  obtain ⟨c7, f7⟩ := blk_rules k7
  have l6 := blk_lt k6
  have l7 := blk_lt k7
  go_wp2_with fail
  refine bodyPost_ret (v := .tuple #[.agg #[.int .i64 0, .int .i64 0, .int .i64 0, .int .i64 0, .int .i64 0, .int .i64 0], .bool false]) (by simp only [results, Try.results52]; go_simp; done) rfl ⟨rfl, ?_⟩
  repeat' (first | with_reducible exact hE0 | with_reducible refine Ext.set ?_ ?_ _ | (dsimp only; omega) | (simp; done))
set_option maxRecDepth 100000 in
set_option maxHeartbeats 16000000 in
theorem scroll_no3 (A A' lA : Option Addr) (ca cb lc k : Nat) (W H W' H' : Int) (xs ys : List Int) (box : Rect) (w : World) (h1 : isPic W H xs.length = true) (h2 : isPic W' H' ys.length = false) (rx : Reads .u32 w A xs) (ry : Reads .u32 w A' ys) (hx : ∀ x ∈ xs, 0 ≤ x ∧ x ≤ 4294967295) (hy : ∀ x ∈ ys, 0 ≤ x ∧ x ≤ 4294967295) :
    Calls Try.prog 52 #[.agg #[.int .i64 W, .int .i64 H, .slice A xs.length ca], .agg #[.int .i64 W', .int .i64 H', .slice A' ys.length cb], .slice lA k lc] w (GivesC box none w) := by
  have RX := Lib.hid rx
  have RY := Lib.hid ry
  have HX := Lib.hid hx
  have HY := Lib.hid hy
  clear rx ry hx hy
  unfold GivesC
  go_enter Try.func52, Try.ntmps52
  go_wp2_with fail
  obtain ⟨w0, hw0⟩ : ∃ x, x = (((w.alloc (.cells #[.int .i64 W, .int .i64 H, .slice A xs.length ca] 43)).alloc (.cells #[.int .i64 W', .int .i64 H', .slice A' ys.length cb] 43)).alloc (.cells #[.int .i64 0, .int .i64 0, .int .i64 0, .int .i64 0, .int .i64 0, .int .i64 0] 54)).alloc (.cells #[.bool false] 4) := ⟨_, rfl⟩
  have k3 : w0.heap[w.heap.size]? = some (.cells #[.int .i64 W, .int .i64 H, .slice A xs.length ca] 43 (0, 0)) := by rw [hw0]; exact blk_old (blk_old (blk_old (blk_new w _) _) _) _
  have k4 : w0.heap[w.heap.size + 1]? = some (.cells #[.int .i64 W', .int .i64 H', .slice A' ys.length cb] 43 (0, 0)) := by rw [hw0]; exact blk_old (blk_old (blk_new1 w _ _) _) _
  have k6 : w0.heap[w.heap.size + 1 + 1]? = some (.cells #[.int .i64 0, .int .i64 0, .int .i64 0, .int .i64 0, .int .i64 0, .int .i64 0] 54 (0, 0)) := by rw [hw0]; exact blk_old (blk_new2 w _ _ _) _
  have k7 : w0.heap[w.heap.size + 1 + 1 + 1]? = some (.cells #[.bool false] 4 (0, 0)) := by rw [hw0]; exact blk_new3 w _ _ _ _
  have hE0 : Ext w w0 := by rw [hw0]; exact ((((Ext.refl w).alloc _).alloc _).alloc _).alloc _
  rw [← hw0]
  clear hw0
  refine (from_good W H A ca xs _ h1 (RX.out.ext hE0) HX.out).mono ?_
  rintro e w1 ⟨b0, p0, q0, rfl, _, E⟩
  replace k3 := E.keep k3
  replace k4 := E.keep k4
  replace k6 := E.keep k6
  replace k7 := E.keep k7
  replace hE0 := hE0.trans E
  clear E
  obtain ⟨c4, f4⟩ := blk_rules k4
  have l4 := blk_lt k4
  go_wp2_with fail
  clear c4 f4 l4
  have E : Ext w1 (w1.alloc (.cells #[.pointer (some ⟨b0, 0, none⟩)] 60)) := (Ext.refl _).alloc _
  replace k3 := E.keep k3
  replace k4 := E.keep k4
  replace k6 := E.keep k6
  replace k7 := E.keep k7
  replace hE0 := hE0.trans E
  clear E
  generalize w1.alloc (.cells #[.pointer (some ⟨b0, 0, none⟩)] 60) = v1 at *
  refine (from_bad W' H' A' cb ys _ h2).mono ?_
  rintro e w2 ⟨rfl, E⟩
  replace k3 := E.keep k3
  replace k4 := E.keep k4
  replace k6 := E.keep k6
  replace k7 := E.keep k7
  replace hE0 := hE0.trans E
  clear E
  obtain ⟨c4, f4⟩ := blk_rules k4
  have l4 := blk_lt k4
  go_wp2_with fail
  clear c4 f4 l4
  have E : Ext w2 (w2.alloc (.cells #[.pointer none] 60)) := (Ext.refl _).alloc _
  replace k3 := E.keep k3
  replace k4 := E.keep k4
  replace k6 := E.keep k6
  replace k7 := E.keep k7
  replace hE0 := hE0.trans E
  clear E
  generalize w2.alloc (.cells #[.pointer none] 60) = v2 at *
  refine wp_region_after (by kernel_rfl) (by kernel_rfl) ?_
  repeat (go_big_quiet_step (fail))
  refine wpQuiet_nil ?_
  intro _ hw'
  obtain ⟨z, rfl⟩ := hw'
  replace k6 := z.ext.keep k6
  replace k7 := z.ext.keep k7
  replace hE0 := hE0.trans z.ext
  clear k3 k4
  generalize z.now = w3 at *
  clear z
  obtain ⟨c6, f6⟩ := blk_rules k6
  obtain ⟨c7, f7⟩ := blk_rules k7
  have l6 := blk_lt k6
  have l7 := blk_lt k7
  go_wp2_with fail
  refine bodyPost_ret (v := .tuple #[.agg #[.int .i64 0, .int .i64 0, .int .i64 0, .int .i64 0, .int .i64 0, .int .i64 0], .bool false]) (by simp only [results, Try.results52]; go_simp; done) rfl ⟨rfl, ?_⟩
  repeat' (first | with_reducible exact hE0 | with_reducible refine Ext.set ?_ ?_ _ | (dsimp only; omega) | (simp; done))
end Go.Proofs.Ytjghghbldifhaaa
set_option linter.unusedVariables false
set_option linter.unusedSimpArgs false
namespace Go.Proofs.Ytjghghbldifhaaa
open Go.RowKit
set_option maxRecDepth 100000 in
set_option maxHeartbeats 16000000 in
theorem scroll_no4 (A A' lA : Option Addr) (ca cb lc k : Nat) (W H W' H' : Int) (xs ys : List Int) (box : Rect) (w : World) (h1 : isPic W H xs.length = true) (h2 : isPic W' H' ys.length = true) (rx : Reads .u32 w A xs) (ry : Reads .u32 w A' ys) (hx : ∀ x ∈ xs, 0 ≤ x ∧ x ≤ 4294967295) (hy : ∀ x ∈ ys, 0 ≤ x ∧ x ≤ 4294967295) (h3 : W ≠ W') :
    Calls Try.prog 52 #[.agg #[.int .i64 W, .int .i64 H, .slice A xs.length ca], .agg #[.int .i64 W', .int .i64 H', .slice A' ys.length cb], .slice lA k lc] w (GivesC box none w) := by
  have dW : (W != W') = true := by simpa using h3
  have RX := Lib.hid rx
  have RY := Lib.hid ry
  have HX := Lib.hid hx
  have HY := Lib.hid hy
  clear rx ry hx hy
  unfold GivesC
  go_enter Try.func52, Try.ntmps52
  go_wp2_with fail
  obtain ⟨w0, hw0⟩ : ∃ x, x = (((w.alloc (.cells #[.int .i64 W, .int .i64 H, .slice A xs.length ca] 43)).alloc (.cells #[.int .i64 W', .int .i64 H', .slice A' ys.length cb] 43)).alloc (.cells #[.int .i64 0, .int .i64 0, .int .i64 0, .int .i64 0, .int .i64 0, .int .i64 0] 54)).alloc (.cells #[.bool false] 4) := ⟨_, rfl⟩
  have k3 : w0.heap[w.heap.size]? = some (.cells #[.int .i64 W, .int .i64 H, .slice A xs.length ca] 43 (0, 0)) := by rw [hw0]; exact blk_old (blk_old (blk_old (blk_new w _) _) _) _
  have k4 : w0.heap[w.heap.size + 1]? = some (.cells #[.int .i64 W', .int .i64 H', .slice A' ys.length cb] 43 (0, 0)) := by rw [hw0]; exact blk_old (blk_old (blk_new1 w _ _) _) _
  have k6 : w0.heap[w.heap.size + 1 + 1]? = some (.cells #[.int .i64 0, .int .i64 0, .int .i64 0, .int .i64 0, .int .i64 0, .int .i64 0] 54 (0, 0)) := by rw [hw0]; exact blk_old (blk_new2 w _ _ _) _
  have k7 : w0.heap[w.heap.size + 1 + 1 + 1]? = some (.cells #[.bool false] 4 (0, 0)) := by rw [hw0]; exact blk_new3 w _ _ _ _
  have hE0 : Ext w w0 := by rw [hw0]; exact ((((Ext.refl w).alloc _).alloc _).alloc _).alloc _
  rw [← hw0]
  clear hw0
  refine (from_good W H A ca xs _ h1 (RX.out.ext hE0) HX.out).mono ?_
  rintro e w1 ⟨b0, p0, q0, rfl, hB0, E⟩
  replace k3 := E.keep k3
  replace k4 := E.keep k4
  replace k6 := E.keep k6
  replace k7 := E.keep k7
  replace hE0 := hE0.trans E

  clear E
  obtain ⟨c4, f4⟩ := blk_rules k4
  have l4 := blk_lt k4
  go_wp2_with fail
  clear c4 f4 l4
  have kk0 : (w1.alloc (.cells #[.pointer (some ⟨b0, 0, none⟩)] 60)).heap[w1.heap.size]? = some (.cells #[.pointer (some ⟨b0, 0, none⟩)] 60 (0, 0)) := blk_new w1 _
  have E : Ext w1 (w1.alloc (.cells #[.pointer (some ⟨b0, 0, none⟩)] 60)) := (Ext.refl _).alloc _
  replace k3 := E.keep k3
  replace k4 := E.keep k4
  replace k6 := E.keep k6
  replace k7 := E.keep k7
  replace hE0 := hE0.trans E
  replace hB0 := hB0.ext E

  clear E
  generalize w1.alloc (.cells #[.pointer (some ⟨b0, 0, none⟩)] 60) = v1 at *
  refine (from_good W' H' A' cb ys _ h2 (RY.out.ext hE0) HY.out).mono ?_
  rintro e w2 ⟨b1, p1, q1, rfl, hB1, E⟩
  replace k3 := E.keep k3
  replace k4 := E.keep k4
  replace k6 := E.keep k6
  replace k7 := E.keep k7
  replace hE0 := hE0.trans E
  replace hB0 := hB0.ext E
  replace kk0 := E.keep kk0
  clear E
  obtain ⟨c4, f4⟩ := blk_rules k4
  have l4 := blk_lt k4
  go_wp2_with fail
  clear c4 f4 l4
  have kk1 : (w2.alloc (.cells #[.pointer (some ⟨b1, 0, none⟩)] 60)).heap[w2.heap.size]? = some (.cells #[.pointer (some ⟨b1, 0, none⟩)] 60 (0, 0)) := blk_new w2 _
  have E : Ext w2 (w2.alloc (.cells #[.pointer (some ⟨b1, 0, none⟩)] 60)) := (Ext.refl _).alloc _
  replace k3 := E.keep k3
  replace k4 := E.keep k4
  replace k6 := E.keep k6
  replace k7 := E.keep k7
  replace hE0 := hE0.trans E
  replace hB1 := hB1.ext E
  replace hB0 := hB0.ext E
  replace kk0 := E.keep kk0
  clear E
  generalize w2.alloc (.cells #[.pointer (some ⟨b1, 0, none⟩)] 60) = v2 at *
  have j0 := After.blk kk0
  have j1 := After.blk kk1
  refine wp_region_after (by kernel_rfl) (by kernel_rfl) ?_
  repeat (go_big_quiet_step (first | with_reducible exact Calls.after_same (w_any (hB0.ext (After.ext _))) | with_reducible exact Calls.after_same (h_any (hB0.ext (After.ext _))) | with_reducible exact Calls.after_same (w_any (hB1.ext (After.ext _))) | with_reducible exact Calls.after_same (h_any (hB1.ext (After.ext _)))))
  refine wpQuiet_nil ?_
  intro _ hw'
  obtain ⟨z, rfl⟩ := hw'
  replace k6 := z.ext.keep k6
  replace k7 := z.ext.keep k7
  replace hE0 := hE0.trans z.ext
  clear k3 k4 j0 j1 kk0 kk1 hB0 hB1
  generalize z.now = w3 at *
  clear z
  obtain ⟨c6, f6⟩ := blk_rules k6
  obtain ⟨c7, f7⟩ := blk_rules k7
  have l6 := blk_lt k6
  have l7 := blk_lt k7
  go_wp2_with fail
  refine bodyPost_ret (v := .tuple #[.agg #[.int .i64 0, .int .i64 0, .int .i64 0, .int .i64 0, .int .i64 0, .int .i64 0], .bool false]) (by simp only [results, Try.results52]; go_simp; done) rfl ⟨rfl, ?_⟩
  repeat' (first | with_reducible exact hE0 | with_reducible refine Ext.set ?_ ?_ _ | (dsimp only; omega) | (simp; done))
set_option maxRecDepth 100000 in
set_option maxHeartbeats 16000000 in
theorem scroll_no5 (A A' lA : Option Addr) (ca cb lc k : Nat) (W H W' H' : Int) (xs ys : List Int) (box : Rect) (w : World) (h1 : isPic W H xs.length = true) (h2 : isPic W' H' ys.length = true) (rx : Reads .u32 w A xs) (ry : Reads .u32 w A' ys) (hx : ∀ x ∈ xs, 0 ≤ x ∧ x ≤ 4294967295) (hy : ∀ x ∈ ys, 0 ≤ x ∧ x ≤ 4294967295) (h3 : W = W') (h4 : H ≠ H') :
    Calls Try.prog 52 #[.agg #[.int .i64 W, .int .i64 H, .slice A xs.length ca], .agg #[.int .i64 W', .int .i64 H', .slice A' ys.length cb], .slice lA k lc] w (GivesC box none w) := by
  have dW : (W != W') = false := by simpa using h3
  have dH : (H != H') = true := by simpa using h4
  clear h3
  have RX := Lib.hid rx
  have RY := Lib.hid ry
  have HX := Lib.hid hx
  have HY := Lib.hid hy
  clear rx ry hx hy
  unfold GivesC
  go_enter Try.func52, Try.ntmps52
  go_wp2_with fail
  obtain ⟨w0, hw0⟩ : ∃ x, x = (((w.alloc (.cells #[.int .i64 W, .int .i64 H, .slice A xs.length ca] 43)).alloc (.cells #[.int .i64 W', .int .i64 H', .slice A' ys.length cb] 43)).alloc (.cells #[.int .i64 0, .int .i64 0, .int .i64 0, .int .i64 0, .int .i64 0, .int .i64 0] 54)).alloc (.cells #[.bool false] 4) := ⟨_, rfl⟩
  have k3 : w0.heap[w.heap.size]? = some (.cells #[.int .i64 W, .int .i64 H, .slice A xs.length ca] 43 (0, 0)) := by rw [hw0]; exact blk_old (blk_old (blk_old (blk_new w _) _) _) _
  have k4 : w0.heap[w.heap.size + 1]? = some (.cells #[.int .i64 W', .int .i64 H', .slice A' ys.length cb] 43 (0, 0)) := by rw [hw0]; exact blk_old (blk_old (blk_new1 w _ _) _) _
  have k6 : w0.heap[w.heap.size + 1 + 1]? = some (.cells #[.int .i64 0, .int .i64 0, .int .i64 0, .int .i64 0, .int .i64 0, .int .i64 0] 54 (0, 0)) := by rw [hw0]; exact blk_old (blk_new2 w _ _ _) _
  have k7 : w0.heap[w.heap.size + 1 + 1 + 1]? = some (.cells #[.bool false] 4 (0, 0)) := by rw [hw0]; exact blk_new3 w _ _ _ _
  have hE0 : Ext w w0 := by rw [hw0]; exact ((((Ext.refl w).alloc _).alloc _).alloc _).alloc _
  rw [← hw0]
  clear hw0
  refine (from_good W H A ca xs _ h1 (RX.out.ext hE0) HX.out).mono ?_
  rintro e w1 ⟨b0, p0, q0, rfl, hB0, E⟩
  replace k3 := E.keep k3
  replace k4 := E.keep k4
  replace k6 := E.keep k6
  replace k7 := E.keep k7
  replace hE0 := hE0.trans E

  clear E
  obtain ⟨c4, f4⟩ := blk_rules k4
  have l4 := blk_lt k4
  go_wp2_with fail
  clear c4 f4 l4
  have kk0 : (w1.alloc (.cells #[.pointer (some ⟨b0, 0, none⟩)] 60)).heap[w1.heap.size]? = some (.cells #[.pointer (some ⟨b0, 0, none⟩)] 60 (0, 0)) := blk_new w1 _
  have E : Ext w1 (w1.alloc (.cells #[.pointer (some ⟨b0, 0, none⟩)] 60)) := (Ext.refl _).alloc _
  replace k3 := E.keep k3
  replace k4 := E.keep k4
  replace k6 := E.keep k6
  replace k7 := E.keep k7
  replace hE0 := hE0.trans E
  replace hB0 := hB0.ext E

  clear E
  generalize w1.alloc (.cells #[.pointer (some ⟨b0, 0, none⟩)] 60) = v1 at *
  refine (from_good W' H' A' cb ys _ h2 (RY.out.ext hE0) HY.out).mono ?_
  rintro e w2 ⟨b1, p1, q1, rfl, hB1, E⟩
  replace k3 := E.keep k3
  replace k4 := E.keep k4
  replace k6 := E.keep k6
  replace k7 := E.keep k7
  replace hE0 := hE0.trans E
  replace hB0 := hB0.ext E
  replace kk0 := E.keep kk0
  clear E
  obtain ⟨c4, f4⟩ := blk_rules k4
  have l4 := blk_lt k4
  go_wp2_with fail
  clear c4 f4 l4
  have kk1 : (w2.alloc (.cells #[.pointer (some ⟨b1, 0, none⟩)] 60)).heap[w2.heap.size]? = some (.cells #[.pointer (some ⟨b1, 0, none⟩)] 60 (0, 0)) := blk_new w2 _
  have E : Ext w2 (w2.alloc (.cells #[.pointer (some ⟨b1, 0, none⟩)] 60)) := (Ext.refl _).alloc _
  replace k3 := E.keep k3
  replace k4 := E.keep k4
  replace k6 := E.keep k6
  replace k7 := E.keep k7
  replace hE0 := hE0.trans E
  replace hB1 := hB1.ext E
  replace hB0 := hB0.ext E
  replace kk0 := E.keep kk0
  clear E
  generalize w2.alloc (.cells #[.pointer (some ⟨b1, 0, none⟩)] 60) = v2 at *
  have j0 := After.blk kk0
  have j1 := After.blk kk1
  refine wp_region_after (by kernel_rfl) (by kernel_rfl) ?_
  repeat (go_big_quiet_step (first | with_reducible exact Calls.after_same (w_any (hB0.ext (After.ext _))) | with_reducible exact Calls.after_same (h_any (hB0.ext (After.ext _))) | with_reducible exact Calls.after_same (w_any (hB1.ext (After.ext _))) | with_reducible exact Calls.after_same (h_any (hB1.ext (After.ext _)))))
  refine wpQuiet_nil ?_
  intro _ hw'
  obtain ⟨z, rfl⟩ := hw'
  replace k6 := z.ext.keep k6
  replace k7 := z.ext.keep k7
  replace hE0 := hE0.trans z.ext
  clear k3 k4 j0 j1 kk0 kk1 hB0 hB1
  generalize z.now = w3 at *
  clear z
  obtain ⟨c6, f6⟩ := blk_rules k6
  obtain ⟨c7, f7⟩ := blk_rules k7
  have l6 := blk_lt k6
  have l7 := blk_lt k7
  go_wp2_with fail
  refine bodyPost_ret (v := .tuple #[.agg #[.int .i64 0, .int .i64 0, .int .i64 0, .int .i64 0, .int .i64 0, .int .i64 0], .bool false]) (by simp only [results, Try.results52]; go_simp; done) rfl ⟨rfl, ?_⟩
  repeat' (first | with_reducible exact hE0 | with_reducible refine Ext.set ?_ ?_ _ | (dsimp only; omega) | (simp; done))
end Go.Proofs.Ytjghghbldifhaaa
