/- The law ScrollTells. Printed by gen_scrt.py. -/
import Derived.Test.YtjghghbldifhaaaScrS
import Derived.Test.YtjghghbldifhaaaArgs
set_option linter.unusedVariables false
set_option linter.unusedSimpArgs false
namespace Go.Proofs.Ytjghghbldifhaaa
open Go.RowKit
attribute [local go_sem ↓] eq_copy
theorem GivesC.form {box : Rect} {o : Option Nat} {w : World} {e : Ending} {w' : World} (h : GivesC box o w e w') {t : Rect} {s : Int × Int} {is : Bool} (ht : cpTo box o = t) (hs : cpBy o = s) (his : o.isSome = is) : e = .returned (.tuple #[.agg #[.int .i64 t.x, .int .i64 t.y, .int .i64 t.w, .int .i64 t.h, .int .i64 s.1, .int .i64 s.2], .bool is]) ∧ Ext w w' := by
  unfold GivesC copyV at h
  rw [ht, hs, his] at h
  exact h
set_option maxRecDepth 100000 in
set_option maxHeartbeats 8000000 in
theorem tells18_in (W H : Int) (A : Option Addr) (ca : Nat) (xs : List Int) (W' H' : Int) (A' : Option Addr) (cb : Nat) (ys : List Int) (lA : Option Addr) (lc : Nat) (l : List Rect) (w : World) (rx : Reads .u32 w A xs) (ry : Reads .u32 w A' ys) (hx : ∀ x ∈ xs, 0 ≤ x ∧ x ≤ 4294967295) (hy : ∀ x ∈ ys, 0 ≤ x ∧ x ≤ 4294967295) (rl : RectsAt w lA l) (d1 : ((400 : Int) < xs.length) = False) (d2 : ((400 : Int) < ys.length) = False) (hl : l.length ≤ 16) :
    Calls Try.prog 8 #[.agg #[.int .i64 W, .int .i64 H, .slice A xs.length ca], .agg #[.int .i64 W', .int .i64 H', .slice A' ys.length cb], .slice lA l.length lc] w fun e w' => e = .returned (.bool true) ∧ Ext w w' := by
  have d3 : ((16 : Int) < l.length) = False := by simp; omega
  obtain ⟨t, ht⟩ : ∃ t, cpTo (boxOf W H l) (scrollOf W H xs W' H' ys l) = t := ⟨_, rfl⟩
  obtain ⟨⟨dx, dy⟩, hs⟩ : ∃ s, cpBy (scrollOf W H xs W' H' ys l) = s := ⟨_, rfl⟩
  obtain ⟨is, his⟩ : ∃ is, (scrollOf W H xs W' H' ys l).isSome = is := ⟨_, rfl⟩
  have C1 := Lib.hid fun (w1 : World) (E : Ext w w1) => (scroll_any A A' lA ca cb lc W H W' H' xs ys l w1 (rx.ext E) (ry.ext E) hx hy (rl.ext E) (by omega)).mono fun e w' h => GivesC.form h ht hs his
  have C2 := Lib.hid fun (w1 : World) (E : Ext w w1) => (rscroll_any A A' lA ca cb lc W H W' H' xs ys l w1 (rx.ext E) (ry.ext E) hx hy (rl.ext E) (by omega)).mono fun e w' h => GivesC.form h ht hs his
  clear ht hs his rx ry rl hx hy hl
  obtain ⟨x, y, a, b⟩ := t
  dsimp only at C1 C2
  have e1 : Rect.eqB ⟨x, y, a, b⟩ ⟨x, y, a, b⟩ = true := Rect.eqB_iff.2 rfl
  go_enter Try.func8, Try.ntmps8
  go_upto_region 1 with fail
  obtain ⟨w0, hw0⟩ : ∃ zz, zz = (w.alloc (.cells #[.int .i64 W, .int .i64 H, .slice A xs.length ca] 43)).alloc (.cells #[.int .i64 W', .int .i64 H', .slice A' ys.length cb] 43) := ⟨_, rfl⟩
  have k0 : w0.heap[w.heap.size]? = some (.cells #[.int .i64 W, .int .i64 H, .slice A xs.length ca] 43 (0, 0)) := by rw [hw0]; exact blk_old (blk_new w _) _
  have k1 : w0.heap[w.heap.size + 1]? = some (.cells #[.int .i64 W', .int .i64 H', .slice A' ys.length cb] 43 (0, 0)) := by rw [hw0]; exact blk_new1 w _ _
  have hE : Ext w w0 := by rw [hw0]; exact ((Ext.refl w).alloc _).alloc _
  rw [← hw0]
  clear hw0
  obtain ⟨c0, f0⟩ := blk_rules k0
  obtain ⟨c1, f1⟩ := blk_rules k1
  go_wp2_with fail
  clear c0 f0 c1 f1
  refine (C1.out _ hE).mono ?_
  rintro e w1 ⟨rfl, E⟩
  replace k0 := E.keep k0
  replace k1 := E.keep k1
  replace hE := hE.trans E
  clear E
  obtain ⟨c0, f0⟩ := blk_rules k0
  have l0 := blk_lt k0
  obtain ⟨c1, f1⟩ := blk_rules k1
  have l1 := blk_lt k1
  go_wp2_with fail
  clear c0 f0 l0
  clear c1 f1 l1
  obtain ⟨v1, hv1⟩ : ∃ zz, zz = w1.alloc (.cells #[.int .i64 x, .int .i64 y, .int .i64 a, .int .i64 b, .int .i64 dx, .int .i64 dy] 54) := ⟨_, rfl⟩
  have k7 : v1.heap[w1.heap.size]? = some (.cells #[.int .i64 x, .int .i64 y, .int .i64 a, .int .i64 b, .int .i64 dx, .int .i64 dy] 54 (0, 0)) := by rw [hv1]; exact blk_new _ _
  have E : Ext w1 v1 := by rw [hv1]; exact (Ext.refl _).alloc _
  rw [← hv1]
  clear hv1
  replace k0 := E.keep k0
  replace k1 := E.keep k1
  replace hE := hE.trans E
  clear E
  obtain ⟨Pk7, hPk7⟩ : ∃ zz, w1.heap.size = zz := ⟨_, rfl⟩
  simp only [hPk7] at k7 ⊢
  clear hPk7
  refine (C2.out _ hE).mono ?_
  rintro e w2 ⟨rfl, E⟩
  replace k7 := E.keep k7
  replace hE := hE.trans E
  clear E
  obtain ⟨c7, f7⟩ := blk_rules k7
  have l7 := blk_lt k7
  cases is
  all_goals
    go_wp2_with fail
    refine (wakes18_any _).mono ?_
    rintro e w3 ⟨rfl, E⟩
    go_wp2_with fail
    go_ret
    exact ⟨rfl, hE.trans (Ext.of_alloc E)⟩
theorem tells18_any (W H : Int) (A : Option Addr) (ca : Nat) (xs : List Int) (W' H' : Int) (A' : Option Addr) (cb : Nat) (ys : List Int) (lA : Option Addr) (lc : Nat) (l : List Rect) (w : World) (rx : Reads .u32 w A xs) (ry : Reads .u32 w A' ys) (hx : ∀ x ∈ xs, 0 ≤ x ∧ x ≤ 4294967295) (hy : ∀ x ∈ ys, 0 ≤ x ∧ x ≤ 4294967295) (rl : RectsAt w lA l) :
    Calls Try.prog 8 #[.agg #[.int .i64 W, .int .i64 H, .slice A xs.length ca], .agg #[.int .i64 W', .int .i64 H', .slice A' ys.length cb], .slice lA l.length lc] w fun e w' => e = .returned (.bool true) ∧ Ext w w' := by
  by_cases h1 : xs.length ≤ 400
  · have d1 : ((400 : Int) < xs.length) = False := by simp; omega
    by_cases h2 : ys.length ≤ 400
    · have d2 : ((400 : Int) < ys.length) = False := by simp; omega
      by_cases h3 : l.length ≤ 16
      · exact tells18_in W H A ca xs W' H' A' cb ys lA lc l w rx ry hx hy rl d1 d2 h3
      · have d3 : ((16 : Int) < l.length) = True := by simp; omega
        clear rx ry rl
        go_enter Try.func8, Try.ntmps8
        go_upto_region 1 with fail
        obtain ⟨w0, hw0⟩ : ∃ zz, zz = (w.alloc (.cells #[.int .i64 W, .int .i64 H, .slice A xs.length ca] 43)).alloc (.cells #[.int .i64 W', .int .i64 H', .slice A' ys.length cb] 43) := ⟨_, rfl⟩
        have k0 : w0.heap[w.heap.size]? = some (.cells #[.int .i64 W, .int .i64 H, .slice A xs.length ca] 43 (0, 0)) := by rw [hw0]; exact blk_old (blk_new w _) _
        have k1 : w0.heap[w.heap.size + 1]? = some (.cells #[.int .i64 W', .int .i64 H', .slice A' ys.length cb] 43 (0, 0)) := by rw [hw0]; exact blk_new1 w _ _
        have hE : Ext w w0 := by rw [hw0]; exact ((Ext.refl w).alloc _).alloc _
        rw [← hw0]
        clear hw0
        obtain ⟨c0, f0⟩ := blk_rules k0
        obtain ⟨c1, f1⟩ := blk_rules k1
        go_wp2_with fail
        refine (wakes18_any _).mono ?_
        rintro e w1 ⟨rfl, E⟩
        go_wp2_with fail
        go_ret
        exact ⟨rfl, hE.trans E⟩
    · have d2 : ((400 : Int) < ys.length) = True := by simp; omega
      clear rx ry rl
      go_enter Try.func8, Try.ntmps8
      go_upto_region 1 with fail
      obtain ⟨w0, hw0⟩ : ∃ zz, zz = (w.alloc (.cells #[.int .i64 W, .int .i64 H, .slice A xs.length ca] 43)).alloc (.cells #[.int .i64 W', .int .i64 H', .slice A' ys.length cb] 43) := ⟨_, rfl⟩
      have k0 : w0.heap[w.heap.size]? = some (.cells #[.int .i64 W, .int .i64 H, .slice A xs.length ca] 43 (0, 0)) := by rw [hw0]; exact blk_old (blk_new w _) _
      have k1 : w0.heap[w.heap.size + 1]? = some (.cells #[.int .i64 W', .int .i64 H', .slice A' ys.length cb] 43 (0, 0)) := by rw [hw0]; exact blk_new1 w _ _
      have hE : Ext w w0 := by rw [hw0]; exact ((Ext.refl w).alloc _).alloc _
      rw [← hw0]
      clear hw0
      obtain ⟨c0, f0⟩ := blk_rules k0
      obtain ⟨c1, f1⟩ := blk_rules k1
      go_wp2_with fail
      refine (wakes18_any _).mono ?_
      rintro e w1 ⟨rfl, E⟩
      go_wp2_with fail
      go_ret
      exact ⟨rfl, hE.trans E⟩
  · have d1 : ((400 : Int) < xs.length) = True := by simp; omega
    clear rx ry rl
    go_enter Try.func8, Try.ntmps8
    go_upto_region 1 with fail
    obtain ⟨w0, hw0⟩ : ∃ zz, zz = (w.alloc (.cells #[.int .i64 W, .int .i64 H, .slice A xs.length ca] 43)).alloc (.cells #[.int .i64 W', .int .i64 H', .slice A' ys.length cb] 43) := ⟨_, rfl⟩
    have k0 : w0.heap[w.heap.size]? = some (.cells #[.int .i64 W, .int .i64 H, .slice A xs.length ca] 43 (0, 0)) := by rw [hw0]; exact blk_old (blk_new w _) _
    have k1 : w0.heap[w.heap.size + 1]? = some (.cells #[.int .i64 W', .int .i64 H', .slice A' ys.length cb] 43 (0, 0)) := by rw [hw0]; exact blk_new1 w _ _
    have hE : Ext w w0 := by rw [hw0]; exact ((Ext.refl w).alloc _).alloc _
    rw [← hw0]
    clear hw0
    obtain ⟨c0, f0⟩ := blk_rules k0
    obtain ⟨c1, f1⟩ := blk_rules k1
    go_wp2_with fail
    refine (wakes18_any _).mono ?_
    rintro e w1 ⟨rfl, E⟩
    go_wp2_with fail
    go_ret
    exact ⟨rfl, hE.trans E⟩
end Go.Proofs.Ytjghghbldifhaaa
