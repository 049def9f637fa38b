/- The walks of package pixbuf, the first part: New, From. -/
/- The walks of package pixbuf, the second part: W, H, all, At, Set. -/
/- The walks of package pixbuf, the third part: Clone, Image. -/
import Derived.Test.YtjghghbldifhaaaRectD
import Derived.Test.YtjghghbldifhaaaApp
import Derived.Lib.SliceRun
import Derived.Deep.RegionHeld3
set_option linter.unusedVariables false
set_option linter.unusedSimpArgs false
namespace Go.Proofs.Ytjghghbldifhaaa
open Go.RowKit
set_option maxHeartbeats 1000000 in
theorem new_bad (W H : Int) (w : World) (h : okSize W H = false) :
    Calls Try.prog 59 #[.int .i64 W, .int .i64 H] w fun e w' => e = .returned (.tuple #[.pointer none, .int .i64 1]) ∧ w = w' := by
  have hh : W < 1 ∨ 1 ≤ W ∧ 256 < W ∨ 1 ≤ W ∧ W ≤ 256 ∧ H < 1 ∨ 1 ≤ W ∧ W ≤ 256 ∧ 1 ≤ H ∧ 256 < H := by
    have : ¬ (okSize W H = true) := by rw [h]; simp
    rw [okSize_iff] at this; omega
  rcases hh with h1 | ⟨h1, h2⟩ | ⟨h1, h2, h3⟩ | ⟨h1, h2, h3, h4⟩
  all_goals
    go_enter Try.func59, Try.ntmps59
    go_wp2
    go_ret2
    exact ⟨rfl, rfl⟩
theorem info_u32 : (Try.prog.info? 58).map (fun i => (i.zero, i.size, i.bytes)) = some (some (.int .u32 0), 1, 4) := by kernel_rfl
set_option maxHeartbeats 1000000 in
theorem new_good (W H : Int) (w : World) (h1 : 1 ≤ W) (h2 : W ≤ 256) (h3 : 1 ≤ H) (h4 : H ≤ 256) :
    Calls Try.prog 59 #[.int .i64 W, .int .i64 H] w fun e w' => e = .returned (.tuple #[.pointer (some ⟨w.heap.size + 1, 0, none⟩), .int .i64 0]) ∧ BufAt 117 58 w' w.heap.size (w.heap.size + 1) w.heap.size (W * H).toNat W H (List.replicate (W * H).toNat 0) ∧ Ext w w' := by
  obtain ⟨m1, m2⟩ := mul_bd h1 h2 h3 h4
  obtain ⟨n, hn⟩ : ∃ n : Nat, W * H = n := ⟨(W * H).toNat, by omega⟩
  rw [hn] at m1 m2 ⊢
  rw [Int.toNat_natCast]
  have hm := run_make_row' 41 58 (.int .u32 0) 4 Try.underlying41 info_u32 rfl .i64 .i64 n (by omega) (by omega)
  go_enter Try.func59, Try.ntmps59
  go_wp2
  go_ret2
  refine ⟨rfl, ?_, ((Ext.refl _).alloc _).alloc _⟩
  have hl : (List.replicate n (0 : Int)).length = n := by simp
  refine ⟨?_, ?_, by omega, by omega, h1, h2, h3, h4, by rw [hl, hn], fun p hp => by rw [(List.mem_replicate.1 hp).2]; omega⟩
  · rw [hl]; exact blk_new1 w _ _
  · have := (own_made w w.heap.size 58 .u32 n (Nat.le_refl _) (by omega)).alloc (.cells #[.int .i64 W, .int .i64 H, .slice (some ⟨w.heap.size, 0, none⟩) n n] 117)
    unfold Own
    rw [hl]
    exact this

/-- What From has copied behind k rounds. -/
def copied (xs : List Int) (k : Nat) : List Int := (xs.take k).map cut24 ++ List.replicate (xs.length - k) 0
theorem copied_length (xs : List Int) (k : Nat) (h : k ≤ xs.length) : (copied xs k).length = xs.length := by simp [copied]; omega
theorem copied_zero (xs : List Int) : copied xs 0 = List.replicate xs.length 0 := by simp [copied]
theorem copied_all (xs : List Int) : copied xs xs.length = xs.map cut24 := by simp [copied]
theorem copied_succ (xs : List Int) (k : Nat) (h : k < xs.length) : (copied xs k).set k (cut24 (xs.getD k 0)) = copied xs (k + 1) := by
  unfold copied
  rw [List.set_append_right _ _ (by simp; omega)]
  have e1 : xs.length - k = (xs.length - (k + 1)) + 1 := by omega
  rw [show k - ((xs.take k).map cut24).length = 0 from by simp; omega, e1, List.replicate_succ, List.set_cons_zero, List.take_succ_eq_append_getElem h, List.map_append, List.append_assoc]
  simp only [List.getD_eq_getElem?_getD, List.getElem?_eq_getElem h, Option.getD_some, List.map_cons, List.map_nil, List.cons_append, List.nil_append]
set_option maxHeartbeats 1000000 in
theorem from_bad (W H : Int) (A : Option Addr) (c : Nat) (xs : List Int) (w : World) (h : isPic W H xs.length = false) :
    Calls Try.prog 54 #[.agg #[.int .i64 W, .int .i64 H, .slice A xs.length c]] w fun e w' => e = .returned (.tuple #[.pointer none, .int .i64 1]) ∧ Ext w w' := by
  cases hs : okSize W H
  · go_enter Try.func54, Try.ntmps54
    go_wp2_with fail
    refine (new_bad _ _ _ hs).mono ?_
    rintro e w' ⟨rfl, rfl⟩
    go_wp2_with fail
    go_quiet (fail)
    go_wp2
    go_ret2
    exact ⟨rfl, ((Ext.refl _).alloc _).drewN _⟩
  · obtain ⟨h1, h2, h3, h4⟩ := okSize_iff.1 hs
    have hne : xs.length ≠ (W * H).toNat := fun e => by
      have : isPic W H xs.length = true := by
        obtain ⟨m1, m2⟩ := mul_bd h1 h2 h3 h4
        simp [isPic, h1, h2, h3, h4, e]; omega
      rw [h] at this; cases this
    have hneB : (((xs.length : Nat) : Int) != ((W * H).toNat : Nat)) = true := by rw [bne_iff_ne]; omega
    have hneC : (xs.length == (W * H).toNat) = false := by simpa using hne
    go_enter Try.func54, Try.ntmps54
    go_wp2_with fail
    refine (new_good _ _ _ h1 h2 h3 h4).mono ?_
    rintro e w1 ⟨rfl, hB, hb⟩
    obtain ⟨k0, hE⟩ := ext1 hb
    obtain ⟨c0, f0⟩ := blk_rules k0
    have hh := hB.head
    rw [List.length_replicate] at hh
    simp only [World.size_alloc] at hh
    obtain ⟨c1, f1⟩ := blk_rules hh
    clear hb hB hh k0
    go_wp2_with fail
    go_quiet (fail)
    go_wp2
    go_ret2
    exact ⟨rfl, hE.drewN _⟩

set_option maxHeartbeats 2000000 in
theorem from_good (W H : Int) (A : Option Addr) (c : Nat) (xs : List Int) (w : World) (h : isPic W H xs.length = true) (hr : Reads .u32 w A xs) (hx : ∀ x ∈ xs, 0 ≤ x ∧ x ≤ 4294967295) :
    Calls Try.prog 54 #[.agg #[.int .i64 W, .int .i64 H, .slice A xs.length c]] w fun e w' => ∃ bb bp cap, e = .returned (.tuple #[.pointer (some ⟨bb, 0, none⟩), .int .i64 0]) ∧ BufAt 117 58 w' w.heap.size bb bp cap W H (xs.map cut24) ∧ Ext w w' := by
  have hp : 1 ≤ W ∧ W ≤ 256 ∧ 1 ≤ H ∧ H ≤ 256 ∧ (xs.length : Int) = W * H := by simpa [isPic, and_assoc] using h
  obtain ⟨h1, h2, h3, h4, h5⟩ := hp
  obtain ⟨m1, m2⟩ := mul_bd h1 h2 h3 h4
  have hn0 : 0 < xs.length := by omega
  have hn1 : xs.length ≤ 65536 := by omega
  have hn : (W * H).toNat = xs.length := by omega
  have H5 := Lib.hid h5; clear h5
  obtain ⟨b, off, rfl, hrr⟩ := hr.form hn0
  go_enter Try.func54, Try.ntmps54
  go_wp2_with fail
  refine (new_good _ _ _ h1 h2 h3 h4).mono ?_
  rw [hn]
  rintro e w1 ⟨rfl, hB, hb⟩
  obtain ⟨k0, hE⟩ := ext1 hb
  obtain ⟨c0, f0⟩ := blk_rules k0
  have hh := hB.head
  have hrow := hB.row
  rw [List.length_replicate] at hh
  unfold Own at hrow
  rw [List.length_replicate] at hrow
  have hne := hB.ne
  have hbase := hB.hb
  simp only [World.size_alloc] at hh hrow hne hbase ⊢
  obtain ⟨c1, f1⟩ := blk_rules hh
  clear hb hB hn m1 m2 h
  go_wp2_with fail
  go_quiet (fail)
  go_wp2_with fail
  replace hE : Ext w (w1.drewN nq) := hE.drewN nq
  replace k0 : (w1.drewN nq).heap[w.heap.size]? = _ := k0
  replace hh : (w1.drewN nq).heap[w.heap.size + 1 + 1]? = _ := hh
  replace hrow : (w1.drewN nq).ownsRow _ _ _ _ _ _ := hrow
  clear c0 c1 f0 f1
  generalize w1.drewN nq = w2 at *
  rw [← copied_zero] at hrow
  go_loopw [32] (fun i wr => ∃ k : Nat, k ≤ xs.length ∧ i = .int .i64 k ∧ Ext w wr ∧ wr.heap[w.heap.size]? = some (.cells #[.int .i64 W, .int .i64 H, .slice (some ⟨b, off, none⟩) xs.length c] 43 (0, 0)) ∧ wr.heap[w.heap.size + 1 + 1]? = some (.cells #[.int .i64 W, .int .i64 H, .slice (some ⟨w.heap.size + 1, 0, none⟩) xs.length xs.length] 117 (0, 0)) ∧ wr.ownsRow (w.heap.size + 1) 58 1 (.slice (some ⟨w.heap.size + 1, 0, none⟩) xs.length xs.length) xs.length (nums .u32 (copied xs k))) (fun i _ => xs.length - (intOf i).toNat)
  case atStart => exact ⟨0, Nat.zero_le _, rfl, hE, k0, hh, hrow⟩
  case round =>
    clear hE k0 hh hrow
    obtain ⟨k, hk, rfl, hE, k0, hh, hrow⟩ := hrel
    obtain ⟨c0, f0⟩ := blk_rules k0
    obtain ⟨c1, f1⟩ := blk_rules hh
    by_cases hlt : k < xs.length
    · have hx2 := hE.cellOf (hrr k hlt)
      have hrc := hrow.cellAt k (by omega)
      rw [nums_get (by rw [copied_length _ _ hk]; exact hlt)] at hrc
      have hrf := fun j => hrow.frozenAt j
      have hv := hx _ (List.getElem_mem hlt)
      have hs := hrow.stored k (.int .u32 (bits BinOp.and IntKind.u32 xs[k] 16777215))
      have hset : (nums .u32 (copied xs k)).set k (.int .u32 (bits BinOp.and IntKind.u32 xs[k] 16777215)) = nums .u32 (copied xs (k + 1)) := by
        rw [← copied_succ xs k hlt, and_cut hv.1 (by omega)]
        simp [nums, List.map_set, List.getD_eq_getElem?_getD, List.getElem?_eq_getElem hlt]
      have Hs := Lib.hid (hset ▸ hs.1)
      clear hs hset hv
      go_wp2_with fail
      go_roundw
      case rel => exact ⟨k + 1, by omega, by go_num, hE.set (by simp) _, blk_set_ne k0 (by omega) _ _, blk_set_ne hh (by omega) _ _, Hs.out⟩
      case measure => simp [intOf]; omega
    · obtain rfl : k = xs.length := by omega
      go_wp2_with fail
      go_ret2
      rw [copied_all] at hrow
      refine ⟨_, w.heap.size + 1, xs.length, rfl, ⟨by simpa using hh, ?_, by omega, by omega, h1, h2, h3, h4, by simpa using H5.out, ?_⟩, hE⟩
      · unfold Own
        have := World.ownsRow.base_le hrow (Nat.le_succ _)
        simpa using this
      · intro p hp
        obtain ⟨x, _, rfl⟩ := List.mem_map.1 hp
        exact cut24_bd x
end Go.Proofs.Ytjghghbldifhaaa
set_option linter.unusedVariables false
set_option linter.unusedSimpArgs false
namespace Go.Proofs.Ytjghghbldifhaaa
open Go.RowKit

set_option maxHeartbeats 1000000 in
theorem w_any {T e : TypeId} {w : World} {base bb bp cap : Nat} {W H : Int} {px : List Int} (hB : BufAt T e w base bb bp cap W H px) :
    Calls Try.prog 55 #[.pointer (some ⟨bb, 0, none⟩)] w fun e w' => e = .returned (.int .i64 W) ∧ w = w' := by
  obtain ⟨c1, f1⟩ := blk_rules hB.head
  clear hB
  go_enter Try.func55, Try.ntmps55
  go_wp2
  go_ret
  exact ⟨rfl, rfl⟩
set_option maxHeartbeats 1000000 in
theorem h_any {T e : TypeId} {w : World} {base bb bp cap : Nat} {W H : Int} {px : List Int} (hB : BufAt T e w base bb bp cap W H px) :
    Calls Try.prog 56 #[.pointer (some ⟨bb, 0, none⟩)] w fun e w' => e = .returned (.int .i64 H) ∧ w = w' := by
  obtain ⟨c1, f1⟩ := blk_rules hB.head
  clear hB
  go_enter Try.func56, Try.ntmps56
  go_wp2
  go_ret
  exact ⟨rfl, rfl⟩
set_option maxHeartbeats 1000000 in
theorem all_any {T e : TypeId} {w : World} {base bb bp cap : Nat} {W H : Int} {px : List Int} (hB : BufAt T e w base bb bp cap W H px) :
    Calls Try.prog 106 #[.pointer (some ⟨bb, 0, none⟩)] w fun e w' => e = .returned (.agg #[.int .i64 0, .int .i64 0, .int .i64 W, .int .i64 H]) ∧ Ext w w' := by
  have hb1 := hB.ext ((Ext.refl w).alloc (.cells #[.int .i64 0, .int .i64 0, .int .i64 0, .int .i64 0] 26))
  clear hB
  go_enter Try.func106, Try.ntmps106
  go_wp2_with (first | (go_at_call 55; refine (w_any hb1).mono ?_; rintro e w' ⟨rfl, rfl⟩) | (go_at_call 56; refine (h_any hb1).mono ?_; rintro e w' ⟨rfl, rfl⟩))
  refine bodyPost_ret (v := .agg #[.int .i64 0, .int .i64 0, .int .i64 W, .int .i64 H]) (by simp only [results, Try.results106]; go_simp; done) rfl ⟨rfl, ?_⟩
  exact (Ext.refl _).alloc _

theorem Ext.grow {w w1 : World} (h : Ext w w1) (row : Option Nat) : w.grownBy w1 row := ⟨h.os, h.tape, h.output, h.size, fun k hk _ => h.block k hk⟩
theorem grown_drew {w w1 : World} {row : Option Nat} (h : w.grownBy w1 row) : w.grownBy w1.drew row := ⟨h.os, h.tape, h.output, h.size, h.block⟩
theorem BufAt.drew {T e : TypeId} {w : World} {base bb bp cap : Nat} {W H : Int} {px : List Int} (h : BufAt T e w base bb bp cap W H px) : BufAt T e w.drew base bb bp cap W H px := h.ext (Ext.drew (Ext.refl w))
theorem BufAt.drewN {T e : TypeId} {w : World} {base bb bp cap : Nat} {W H : Int} {px : List Int} (h : BufAt T e w base bb bp cap W H px) (n : Nat) : BufAt T e (w.drewN n) base bb bp cap W H px := h.ext (Ext.drewN (Ext.refl w) n)
theorem BufAt.store {T e : TypeId} {w : World} {base bb bp cap : Nat} {W H : Int} {px : List Int} (h : BufAt T e w base bb bp cap W H px) {i : Nat} (hi : i < px.length) {v : Int} (hv : 0 ≤ v ∧ v ≤ 16777215) :
    BufAt T e (w.setCell ⟨bp, i, none⟩ (.int .u32 v)) base bb bp cap W H (px.set i v) ∧ w.grownBy (w.setCell ⟨bp, i, none⟩ (.int .u32 v)) (some bp) := by
  have hs := World.ownsRow.stored h.row i (.int .u32 v)
  refine ⟨⟨?_, ?_, h.ne, h.hb, h.w1, h.w2, h.h1, h.h2, by rw [List.length_set]; exact h.len, fun p hp => ?_⟩, hs.2⟩
  · rw [List.length_set]; exact blk_set_ne h.head h.ne _ _
  · unfold Own
    rw [List.length_set]
    have e : nums .u32 (px.set i v) = (nums .u32 px).set i (.int .u32 v) := by simp [nums, List.map_set]
    rw [e]
    exact hs.1
  · rcases List.mem_or_eq_of_mem_set hp with h1 | rfl
    · exact h.pix p h1
    · exact hv

/-- Has the picture a pixel there? -/
def hasPx (W H x y : Int) : Bool := Rect.has ⟨0, 0, W, H⟩ x y
theorem hasPx_iff {W H x y : Int} (h1 : 1 ≤ W) (h2 : W ≤ 256) (h3 : 1 ≤ H) (h4 : H ≤ 256) : hasPx W H x y = true ↔ 0 ≤ x ∧ x < W ∧ 0 ≤ y ∧ y < H := by
  have hg : Rect.good ⟨0, 0, W, H⟩ = true := Rect.good_iff.2 (by dsimp only; omega)
  simp [hasPx, Rect.has, hg, within]
  omega
theorem place_bd {W H x y : Int} (h1 : 1 ≤ W) (h2 : W ≤ 256) (h3 : 1 ≤ H) (h4 : H ≤ 256) (hx0 : 0 ≤ x) (hx1 : x < W) (hy0 : 0 ≤ y) (hy1 : y < H) : 0 ≤ y * W ∧ y * W ≤ 65536 ∧ y * W + x < W * H := by
  have e1 : 0 ≤ y * W := Int.mul_nonneg hy0 (by omega)
  have e2 : y * W ≤ (H - 1) * W := Int.mul_le_mul_of_nonneg_right (by omega) (by omega)
  have e3 : (H - 1) * W = W * H - W := by rw [Int.sub_mul, Int.one_mul, Int.mul_comm]
  have := (mul_bd h1 h2 h3 h4).2
  omega
def pxAt (W : Int) (px : List Int) (x y : Int) : Int := px.getD (y * W + x).toNat 0

set_option maxHeartbeats 1000000 in
theorem at_any {w : World} {base bb bp cap : Nat} {W H : Int} {px : List Int} (hB : BufAt 117 58 w base bb bp cap W H px) (x y : Int) :
    Calls Try.prog 72 #[.pointer (some ⟨bb, 0, none⟩), .int .i64 x, .int .i64 y] w fun e w' =>
      e = .returned (.tuple #[.int .u32 (if hasPx W H x y then pxAt W px x y else 0), .int .i64 (if hasPx W H x y then 0 else 5)]) ∧ Ext w w' := by
  cases hh : hasPx W H x y
  · have hh' : Rect.has ⟨0, 0, W, H⟩ x y = false := hh
    go_enter Try.func72, Try.ntmps72
    go_wp2_with (first | (go_at_call 106; refine (all_any hB).mono ?_; rintro e w1 ⟨rfl, hb1⟩) | (go_at_call 30; refine (has_any _ _ _ _ _ _ _).mono ?_; rintro e w2 ⟨rfl, hb2⟩))
    go_ret2
    exact ⟨rfl, hb1.trans hb2⟩
  · obtain ⟨hx0, hx1, hy0, hy1⟩ := (hasPx_iff hB.w1 hB.w2 hB.h1 hB.h2).1 hh
    obtain ⟨m1, m2, m3⟩ := place_bd hB.w1 hB.w2 hB.h1 hB.h2 hx0 hx1 hy0 hy1
    have hlen := hB.len
    have hw2 := hB.w2
    have m4 : y * W + x < px.length := by omega
    have hh' : Rect.has ⟨0, 0, W, H⟩ x y = true := hh
    go_enter Try.func72, Try.ntmps72
    clear hlen m3
    go_wp2_with fail
    refine (all_any hB).mono ?_
    rintro e w1 ⟨rfl, hb1⟩
    go_wp2_with fail
    refine (has_any _ _ _ _ _ _ _).mono ?_
    rintro e w2 ⟨rfl, hb2⟩
    replace hB := hB.ext (hb1.trans hb2)
    have hE := hb1.trans hb2
    obtain ⟨c1, f1⟩ := blk_rules hB.head
    have hrc := hB.row.cellAt (y * W + x).toNat (by omega)
    rw [nums_get (by omega)] at hrc
    clear hb1 hb2 hB
    go_wp2_with fail
    have q3 : 0 ≤ y * W + x := by omega
    have q2 : IntKind.i64.wrap (y * W + x) = y * W + x := IntWalk.i64_in _ (by omega)
    have q1 : IntKind.i64.wrap (y * W) = y * W := IntWalk.i64_in _ (by omega)
    go_quiet (fail)
    clear q1 q2
    go_wp2
    go_ret2
    exact ⟨by simp [pxAt, List.getElem?_eq_getElem (show (y * W + x).toNat < px.length by omega)], hE.drewN _⟩

set_option maxHeartbeats 1000000 in
theorem set_out {w : World} {base bb bp cap : Nat} {W H : Int} {px : List Int} (hB : BufAt 117 58 w base bb bp cap W H px) (x y c : Int) (hh : hasPx W H x y = false) :
    Calls Try.prog 75 #[.pointer (some ⟨bb, 0, none⟩), .int .i64 x, .int .i64 y, .int .u32 c] w fun e w' => e = .returned (.int .i64 5) ∧ Ext w w' := by
  have ha := at_any hB x y
  simp only [hh, Bool.false_eq_true, if_false] at ha
  go_enter Try.func75, Try.ntmps75
  go_wp2_with fail
  refine ha.mono ?_
  clear ha
  rintro e w1 ⟨rfl, hb1⟩
  go_wp2_with fail
  go_ret
  exact ⟨rfl, hb1⟩
set_option maxHeartbeats 1000000 in
theorem set_in {w : World} {base bb bp cap : Nat} {W H : Int} {px : List Int} (hB : BufAt 117 58 w base bb bp cap W H px) (x y c : Int) (hh : hasPx W H x y = true) (hc0 : 0 ≤ c) (hc1 : c ≤ 4294967295) :
    Calls Try.prog 75 #[.pointer (some ⟨bb, 0, none⟩), .int .i64 x, .int .i64 y, .int .u32 c] w fun e w' => e = .returned (.int .i64 0) ∧ BufAt 117 58 w' base bb bp cap W H (px.set (y * W + x).toNat (cut24 c)) ∧ w.grownBy w' (some bp) := by
  have ha := at_any hB x y
  simp only [hh, if_true] at ha
  obtain ⟨hx0, hx1, hy0, hy1⟩ := (hasPx_iff hB.w1 hB.w2 hB.h1 hB.h2).1 hh
  obtain ⟨m1, m2, m3⟩ := place_bd hB.w1 hB.w2 hB.h1 hB.h2 hx0 hx1 hy0 hy1
  have hlen := hB.len
  have hw2 := hB.w2
  have m4 : y * W + x < px.length := by omega
  go_enter Try.func75, Try.ntmps75
  clear hlen m3
  go_wp2_with fail
  refine ha.mono ?_
  clear ha
  rintro e w1 ⟨rfl, hE⟩
  replace hB := hB.ext hE
  obtain ⟨c1, f1⟩ := blk_rules hB.head
  have hrc := hB.row.cellAt (y * W + x).toNat (by omega)
  have hrf := fun j => hB.row.frozenAt j
  rw [nums_get (by omega)] at hrc
  have q3 : 0 ≤ y * W + x := by omega
  have q2 : IntKind.i64.wrap (y * W + x) = y * W + x := IntWalk.i64_in _ (by omega)
  have q1 : IntKind.i64.wrap (y * W) = y * W := IntWalk.i64_in _ (by omega)
  have HB := Lib.hid hB; clear hB
  go_wp2_with fail
  go_region
  clear q1 q2 c1 f1 hrc hrf
  go_wp2
  go_ret
  rw [and_cut hc0 (by omega)]
  obtain ⟨s1, s2⟩ := BufAt.store HB.out (i := (y * W + x).toNat) (by omega) (cut24_bd c)
  exact ⟨rfl, s1.drew, (Ext.grow hE _).trans (grown_drew s2)⟩
end Go.Proofs.Ytjghghbldifhaaa
set_option linter.unusedVariables false
set_option linter.unusedSimpArgs false
namespace Go.Proofs.Ytjghghbldifhaaa
open Go.RowKit

set_option maxHeartbeats 1000000 in
theorem sclone_any (b off c : Nat) (xs : List Int) (w : World) (hr : Reads .u32 w (some ⟨b, off, none⟩) xs) (hn : xs.length ≤ 65536) (hp : 0 < xs.length) :
    Calls Try.prog 104 #[.slice (some ⟨b, off, none⟩) xs.length c] w fun e w' => ∃ g c', e = .returned (.slice (some ⟨g, 0, none⟩) xs.length c') ∧ Own .u32 58 w' w.heap.size (.slice (some ⟨g, 0, none⟩) xs.length c') xs ∧ w.heap.size ≤ g ∧ Ext w w' := by
  have hnil := fun w : World => Lib.run_eql_slice_nil (P := Try.prog) w 41 58 (some ⟨b, off, none⟩) xs.length c 0 0 Try.underlying41
  go_enter Try.func104, Try.ntmps104
  have hnil' : (some (⟨b, off, none⟩ : Addr)).isNone = false := rfl
  have hs : ∀ o : Obj, Shows (w.alloc o) (some ⟨b, off, none⟩) (nums .u32 xs) := fun o => (hr.ext ((Ext.refl w).alloc o)).shows
  go_wp2_with (at_builtin; refine wpList_app w.heap.size rfl (.tmp 5) (.tmp 6) 41 58 (.int .u32 0) 1 4 rfl Try.underlying41 info_u32 rfl (by decide) (by decide) (.slice (some ⟨w.heap.size, 0, none⟩) 0 0) 0 [] rfl (World.ownsRow_lit w #[] 0 (Nat.le_refl _) (by decide) rfl) _ xs.length _ (nums .u32 xs) rfl (fun h => by cases h) (by simp [nums]) (hs _) nums_one (by omega) (by simp) ?_; rintro v w1 hown hg)
  simp only [Nat.zero_add, List.nil_append] at hown
  obtain ⟨g, c', rfl, hgb, hgl⟩ := hown.form hp
  go_wp2
  go_ret
  refine ⟨_, _, rfl, hown, hgb, ?_⟩
  exact Below.grown ((Ext.refl w).alloc _) hg (by simp) (by simp [Value.ownBlock])

theorem own_set_ne {e : TypeId} {w : World} {base g n c : Nat} {xs : List Value} (h : w.ownsRow base e 1 (.slice (some ⟨g, 0, none⟩) n c) n xs) {b : Nat} (hne : g ≠ b) (o : Nat) (v : Value) : (w.setCell ⟨b, o, none⟩ v).ownsRow base e 1 (.slice (some ⟨g, 0, none⟩) n c) n xs :=
  World.ownsRow.kept h (row := some b) ⟨rfl, rfl, rfl, by simp [World.setCell], fun k _ hk => Below.heap_setCell w ⟨b, o, none⟩ v k (fun e => hk (by rw [e]))⟩ (.inr (by simp [Value.ownBlock]; exact hne))

set_option maxHeartbeats 1000000 in
theorem image_any {w : World} {base bb bp cap : Nat} {W H : Int} {px : List Int} (hB : BufAt 117 58 w base bb bp cap W H px) :
    Calls Try.prog 62 #[.pointer (some ⟨bb, 0, none⟩)] w fun e w' => ∃ g c, e = .returned (.agg #[.int .i64 W, .int .i64 H, .slice (some ⟨g, 0, none⟩) px.length c]) ∧ Own .u32 58 w' w.heap.size (.slice (some ⟨g, 0, none⟩) px.length c) px ∧ w.heap.size ≤ g ∧ Ext w w' := by
  have hE := (Ext.refl w).alloc (.cells #[.int .i64 0, .int .i64 0, .slice none 0 0] 43)
  have hB1 := hB.ext hE
  have hn : px.length ≤ 65536 := by have := hB.len; have := (mul_bd hB.w1 hB.w2 hB.h1 hB.h2).2; omega
  have hp : 0 < px.length := by have := hB.len; have := (mul_bd hB.w1 hB.w2 hB.h1 hB.h2).1; omega
  have hlt := blk_lt hB.head
  have hne1 : ¬ w.heap.size = bb := by omega
  have hne2 : ¬ bb = w.heap.size := by omega
  have k1 := hB1.head
  obtain ⟨c1, f1⟩ := blk_rules k1
  obtain ⟨A, c, hv, hr, _⟩ := hB1.row.reads
  injection hv with hv1 hv2 hv3
  subst hv1
  clear hB hv2 hv3
  go_enter Try.func62, Try.ntmps62
  go_wp2_with fail
  go_region_held3 (fun w' => w'.cell? ⟨bb, 0, none⟩ = some (.int .i64 W) ∧ w'.cell? ⟨bb, 1, none⟩ = some (.int .i64 H) ∧ w'.cell? ⟨bb, 2, none⟩ = some (.slice (some ⟨bp, 0, none⟩) px.length cap)) (first | exact ⟨d1 0, d1 1, d1 2⟩ | go_keep) (first | (go_at_call 104; refine (sclone_any _ _ _ _ _ (hr.ext ((Ext.refl _).drew)) hn hp).mono ?_; rintro e w' ⟨g, c', rfl, ho, hg, hb⟩; obtain ⟨d1, g1⟩ := blk_rules (hb.keep k1); obtain ⟨d0, g0⟩ := blk_rules (hb.keep (blk_new w _))))
  have hg' : w.heap.size < g := by simp at hg; omega
  have hE2 : Ext w w' := Ext.trans (hE.drew) hb
  go_wp2
  refine bodyPost_ret (v := .agg #[.int .i64 W, .int .i64 H, .slice (some ⟨g, 0, none⟩) px.length c']) (by simp only [results, Try.results62]; go_simp; done) rfl ⟨_, _, rfl, ?_, by omega, ?_⟩
  · refine own_set_ne (own_set_ne (own_set_ne (World.ownsRow.base_le ho (by simp)) (by omega) _ _) (by omega) _ _) (by omega) _ _
  · repeat' (first | exact hE2 | refine Ext.set ?_ ?_ _)
    all_goals (simp; done)

set_option maxHeartbeats 1000000 in
theorem clone_any {w : World} {base bb bp cap : Nat} {W H : Int} {px : List Int} (hB : BufAt 117 58 w base bb bp cap W H px) :
    Calls Try.prog 69 #[.pointer (some ⟨bb, 0, none⟩)] w fun e w' => ∃ b2 p2 c2, e = .returned (.pointer (some ⟨b2, 0, none⟩)) ∧ BufAt 117 58 w' w.heap.size b2 p2 c2 W H px ∧ w.heap.size ≤ p2 ∧ Ext w w' := by
  have hn : px.length ≤ 65536 := by have := hB.len; have := (mul_bd hB.w1 hB.w2 hB.h1 hB.h2).2; omega
  have hp : 0 < px.length := by have := hB.len; have := (mul_bd hB.w1 hB.w2 hB.h1 hB.h2).1; omega
  have k1 := hB.head
  obtain ⟨c1, f1⟩ := blk_rules k1
  obtain ⟨A, c, hv, hr, _⟩ := hB.row.reads
  injection hv with hv1 hv2 hv3
  subst hv1
  have HB := Lib.hid hB
  clear hB hv2 hv3
  go_enter Try.func69, Try.ntmps69
  go_wp2_with fail
  go_region_held3 (fun w' => w'.cell? ⟨bb, 0, none⟩ = some (.int .i64 W) ∧ w'.cell? ⟨bb, 1, none⟩ = some (.int .i64 H) ∧ w'.cell? ⟨bb, 2, none⟩ = some (.slice (some ⟨bp, 0, none⟩) px.length cap)) (first | exact ⟨d1 0, d1 1, d1 2⟩ | go_keep) (first | (go_at_call 104; refine (sclone_any _ _ _ _ _ (hr.ext ((Ext.refl _).drew)) hn hp).mono ?_; rintro e w' ⟨g, c', rfl, ho, hg, hb⟩; obtain ⟨d1, g1⟩ := blk_rules (hb.keep k1); have z1 := blk_lt (hb.keep k1)))
  have hE2 : Ext w w' := Ext.trans ((Ext.refl w).drew) hb
  have hB := HB.out
  have hgl := (World.ownsRow.lt ho g (by simp [Value.ownBlock])).2
  clear d1 g1 c1 f1
  go_wp2
  go_ret
  refine ⟨_, g, c', rfl, ⟨blk_new _ _, ?_, by omega, hE2.size, hB.w1, hB.w2, hB.h1, hB.h2, hB.len, hB.pix⟩, by simpa using hg, hE2.alloc _⟩
  exact Own.ext (World.ownsRow.base_le ho (by simp)) ((Ext.refl _).alloc _)

/-- slices.Equal of two rows of pixels. -/
def eqL (xs ys : List Int) : Bool := decide (xs = ys)
set_option maxHeartbeats 1000000 in
theorem sequal_any (A B : Option Addr) (c d : Nat) (xs ys : List Int) (w : World) (hx : Reads .u32 w A xs) (hy : Reads .u32 w B ys) (hn : xs.length ≤ 65536) (hm : ys.length ≤ 65536) :
    Calls Try.prog 107 #[.slice A xs.length c, .slice B ys.length d] w fun e w' => e = .returned (.bool (eqL xs ys)) ∧ Ext w w' := by
  by_cases hl : xs.length = ys.length
  · have hl1 : ((xs.length : Nat) != ys.length) = false := by simp [hl]
    go_enter Try.func107, Try.ntmps107
    have Hl := Lib.hid hl
    clear hl
    go_wp2_with fail
    go_loopw [13] (fun i wr => ∃ k : Nat, k ≤ xs.length ∧ i = .int .i64 k ∧ xs.take k = ys.take k ∧ Ext w wr) (fun i _ => xs.length - (intOf i).toNat)
    case atStart => exact ⟨0, Nat.zero_le _, rfl, by simp, Ext.refl _⟩
    case round =>
      obtain ⟨k, hk, rfl, ht, hE⟩ := hrel
      have Ht := Lib.hid ht
      clear ht
      by_cases hlt : k < xs.length
      · have hlt2 : k < ys.length := by have := Hl.out; omega
        obtain ⟨b1, o1, rfl, h1⟩ := (hx.ext hE).form (by omega)
        obtain ⟨b2, o2, rfl, h2⟩ := (hy.ext hE).form (by omega)
        have h1 := h1 k hlt
        have h2 := h2 k hlt2
        have t1 := List.take_succ_eq_append_getElem hlt
        have t2 := List.take_succ_eq_append_getElem hlt2
        have Ht2 : Hid (xs[k] = ys[k] → xs.take (k + 1) = ys.take (k + 1)) := fun e => by rw [t1, t2, Ht.out, e]
        have Ht3 : Hid (xs[k] ≠ ys[k] → eqL xs ys = false) := fun e => by
          simp only [eqL, decide_eq_false_iff_not]
          intro e2
          subst e2
          exact e rfl
        simp only [List.getD_eq_getElem?_getD, List.getElem?_eq_getElem hlt, List.getElem?_eq_getElem hlt2, Option.getD_some] at h1 h2
        clear t1 t2
        generalize xs[k] = p at *
        generalize ys[k] = q at *
        go_wp2_with fail
        go_quiet (fail)
        go_wp2_with fail
        · go_ret
          have hne : p ≠ q := by first | assumption | (intro e; simp_all)
          exact ⟨by rw [Ht3.out hne]; rfl, hE.drewN _⟩
        · have he : p = q := by first | assumption | (simp_all; done)
          exact ⟨⟨k + 1, by omega, by go_num, Ht2.out he, hE.drewN _⟩, by simp [intOf]; omega⟩
      · have he : eqL xs ys = true := by
          have := Ht.out
          have h2 := Hl.out
          rw [List.take_of_length_le (by omega), List.take_of_length_le (by omega)] at this
          simpa [eqL] using this
        have He := Lib.hid he
        clear he
        go_wp2_with fail
        go_ret
        exact ⟨by rw [He.out]; rfl, hE⟩
  · have hl1 : ((xs.length : Nat) != ys.length) = true := by simpa using hl
    have he : eqL xs ys = false := by simp only [eqL, decide_eq_false_iff_not]; intro e; exact hl (by rw [e])
    rw [he]
    go_enter Try.func107, Try.ntmps107
    go_wp2_with fail
    go_ret
    exact ⟨rfl, Ext.refl _⟩

set_option maxHeartbeats 2000000 in
theorem same_any {w : World} {base bb bp cap base' b2 p2 c2 : Nat} {W H W' H' : Int} {px px' : List Int} (hB : BufAt 117 58 w base bb bp cap W H px) (hC : BufAt 117 58 w base' b2 p2 c2 W' H' px') :
    Calls Try.prog 65 #[.pointer (some ⟨bb, 0, none⟩), .pointer (some ⟨b2, 0, none⟩)] w fun e w' => e = .returned (.bool (W == W' && (H == H' && eqL px px'))) ∧ Ext w w' := by
  have hn : px.length ≤ 65536 := by have := hB.len; have := (mul_bd hB.w1 hB.w2 hB.h1 hB.h2).2; omega
  have hn' : px'.length ≤ 65536 := by have := hC.len; have := (mul_bd hC.w1 hC.w2 hC.h1 hC.h2).2; omega
  have j1 := After.blk hB.head
  have j2 := After.blk hC.head
  obtain ⟨A, c, hv, hr, _⟩ := hB.row.reads
  obtain ⟨A', c', hv', hr', _⟩ := hC.row.reads
  injection hv with hv1 hv2 hv3
  injection hv' with hv1' hv2' hv3'
  subst hv1
  subst hv1'
  have heq : ∀ x : After w, Calls Try.prog 107 #[.slice (some ⟨bp, 0, none⟩) px.length cap, .slice (some ⟨p2, 0, none⟩) px'.length c2] x.now fun e w' => e = .returned (.bool (eqL px px')) ∧ Ext x.now w' :=
    fun x => sequal_any _ _ _ _ _ _ _ (hr.ext x.ext) (hr'.ext x.ext) hn hn'
  clear hB hC hv2 hv3 hv2' hv3' hr hr' hn hn'
  cases h1 : (W == W')
  · go_enter Try.func65, Try.ntmps65
    go_wp2_with fail
    refine wp_region_after (by kernel_rfl) (by kernel_rfl) ?_
    repeat (go_big_quiet_step (fail))
    refine wpQuiet_nil ?_
    intro _ hw'
    obtain ⟨x, rfl⟩ := hw'
    go_wp2
    go_ret
    exact ⟨rfl, x.ext⟩
  · cases h2 : (H == H')
    · go_enter Try.func65, Try.ntmps65
      go_wp2_with fail
      refine wp_region_after (by kernel_rfl) (by kernel_rfl) ?_
      repeat (go_big_quiet_step (fail))
      refine wpQuiet_nil ?_
      intro _ hw'
      obtain ⟨x, rfl⟩ := hw'
      go_wp2
      go_ret
      exact ⟨rfl, x.ext⟩
    · go_enter Try.func65, Try.ntmps65
      go_wp2_with fail
      refine wp_region_after (by kernel_rfl) (by kernel_rfl) ?_
      repeat (go_big_quiet_step (exact Calls.after (heq _)))
      refine wpQuiet_nil ?_
      intro _ hw'
      obtain ⟨x, rfl⟩ := hw'
      go_wp2
      go_ret
      exact ⟨by simp, x.ext⟩
end Go.Proofs.Ytjghghbldifhaaa
