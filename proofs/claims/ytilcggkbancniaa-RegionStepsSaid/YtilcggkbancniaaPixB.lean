/- The walks of package pixbuf, the second part: W, H, all, At, Set. -/
import Derived.Test.YtilcggkbancniaaPixA
set_option linter.unusedVariables false
set_option linter.unusedSimpArgs false
namespace Go.Proofs.Ytilcggkbancniaa
open Go.RowKit

set_option maxHeartbeats 1000000 in
theorem w_any {T e : TypeId} {w : World} {base bb bp cap : Nat} {W H : Int} {px : List Int} (hB : BufAt T e w base bb bp cap W H px) :
    Calls Try.prog 20 #[.pointer (some ⟨bb, 0, none⟩)] w fun e w' => e = .returned (.int .i64 W) ∧ w = w' := by
  obtain ⟨c1, f1⟩ := blk_rules hB.head
  clear hB
  go_enter Try.func20, Try.ntmps20
  go_wp2
  go_ret
  exact ⟨rfl, rfl⟩
set_option maxHeartbeats 1000000 in
theorem h_any {T e : TypeId} {w : World} {base bb bp cap : Nat} {W H : Int} {px : List Int} (hB : BufAt T e w base bb bp cap W H px) :
    Calls Try.prog 21 #[.pointer (some ⟨bb, 0, none⟩)] w fun e w' => e = .returned (.int .i64 H) ∧ w = w' := by
  obtain ⟨c1, f1⟩ := blk_rules hB.head
  clear hB
  go_enter Try.func21, Try.ntmps21
  go_wp2
  go_ret
  exact ⟨rfl, rfl⟩
set_option maxHeartbeats 1000000 in
theorem all_any {T e : TypeId} {w : World} {base bb bp cap : Nat} {W H : Int} {px : List Int} (hB : BufAt T e w base bb bp cap W H px) :
    Calls Try.prog 76 #[.pointer (some ⟨bb, 0, none⟩)] w fun e w' => e = .returned (.agg #[.int .i64 0, .int .i64 0, .int .i64 W, .int .i64 H]) ∧ Ext w w' := by
  have hb1 := hB.ext ((Ext.refl w).alloc (.cells #[.int .i64 0, .int .i64 0, .int .i64 0, .int .i64 0] 38))
  clear hB
  go_enter Try.func76, Try.ntmps76
  go_wp2_with (first | (go_at_call 20; refine (w_any hb1).mono ?_; rintro e w' ⟨rfl, rfl⟩) | (go_at_call 21; refine (h_any hb1).mono ?_; rintro e w' ⟨rfl, rfl⟩))
  refine bodyPost_ret (v := .agg #[.int .i64 0, .int .i64 0, .int .i64 W, .int .i64 H]) (by simp only [results, Try.results76]; go_simp; done) rfl ⟨rfl, ?_⟩
  exact (Ext.refl _).alloc _

theorem Ext.grow {w w1 : World} (h : Ext w w1) (row : Option Nat) : w.grownBy w1 row := ⟨h.os, h.tape, h.output, h.size, fun k hk _ => h.block k hk⟩
theorem grown_drew {w w1 : World} {row : Option Nat} (h : w.grownBy w1 row) : w.grownBy w1.drew row := ⟨h.os, h.tape, h.output, h.size, h.block⟩
theorem BufAt.drew {T e : TypeId} {w : World} {base bb bp cap : Nat} {W H : Int} {px : List Int} (h : BufAt T e w base bb bp cap W H px) : BufAt T e w.drew base bb bp cap W H px := h.ext (Ext.drew (Ext.refl w))
theorem BufAt.drewN {T e : TypeId} {w : World} {base bb bp cap : Nat} {W H : Int} {px : List Int} (h : BufAt T e w base bb bp cap W H px) (n : Nat) : BufAt T e (w.drewN n) base bb bp cap W H px := h.ext (Ext.drewN (Ext.refl w) n)
theorem BufAt.store {T e : TypeId} {w : World} {base bb bp cap : Nat} {W H : Int} {px : List Int} (h : BufAt T e w base bb bp cap W H px) {i : Nat} (hi : i < px.length) {v : Int} (hv : 0 ≤ v ∧ v ≤ 16777215) :
    BufAt T e (w.setCell ⟨bp, i, none⟩ (.int .u32 v)) base bb bp cap W H (px.set i v) ∧ w.grownBy (w.setCell ⟨bp, i, none⟩ (.int .u32 v)) (some bp) := by
  have hs := World.ownsRow.stored h.row i (.int .u32 v)
  refine ⟨⟨?_, ?_, h.ne, h.hb, h.w1, h.w2, h.h1, h.h2, by rw [List.length_set]; exact h.len, fun p hp => ?_⟩, hs.2⟩
  · rw [List.length_set]; exact blk_set_ne h.head h.ne _ _
  · unfold Own
    rw [List.length_set]
    have e : nums .u32 (px.set i v) = (nums .u32 px).set i (.int .u32 v) := by simp [nums, List.map_set]
    rw [e]
    exact hs.1
  · rcases List.mem_or_eq_of_mem_set hp with h1 | rfl
    · exact h.pix p h1
    · exact hv

/-- Has the picture a pixel there? -/
def hasPx (W H x y : Int) : Bool := Rect.has ⟨0, 0, W, H⟩ x y
theorem hasPx_iff {W H x y : Int} (h1 : 1 ≤ W) (h2 : W ≤ 256) (h3 : 1 ≤ H) (h4 : H ≤ 256) : hasPx W H x y = true ↔ 0 ≤ x ∧ x < W ∧ 0 ≤ y ∧ y < H := by
  have hg : Rect.good ⟨0, 0, W, H⟩ = true := Rect.good_iff.2 (by dsimp only; omega)
  simp [hasPx, Rect.has, hg, within]
  omega
theorem place_bd {W H x y : Int} (h1 : 1 ≤ W) (h2 : W ≤ 256) (h3 : 1 ≤ H) (h4 : H ≤ 256) (hx0 : 0 ≤ x) (hx1 : x < W) (hy0 : 0 ≤ y) (hy1 : y < H) : 0 ≤ y * W ∧ y * W ≤ 65536 ∧ y * W + x < W * H := by
  have e1 : 0 ≤ y * W := Int.mul_nonneg hy0 (by omega)
  have e2 : y * W ≤ (H - 1) * W := Int.mul_le_mul_of_nonneg_right (by omega) (by omega)
  have e3 : (H - 1) * W = W * H - W := by rw [Int.sub_mul, Int.one_mul, Int.mul_comm]
  have := (mul_bd h1 h2 h3 h4).2
  omega
def pxAt (W : Int) (px : List Int) (x y : Int) : Int := px.getD (y * W + x).toNat 0

set_option maxHeartbeats 1000000 in
theorem at_any {w : World} {base bb bp cap : Nat} {W H : Int} {px : List Int} (hB : BufAt 90 35 w base bb bp cap W H px) (x y : Int) :
    Calls Try.prog 33 #[.pointer (some ⟨bb, 0, none⟩), .int .i64 x, .int .i64 y] w fun e w' =>
      e = .returned (.tuple #[.int .u32 (if hasPx W H x y then pxAt W px x y else 0), .int .i64 (if hasPx W H x y then 0 else 5)]) ∧ Ext w w' := by
  cases hh : hasPx W H x y
  · have hh' : Rect.has ⟨0, 0, W, H⟩ x y = false := hh
    go_enter Try.func33, Try.ntmps33
    go_wp2_with (first | (go_at_call 76; refine (all_any hB).mono ?_; rintro e w1 ⟨rfl, hb1⟩) | (go_at_call 40; refine (has_any _ _ _ _ _ _ _).mono ?_; rintro e w2 ⟨rfl, hb2⟩))
    go_ret2
    exact ⟨rfl, hb1.trans hb2⟩
  · obtain ⟨hx0, hx1, hy0, hy1⟩ := (hasPx_iff hB.w1 hB.w2 hB.h1 hB.h2).1 hh
    obtain ⟨m1, m2, m3⟩ := place_bd hB.w1 hB.w2 hB.h1 hB.h2 hx0 hx1 hy0 hy1
    have hlen := hB.len
    have hw2 := hB.w2
    have m4 : y * W + x < px.length := by omega
    have hh' : Rect.has ⟨0, 0, W, H⟩ x y = true := hh
    go_enter Try.func33, Try.ntmps33
    clear hlen m3
    go_wp2_with fail
    refine (all_any hB).mono ?_
    rintro e w1 ⟨rfl, hb1⟩
    go_wp2_with fail
    refine (has_any _ _ _ _ _ _ _).mono ?_
    rintro e w2 ⟨rfl, hb2⟩
    replace hB := hB.ext (hb1.trans hb2)
    have hE := hb1.trans hb2
    obtain ⟨c1, f1⟩ := blk_rules hB.head
    have hrc := hB.row.cellAt (y * W + x).toNat (by omega)
    rw [nums_get (by omega)] at hrc
    clear hb1 hb2 hB
    go_wp2_with fail
    have q3 : 0 ≤ y * W + x := by omega
    have q2 : IntKind.i64.wrap (y * W + x) = y * W + x := IntWalk.i64_in _ (by omega)
    have q1 : IntKind.i64.wrap (y * W) = y * W := IntWalk.i64_in _ (by omega)
    go_quiet (fail)
    clear q1 q2
    go_wp2
    go_ret2
    exact ⟨by simp [pxAt, List.getElem?_eq_getElem (show (y * W + x).toNat < px.length by omega)], hE.drewN _⟩

set_option maxHeartbeats 1000000 in
theorem set_out {w : World} {base bb bp cap : Nat} {W H : Int} {px : List Int} (hB : BufAt 90 35 w base bb bp cap W H px) (x y c : Int) (hh : hasPx W H x y = false) :
    Calls Try.prog 23 #[.pointer (some ⟨bb, 0, none⟩), .int .i64 x, .int .i64 y, .int .u32 c] w fun e w' => e = .returned (.int .i64 5) ∧ Ext w w' := by
  have ha := at_any hB x y
  simp only [hh, Bool.false_eq_true, if_false] at ha
  go_enter Try.func23, Try.ntmps23
  go_wp2_with fail
  refine ha.mono ?_
  clear ha
  rintro e w1 ⟨rfl, hb1⟩
  go_wp2_with fail
  go_ret
  exact ⟨rfl, hb1⟩
set_option maxHeartbeats 1000000 in
theorem set_in {w : World} {base bb bp cap : Nat} {W H : Int} {px : List Int} (hB : BufAt 90 35 w base bb bp cap W H px) (x y c : Int) (hh : hasPx W H x y = true) (hc0 : 0 ≤ c) (hc1 : c ≤ 4294967295) :
    Calls Try.prog 23 #[.pointer (some ⟨bb, 0, none⟩), .int .i64 x, .int .i64 y, .int .u32 c] w fun e w' => e = .returned (.int .i64 0) ∧ BufAt 90 35 w' base bb bp cap W H (px.set (y * W + x).toNat (cut24 c)) ∧ w.grownBy w' (some bp) := by
  have ha := at_any hB x y
  simp only [hh, if_true] at ha
  obtain ⟨hx0, hx1, hy0, hy1⟩ := (hasPx_iff hB.w1 hB.w2 hB.h1 hB.h2).1 hh
  obtain ⟨m1, m2, m3⟩ := place_bd hB.w1 hB.w2 hB.h1 hB.h2 hx0 hx1 hy0 hy1
  have hlen := hB.len
  have hw2 := hB.w2
  have m4 : y * W + x < px.length := by omega
  go_enter Try.func23, Try.ntmps23
  clear hlen m3
  go_wp2_with fail
  refine ha.mono ?_
  clear ha
  rintro e w1 ⟨rfl, hE⟩
  replace hB := hB.ext hE
  obtain ⟨c1, f1⟩ := blk_rules hB.head
  have hrc := hB.row.cellAt (y * W + x).toNat (by omega)
  have hrf := fun j => hB.row.frozenAt j
  rw [nums_get (by omega)] at hrc
  have q3 : 0 ≤ y * W + x := by omega
  have q2 : IntKind.i64.wrap (y * W + x) = y * W + x := IntWalk.i64_in _ (by omega)
  have q1 : IntKind.i64.wrap (y * W) = y * W := IntWalk.i64_in _ (by omega)
  have HB := Lib.hid hB; clear hB
  go_wp2_with fail
  go_region
  clear q1 q2 c1 f1 hrc hrf
  go_wp2
  go_ret
  rw [and_cut hc0 (by omega)]
  obtain ⟨s1, s2⟩ := BufAt.store HB.out (i := (y * W + x).toNat) (by omega) (cut24_bd c)
  exact ⟨rfl, s1.drew, (Ext.grow hE _).trans (grown_drew s2)⟩
end Go.Proofs.Ytilcggkbancniaa
