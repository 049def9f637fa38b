/- What the laws of two buffers need: vignetteref03.New, Diff of buffers of unlike sizes, where two pictures are unlike. -/
import Derived.Test.YtjghghbldifhaaaPixN
import Derived.Test.YtjghghbldifhaaaDifA
import Derived.Test.YtjghghbldifhaaaDifS
import Derived.Test.YtjghghbldifhaaaActB
set_option linter.unusedVariables false
set_option linter.unusedSimpArgs false
namespace Go.Proofs.Ytjghghbldifhaaa
open Go.RowKit

set_option maxHeartbeats 1000000 in
theorem rnew_bad (W H : Int) (w : World) (h : okSize W H = false) :
    Calls Try.prog 60 #[.int .i64 W, .int .i64 H] w fun e w' => e = .returned (.tuple #[.agg #[.int .i64 0, .int .i64 0, .slice none 0 0], .int .i64 1]) ∧ Ext w w' := by
  have hh : W < 1 ∨ 1 ≤ W ∧ 256 < W ∨ 1 ≤ W ∧ W ≤ 256 ∧ H < 1 ∨ 1 ≤ W ∧ W ≤ 256 ∧ 1 ≤ H ∧ 256 < H := by
    have : ¬ (okSize W H = true) := by rw [h]; simp
    rw [okSize_iff] at this; omega
  rcases hh with h1 | ⟨h1, h2⟩ | ⟨h1, h2, h3⟩ | ⟨h1, h2, h3, h4⟩
  all_goals
    go_enter Try.func60, Try.ntmps60
    go_wp2
    refine bodyPost_ret (v := .tuple #[.agg #[.int .i64 0, .int .i64 0, .slice none 0 0], .int .i64 1]) (by simp only [results, Try.results60]; go_simp; done) rfl ⟨rfl, ?_⟩
    repeat' (first | exact Ext.refl w | refine Ext.alloc ?_ _ | refine Ext.set ?_ ?_ _ | (simp; done) | omega)
set_option maxHeartbeats 1000000 in
theorem rnew_good (W H : Int) (w : World) (h1 : 1 ≤ W) (h2 : W ≤ 256) (h3 : 1 ≤ H) (h4 : H ≤ 256) :
    Calls Try.prog 60 #[.int .i64 W, .int .i64 H] w fun e w' => ∃ B d, e = .returned (.tuple #[.agg #[.int .i64 W, .int .i64 H, .slice B (List.replicate (W * H).toNat (0 : Int)).length d], .int .i64 0]) ∧ Reads .u32 w' B (List.replicate (W * H).toNat 0) ∧ Ext w w' := by
  obtain ⟨m1, m2⟩ := mul_bd h1 h2 h3 h4
  obtain ⟨n, hn⟩ : ∃ n : Nat, W * H = n := ⟨(W * H).toNat, by omega⟩
  rw [hn] at m1 m2 ⊢
  rw [Int.toNat_natCast]
  have hm := run_make_row' 41 58 (.int .u32 0) 4 Try.underlying41 info_u32 rfl .i64 .i64 n (by omega) (by omega)
  go_enter Try.func60, Try.ntmps60
  go_wp2
  have hl : (List.replicate n (0 : Int)).length = n := by simp
  have hown := own_made (w.alloc (.cells #[.int .i64 W, .int .i64 H, .slice (some ⟨w.heap.size + 1, 0, none⟩) n n] 43)) w.heap.size 58 .u32 n (by simp) (by omega)
  rw [show (w.alloc (.cells #[.int .i64 W, .int .i64 H, .slice (some ⟨w.heap.size + 1, 0, none⟩) n n] 43)).heap.size = w.heap.size + 1 by simp] at hown
  refine bodyPost_ret (v := .tuple #[.agg #[.int .i64 W, .int .i64 H, .slice (some ⟨w.heap.size + 1, 0, none⟩) n n], .int .i64 0]) (by simp only [results, Try.results60]; go_simp; done) rfl ⟨some ⟨w.heap.size + 1, 0, none⟩, n, by rw [hl], ?_, ((Ext.refl w).alloc _).alloc _⟩
  exact row_reads hown hl
theorem diff_unlike {w : World} {base bb bp cap base' b2 p2 c2 : Nat} {W H W' H' : Int} {px px' : List Int} (hB : BufAt 117 58 w base bb bp cap W H px) (hC : BufAt 117 58 w base' b2 p2 c2 W' H' px') (h : W ≠ W' ∨ W = W' ∧ H ≠ H') :
    Calls Try.prog 63 #[.pointer (some ⟨bb, 0, none⟩), .pointer (some ⟨b2, 0, none⟩)] w fun e w' => e = .returned (.tuple #[.slice none 0 0, .int .i64 1]) ∧ Ext w w' := by
  have hz1 := blk_lt hB.head
  have hz2 := blk_lt hC.head
  obtain ⟨c0, f0⟩ := blk_rules hB.head
  obtain ⟨c1, f1⟩ := blk_rules hC.head
  clear hB hC
  rcases h with h | ⟨rfl, h⟩
  · have d1 : (W != W') = true := by simpa using h
    clear h
    go_enter Try.func63, Try.ntmps63
    go_wp2_with fail
    go_quiet (fail)
    go_wp2_with fail
    go_ret2
    exact ⟨rfl, by repeat' (first | exact Ext.refl w | refine Ext.drewN ?_ _ | refine Ext.alloc ?_ _)⟩
  · have d1 : (W != W) = false := by simp
    have d2 : (H != H') = true := by simpa using h
    clear h
    go_enter Try.func63, Try.ntmps63
    go_wp2_with fail
    go_quiet (fail)
    go_wp2_with fail
    go_ret2
    exact ⟨rfl, by repeat' (first | exact Ext.refl w | refine Ext.drewN ?_ _ | refine Ext.alloc ?_ _)⟩
theorem r3rects_any (A B : Option Addr) (c d : Nat) (a b : List Rect) (w : World) (ha : RectsAt w A a) (hb : RectsAt w B b) (hm : a.length ≤ 9223372036854775807) (hn : b.length ≤ 9223372036854775807) :
    Calls Try.prog 67 #[.slice A a.length c, .slice B b.length d] w fun e w' => e = .returned (.bool (eqR a b)) ∧ Ext w w' := by
  go_enter Try.func67, Try.ntmps67
  go_wp2_with fail
  refine (rrects_any A B c d a b w ha hb hm hn).mono ?_
  rintro e w1 ⟨rfl, E⟩
  go_wp2_with fail
  go_ret
  exact ⟨rfl, E⟩
/-- Where two pictures of a size are unlike. -/
def unF (W H : Int) (px qx : List Int) (x y : Int) : Bool := hasPx W H x y && (pxAt W px x y != pxAt W qx x y)
theorem unF_at {Wn Hn : Nat} (h1 : 1 ≤ Wn) (h2 : Wn ≤ 256) (h3 : 1 ≤ Hn) (h4 : Hn ≤ 256) (px qx : List Int) : ∀ i j : Nat, i < Wn → j < Hn → unF Wn Hn px qx i j = (px.getD (j * Wn + i) 0 != qx.getD (j * Wn + i) 0) := fun i j hi hj => by
  unfold unF
  rw [(hasPx_iff (by omega) (by omega) (by omega) (by omega)).2 (by omega), Bool.true_and]
  unfold pxAt
  have e : ((j : Int) * (Wn : Int) + (i : Int)).toNat = j * Wn + i := by rw [← Int.natCast_mul, ← Int.natCast_add, Int.toNat_natCast]
  rw [e]
theorem unF_in {Wn Hn : Nat} (h1 : 1 ≤ Wn) (h2 : Wn ≤ 256) (h3 : 1 ≤ Hn) (h4 : Hn ≤ 256) (px qx : List Int) : Inside (unF Wn Hn px qx) Wn Hn := fun x y h => by
  unfold unF at h
  rw [Bool.and_eq_true] at h
  have := (hasPx_iff (by omega) (by omega) (by omega) (by omega)).1 h.1
  omega
end Go.Proofs.Ytjghghbldifhaaa
