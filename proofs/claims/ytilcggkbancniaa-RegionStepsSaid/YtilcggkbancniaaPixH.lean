/- The walks of package pixbuf, the eighth part: Blit. -/
import Derived.Test.YtilcggkbancniaaPixG
set_option linter.unusedVariables false
set_option linter.unusedSimpArgs false
namespace Go.Proofs.Ytilcggkbancniaa
open Go.RowKit Go.Shelf
attribute [local go_sem] Oper.semAt_some

set_option maxHeartbeats 1000000 in
theorem blit_bad {w : World} {p : Option Addr} (x y W H : Int) (A : Option Addr) (c : Nat) (xs : List Int) (a b d e : Int) (h : isPic W H xs.length = false) :
    Calls Try.prog 27 #[.pointer p, .int .i64 x, .int .i64 y, .agg #[.int .i64 W, .int .i64 H, .slice A xs.length c], .agg #[.int .i64 a, .int .i64 b, .int .i64 d, .int .i64 e]] w fun e w' => e = .returned (.tuple #[]) ∧ Ext w w' := by
  have hE := ((((Ext.refl w).alloc (.cells #[.int .i64 x] 3)).alloc (.cells #[.int .i64 y] 3)).alloc (.cells #[.int .i64 W, .int .i64 H, .slice A xs.length c] 24)).alloc (.cells #[.int .i64 a, .int .i64 b, .int .i64 d, .int .i64 e] 38)
  go_enter Try.func27, Try.ntmps27
  go_wp2_with fail
  refine (from_bad _ _ _ _ _ _ h).mono ?_
  rintro e w1 ⟨rfl, hb⟩
  have hE1 := hE.trans hb
  go_wp2
  refine bodyPost_ret (results_none rfl _ _ _) rfl ⟨rfl, ?_⟩
  repeat' (first | exact hE1 | refine Ext.alloc ?_ _ | refine Ext.set ?_ ?_ _ | exact hE1.size)
theorem own_base {k : IntKind} {e : TypeId} {W : World} {base g n c : Nat} {xs : List Int} (h : Own k e W base (.slice (some ⟨g, 0, none⟩) n c) xs) : base ≤ g := (own_block_type h (by simp [Value.ownBlock])).1
theorem BufAt.base_le {T e : TypeId} {w : World} {base base' bb bp cap : Nat} {W H : Int} {px : List Int} (h : BufAt T e w base bb bp cap W H px) (hb : base' ≤ base) : BufAt T e w base' bb bp cap W H px :=
  ⟨h.head, World.ownsRow.base_le h.row hb, h.ne, Nat.le_trans hb h.hb, h.w1, h.w2, h.h1, h.h2, h.len, h.pix⟩
/-- Where row i of what is laid over begins in the other picture. -/
def srcAt (p x y : Int) (R : Rect) (i : Nat) : Nat := ((R.y + i - y) * p + R.x - x).toNat
def blitRows (W p x y : Int) (R : Rect) (src : List Int) (l : List Nat) (px : List Int) : List Int := l.foldl (fun P i => putL (rowAt W R i) ((src.drop (srcAt p x y R i)).take R.w.toNat) P) px
theorem blitRows_snoc (W p x y : Int) (R : Rect) (src : List Int) (l : List Nat) (i : Nat) (px : List Int) : blitRows W p x y R src (l ++ [i]) px = putL (rowAt W R i) ((src.drop (srcAt p x y R i)).take R.w.toNat) (blitRows W p x y R src l px) := by
  simp [blitRows, List.foldl_append]
theorem blitRows_length (W p x y : Int) (R : Rect) (src : List Int) (l : List Nat) (px : List Int) : (blitRows W p x y R src l px).length = px.length := by
  induction l generalizing px with
  | nil => rfl
  | cons i l ih => simp only [blitRows, List.foldl_cons] at ih ⊢; rw [ih, putL_length]
theorem and_as (x y a b p q c d : Int) (w : World) {R : Rect} (h : Rect.and ⟨x, y, a, b⟩ ⟨p, q, c, d⟩ = R) :
    Calls Try.prog 75 #[.agg #[.int .i64 x, .int .i64 y, .int .i64 a, .int .i64 b], .agg #[.int .i64 p, .int .i64 q, .int .i64 c, .int .i64 d]] w fun e w' =>
      e = .returned (.agg #[.int .i64 R.x, .int .i64 R.y, .int .i64 R.w, .int .i64 R.h]) ∧ Ext w w' := by
  subst h
  exact and_any _ _ _ _ _ _ _ _ _
set_option maxRecDepth 100000 in
set_option maxHeartbeats 4000000 in
theorem blit_good {w : World} {base bb bp cap : Nat} {W H : Int} {px : List Int} (hB : BufAt 90 35 w base bb bp cap W H px) (x y p q : Int) (A : Option Addr) (c : Nat) (xs : List Int) (a b d e : Int) (h : isPic p q xs.length = true) (hr : Reads .u32 w A xs) (hx : ∀ x ∈ xs, 0 ≤ x ∧ x ≤ 4294967295) :
    Calls Try.prog 27 #[.pointer (some ⟨bb, 0, none⟩), .int .i64 x, .int .i64 y, .agg #[.int .i64 p, .int .i64 q, .slice A xs.length c], .agg #[.int .i64 a, .int .i64 b, .int .i64 d, .int .i64 e]] w fun e' w' => e' = .returned (.tuple #[]) ∧ BufAt 90 35 w' base bb bp cap W H (blitRows W p x y (blitAt W H p q x y ⟨a, b, d, e⟩) (xs.map cut24) (List.range (blitAt W H p q x y ⟨a, b, d, e⟩).h.toNat) px) ∧ w.grownBy w' (some bp) := by
  have hbpl : bp < w.heap.size := (World.ownsRow.lt hB.row bp (by simp [Value.ownBlock])).2
  have hE := ((((Ext.refl w).alloc (.cells #[.int .i64 x] 3)).alloc (.cells #[.int .i64 y] 3)).alloc (.cells #[.int .i64 p, .int .i64 q, .slice A xs.length c] 24)).alloc (.cells #[.int .i64 a, .int .i64 b, .int .i64 d, .int .i64 e] 38)
  refine (callsIn_wide (n := 5)).1 ?_
  refine callsIn_of_wp_marks Try.func27 rfl trivial ?_ rfl
  simp only [Try.ntmps27, List.size_toArray, List.length_cons, List.length_nil, Nat.reduceAdd, Nat.reduceSub, Array.replicate_succ, Array.replicate_zero, List.push_toArray, List.append_toArray, List.nil_append, List.cons_append]
  gi_wp2_with (refine ⟨trivial, ?_⟩; gi_at_call 17; refine (callsIn_wide.2 (from_good _ _ _ _ _ _ h (hr.ext hE) hx)).mono ?_; rintro e' w1 ⟨b2, p2, cap2, rfl, hO, hb⟩; obtain ⟨k0, k1, k2, k3, _⟩ := ext4 hb; have hE1 := hE.trans hb)
  obtain ⟨w2, hw2⟩ : ∃ w2, w1.alloc (.cells #[.pointer (some ⟨b2, 0, none⟩)] 28) = w2 := ⟨_, rfl⟩
  have hE2 : Ext w1 w2 := by rw [← hw2]; exact (Ext.refl _).alloc _
  have k4 : w2.heap[w1.heap.size]? = some (.cells #[.pointer (some ⟨b2, 0, none⟩)] 28 (0, 0)) := by rw [← hw2]; exact blk_new _ _
  have hs1 := hE1.size
  replace hO := hO.base_le (base' := w.heap.size) (by simp only [World.size_alloc]; omega)
  rw [hw2]
  clear hw2 hb hE
  replace k0 := hE2.keep k0
  replace k1 := hE2.keep k1
  replace k2 := hE2.keep k2
  replace k3 := hE2.keep k3
  replace hO := hO.ext hE2
  have hE := hE1.trans hE2
  replace hB := hB.ext hE
  clear hE1 hE2 hr hx
  obtain ⟨S, hS⟩ : ∃ S, Rect.shift ⟨0, 0, p, q⟩ x y = S := ⟨_, rfl⟩
  obtain ⟨M, hM⟩ : ∃ M, Rect.and ⟨0, 0, W, H⟩ S = M := ⟨_, rfl⟩
  obtain ⟨R, hR⟩ : ∃ R, Rect.and ⟨a, b, d, e⟩ M = R := ⟨_, rfl⟩
  have cS := fun w => shift_any 0 0 p q x y w
  simp only [hS] at cS
  refine wpIn_mono (Q := fun e' a' w' => e' = .normal ∧ ∃ B, a' = { tmps := #[.pointer (some ⟨bb, 0, none⟩), .int .i64 x, .int .i64 y, .agg #[.int .i64 p, .int .i64 q, .slice A xs.length c], .agg #[.int .i64 a, .int .i64 b, .int .i64 d, .int .i64 e], undef, .pointer (some ⟨w.heap.size, 0, none⟩), .pointer (some ⟨w.heap.size + 1, 0, none⟩), .pointer (some ⟨w.heap.size + 1 + 1, 0, none⟩), .pointer (some ⟨w.heap.size + 1 + 1 + 1, 0, none⟩), .pointer (some ⟨w1.heap.size, 0, none⟩), .int .i64 0, .pointer (some ⟨B, 0, none⟩), undef, undef, .tuple #[.pointer (some ⟨b2, 0, none⟩), .int .i64 0], .agg #[.int .i64 p, .int .i64 q, .slice A xs.length c], .tuple #[.pointer (some ⟨b2, 0, none⟩), .int .i64 0], .pointer (some ⟨b2, 0, none⟩), .int .i64 0, .int .i64 0, .bool false, .agg #[.int .i64 a, .int .i64 b, .int .i64 d, .int .i64 e], .pointer (some ⟨bb, 0, none⟩), .agg #[.int .i64 0, .int .i64 0, .int .i64 W, .int .i64 H], .pointer (some ⟨b2, 0, none⟩), .agg #[.int .i64 0, .int .i64 0, .int .i64 p, .int .i64 q], .int .i64 x, .int .i64 y, .agg #[.int .i64 S.x, .int .i64 S.y, .int .i64 S.w, .int .i64 S.h], .agg #[.int .i64 M.x, .int .i64 M.y, .int .i64 M.w, .int .i64 M.h], .agg #[.int .i64 R.x, .int .i64 R.y, .int .i64 R.w, .int .i64 R.h], undef, undef, undef, undef, undef, undef, undef, undef, undef, undef, undef, undef, undef, undef, undef, undef, undef, undef, undef, undef, undef, undef, undef, undef, undef], defers := [] } ∧ w'.heap[B]? = some (.cells #[.int .i64 R.x, .int .i64 R.y, .int .i64 R.w, .int .i64 R.h] 38 (0, 0)) ∧ Ext w2 w' ∧ w2.heap.size ≤ B) (wpIn_wide.2 ?_) ?_
  · replace hM : Rect.and ⟨0, 0, W, H⟩ ⟨S.x, S.y, S.w, S.h⟩ = M := hM
    replace hR : Rect.and ⟨a, b, d, e⟩ ⟨M.x, M.y, M.w, M.h⟩ = R := hR
    clear hS
    obtain ⟨c0, f0⟩ := blk_rules k0
    obtain ⟨c1, f1⟩ := blk_rules k1
    obtain ⟨c3, f3⟩ := blk_rules k3
    obtain ⟨c4, f4⟩ := blk_rules k4
    have sx : ∀ w', Ext w2 w' → Ext w2 w' ∧ w'.cell? ⟨w.heap.size, 0, none⟩ = some (.int .i64 x) ∧ w'.cell? ⟨w.heap.size + 1, 0, none⟩ = some (.int .i64 y) ∧ w'.cell? ⟨w.heap.size + 1 + 1 + 1, 0, none⟩ = some (.int .i64 a) ∧ w'.cell? ⟨w.heap.size + 1 + 1 + 1, 1, none⟩ = some (.int .i64 b) ∧ w'.cell? ⟨w.heap.size + 1 + 1 + 1, 2, none⟩ = some (.int .i64 d) ∧ w'.cell? ⟨w.heap.size + 1 + 1 + 1, 3, none⟩ = some (.int .i64 e) ∧ w'.cell? ⟨w1.heap.size, 0, none⟩ = some (.pointer (some ⟨b2, 0, none⟩)) := fun w' h => ⟨h, h.cellOf (c0 0), h.cellOf (c1 0), h.cellOf (c3 0), h.cellOf (c3 1), h.cellOf (c3 2), h.cellOf (c3 3), h.cellOf (c4 0)⟩
    go_region_held3 (fun w' => Ext w2 w' ∧ w'.cell? ⟨w.heap.size, 0, none⟩ = some (.int .i64 x) ∧ w'.cell? ⟨w.heap.size + 1, 0, none⟩ = some (.int .i64 y) ∧ w'.cell? ⟨w.heap.size + 1 + 1 + 1, 0, none⟩ = some (.int .i64 a) ∧ w'.cell? ⟨w.heap.size + 1 + 1 + 1, 1, none⟩ = some (.int .i64 b) ∧ w'.cell? ⟨w.heap.size + 1 + 1 + 1, 2, none⟩ = some (.int .i64 d) ∧ w'.cell? ⟨w.heap.size + 1 + 1 + 1, 3, none⟩ = some (.int .i64 e) ∧ w'.cell? ⟨w1.heap.size, 0, none⟩ = some (.pointer (some ⟨b2, 0, none⟩))) ((refine sx _ ?_; (repeat' (first | exact And.left (by assumption) | assumption | refine Ext.alloc ?_ _ | refine Ext.set ?_ ?_ _ | refine Ext.drew ?_ | exact Ext.refl w2 | exact Nat.le_refl _ | exact Below.size (by assumption) | (simp; done))))) (first | (go_at_call 76; refine (all_any (by first | with_reducible exact hB.ext (And.left (by assumption)) | with_reducible exact hO.ext (And.left (by assumption)))).mono ?_; rintro e w1 ⟨rfl, hb⟩; have hE1 : Ext w2 w1 := Ext.trans (And.left (by assumption)) hb; (first | (have kB := hb.keep kB; obtain ⟨d2, g2⟩ := blk_rules kB) | (have kB := hb.keep (blk_new _ _); obtain ⟨d2, g2⟩ := blk_rules kB) | skip)) | (go_at_call 75; refine (and_as _ _ _ _ _ _ _ _ _ (by first | with_reducible exact hM | with_reducible exact hR)).mono ?_; rintro e w1 ⟨rfl, hb⟩; have hE1 : Ext w2 w1 := Ext.trans (And.left (by assumption)) hb; (first | (have kB := hb.keep kB; obtain ⟨d2, g2⟩ := blk_rules kB) | (have kB := hb.keep (blk_new _ _); obtain ⟨d2, g2⟩ := blk_rules kB) | skip)) | (go_at_call 39; refine (cS _).mono ?_; rintro e w1 ⟨rfl, hb⟩; have hE1 : Ext w2 w1 := Ext.trans (And.left (by assumption)) hb; (first | (have kB := hb.keep kB; obtain ⟨d2, g2⟩ := blk_rules kB) | (have kB := hb.keep (blk_new _ _); obtain ⟨d2, g2⟩ := blk_rules kB) | skip)))
    all_goals
      refine ⟨rfl, _, rfl, ?_, ?_, ?_⟩
      · first
          | simpa using blk_set (blk_set (blk_set (blk_set kB 0 (.int .i64 R.x)) 1 (.int .i64 R.y)) 2 (.int .i64 R.w)) 3 (.int .i64 R.h)
          | exact blk_new _ _
      · repeat' (first | assumption | refine Ext.alloc ?_ _ | refine Ext.set ?_ ?_ _ | refine Ext.drew ?_ | exact Nat.le_refl _ | exact Below.size (by assumption))
      · first | exact Nat.le_refl _ | exact Below.size (by assumption)
  · clear cS
    rintro e' a' w3 ⟨rfl, B, rfl, kB, hE3, hBlt⟩
    have hp : 1 ≤ p ∧ p ≤ 256 ∧ 1 ≤ q ∧ q ≤ 256 ∧ (xs.length : Int) = p * q := by simpa [isPic, and_assoc] using h
    obtain ⟨g1, g2, g3, g4, g5⟩ := hp
    have hRb : blitAt W H p q x y ⟨a, b, d, e⟩ = R := by unfold blitAt; rw [hS, hM, hR]
    obtain ⟨hin, hidem⟩ := blitAt_in hRb hB.w1 hB.w2 hB.h1 hB.h2 g1 g2 g3 g4
    replace k0 := hE3.keep k0
    replace k1 := hE3.keep k1
    replace k4 := hE3.keep k4
    replace hB := hB.ext hE3
    replace hO := hO.ext hE3
    obtain ⟨cB, fB⟩ := blk_rules kB
    gi_wp2_with (refine ⟨trivial, ?_⟩; gi_at_call 74; refine (callsIn_wide.2 (rows_any _ _ _ _ _ _)).mono ?_; rintro e' w4 ⟨rfl, rfl⟩)
    have hs2 := hE.size
    have hs3 := hE3.size
    have hOb := own_base hO.row
    have hne2 : p2 ≠ bp := by omega
    have hne3 : b2 ≠ bp := by have := hO.hb; omega
    clear hS hM hR cB fB
    obtain ⟨N, hN⟩ : ∃ N : Nat, (N : Int) = R.h := ⟨R.h.toNat, by rcases hin with hz | hz; (rw [hz]; simp [Rect.zero]); omega⟩
    generalize hw5 : (w3.alloc (.cells #[.pointer (some ⟨bb, 0, none⟩)] 28)).alloc (.cells #[.int .i64 R.x, .int .i64 R.y, .int .i64 R.w, .int .i64 R.h] 38) = w5
    have hE5 : Ext w3 w5 := by rw [← hw5]; exact ((Ext.refl w3).alloc _).alloc _
    have kb : w5.heap[w3.heap.size]? = some (.cells #[.pointer (some ⟨bb, 0, none⟩)] 28 (0, 0)) := by rw [← hw5]; exact blk_old (blk_new _ _) _
    have kr : w5.heap[w3.heap.size + 1]? = some (.cells #[.int .i64 R.x, .int .i64 R.y, .int .i64 R.w, .int .i64 R.h] 38 (0, 0)) := by rw [← hw5]; exact blk_new1 _ _ _
    have hs5 := hE5.size
    have HS := Lib.hid hs5
    clear hw5 hs5
    refine wpIn_rangeFunc_ownF (F := Fence.wide) (n := 5) (α := Fin N) rfl (by decide) (gf := 104) (lb := #[.pointer (some ⟨w3.heap.size + 1, 0, none⟩), .pointer (some ⟨w3.heap.size, 0, none⟩)]) rfl trivial (enters_of Try.func104 (by kernel_rfl) rfl)
      (encs := fun i => rowArgs bp W R i.val) (Kp := KeptT (· ≠ 35)) (S := fun ys => ys.map Fin.val = List.range N) (Sp := fun _ => True) (N := N) (w0 := w5) ?seq KeptT.trans (fun W l o o' _ h ho _ => keptT_b _ W l o o' h ho) (Below.refl _ _) (fun _ => rfl)
      (fun pre W1 => BufAt 90 35 W1 base bb bp cap W H (blitRows W p x y R (xs.map cut24) (pre.map Fin.val) px) ∧ BufAt 90 35 W1 w.heap.size b2 p2 cap2 p q (xs.map cut24) ∧ (W1.heap[w.heap.size]? = some (.cells #[.int .i64 x] 3 (0, 0)) ∧ W1.heap[w.heap.size + 1]? = some (.cells #[.int .i64 y] 3 (0, 0)) ∧ W1.heap[w1.heap.size]? = some (.cells #[.pointer (some ⟨b2, 0, none⟩)] 28 (0, 0)) ∧ W1.heap[B]? = some (.cells #[.int .i64 R.x, .int .i64 R.y, .int .i64 R.w, .int .i64 R.h] 38 (0, 0))) ∧ w.grownBy W1 (some bp))
      (fun _ _ _ => False)
      (fun s A' B' row hs hg hr => ⟨hs.1.turn hg (fun r e => (hr r e).2), hs.2.1.turn hg (fun r e => (hr r e).2), ⟨heap_turn hg (fun r e => (hr r e).2) hs.2.2.1.1, heap_turn hg (fun r e => (hr r e).2) hs.2.2.1.2.1, heap_turn hg (fun r e => (hr r e).2) hs.2.2.1.2.2.1, heap_turn hg (fun r e => (hr r e).2) hs.2.2.1.2.2.2⟩, grown_turn hs.2.2.2 hg (Nat.le_trans hs2 (Nat.le_trans hs3 HS.out)) (fun r e => (hr r e).1)⟩)
      (fun _ _ _ _ _ hs _ _ => hs)
      ⟨by simpa [blitRows] using hB.ext hE5, hO.ext hE5, ⟨hE5.keep k0, hE5.keep k1, hE5.keep k4, hE5.keep kB⟩, Ext.grow ((hE.trans hE3).trans hE5) _⟩
      (fun i => { tmps := #[.pointer (some ⟨bb, 0, none⟩), .int .i64 x, .int .i64 y, .agg #[.int .i64 p, .int .i64 q, .slice A xs.length c], .agg #[.int .i64 a, .int .i64 b, .int .i64 d, .int .i64 e], undef, .pointer (some ⟨w.heap.size, 0, none⟩), .pointer (some ⟨w.heap.size + 1, 0, none⟩), .pointer (some ⟨w.heap.size + 1 + 1, 0, none⟩), .pointer (some ⟨w.heap.size + 1 + 1 + 1, 0, none⟩), .pointer (some ⟨w1.heap.size, 0, none⟩), .int .i64 0, .pointer (some ⟨B, 0, none⟩), .int .i64 (R.y + i.val), .slice (some ⟨bp, rowAt W R i.val, none⟩) R.w.toNat R.w.toNat, .tuple #[.pointer (some ⟨b2, 0, none⟩), .int .i64 0], .agg #[.int .i64 p, .int .i64 q, .slice A xs.length c], .tuple #[.pointer (some ⟨b2, 0, none⟩), .int .i64 0], .pointer (some ⟨b2, 0, none⟩), .int .i64 0, .int .i64 0, .bool false, .agg #[.int .i64 a, .int .i64 b, .int .i64 d, .int .i64 e], .pointer (some ⟨bb, 0, none⟩), .agg #[.int .i64 0, .int .i64 0, .int .i64 W, .int .i64 H], .pointer (some ⟨b2, 0, none⟩), .agg #[.int .i64 0, .int .i64 0, .int .i64 p, .int .i64 q], .int .i64 x, .int .i64 y, .agg #[.int .i64 S.x, .int .i64 S.y, .int .i64 S.w, .int .i64 S.h], .agg #[.int .i64 M.x, .int .i64 M.y, .int .i64 M.w, .int .i64 M.h], .agg #[.int .i64 R.x, .int .i64 R.y, .int .i64 R.w, .int .i64 R.h], .pointer (some ⟨bb, 0, none⟩), .agg #[.int .i64 R.x, .int .i64 R.y, .int .i64 R.w, .int .i64 R.h], .func (.func 104) #[] #[.pointer (some ⟨w3.heap.size + 1, 0, none⟩), .pointer (some ⟨w3.heap.size, 0, none⟩)], .int .i64 (R.y + i.val), .slice (some ⟨bp, rowAt W R i.val, none⟩) R.w.toNat R.w.toNat, undef, undef, undef, undef, undef, undef, undef, undef, undef, undef, undef, undef, undef, undef, undef, undef, undef, undef, undef, undef], defers := [] }) ?assign ?body ?done ?stop
    case seq =>
      intro l J Jx W1 hW hJ _ hY h0
      refine (rows1_in 4 (by decide) l _ _ base bb bp cap W H px R.x R.y R.w R.h N (by rw [show Rect.and ⟨R.x, R.y, R.w, R.h⟩ ⟨0, 0, W, H⟩ = R from hidem]; exact hN) J Jx W1 (· ≠ 35) (by decide) (by decide) (by decide) hJ (by rw [show Rect.and ⟨R.x, R.y, R.w, R.h⟩ ⟨0, 0, W, H⟩ = R from hidem]; exact hY) ((hB.ext hE5).ext hW) (Ext.keep hW kb) (Ext.keep hW kr) h0).mono ?_
      rintro e' W' ⟨he, ⟨ys, h1, h2⟩ | ⟨pre, h2⟩⟩
      · exact ⟨he, .inl ⟨ys, h1, h2⟩⟩
      · exact ⟨he, .inr ⟨pre, trivial, h2⟩⟩
    case assign =>
      intro l i W1 K hK
      dsimp only [rowArgs]
      gi_wp2
      exact hK
    case done =>
      rintro D ys W1 hD hys ⟨h1, h2, h4, h3⟩ hK
      gi_wp2
      refine ⟨by simp, .inl ⟨_, _, rfl, run_takeDeferred hK, ?_⟩⟩
      have hD' := HS.out
      have hNn : R.h.toNat = N := by omega
      rw [hRb, hNn, ← hys]
      have hg := grownBy_putObj' W1 D (.deferred none)
      have hr : ∀ r, some D = some r → ∃ o : Obj, W1.heap[r]? = some o ∧ o.isCells = false := fun r e => by cases e; exact ⟨_, hK, rfl⟩
      refine ⟨_, results_none rfl _ _ _, rfl, h1.turn hg hr, grown_turn h3 hg (Nat.le_refl _) (fun r e => by cases e; omega)⟩
    case stop =>
      rintro D c pre W1 _ _ h _
      exact h.elim
    case body =>
      rintro l pre i W1 ⟨h1, h2, ⟨h3, h4, h5, h6⟩, h7⟩ hpre
      have hi := i.isLt
      rcases hin with hz | hin
      · subst hz; simp [Rect.zero] at hN; omega
      obtain ⟨r1, r2, r3, r4, r5, r6, r7, r8, r9, r10⟩ := hin
      obtain ⟨m1, m2, m3⟩ := place_bd hB.w1 hB.w2 hB.h1 hB.h2 (x := R.x) (y := R.y + i.val) (by omega) (by omega) (by omega) (by omega)
      obtain ⟨m4, m5, m6⟩ := place_bd hB.w1 hB.w2 hB.h1 hB.h2 (x := R.x + R.w - 1) (y := R.y + i.val) (by omega) (by omega) (by omega) (by omega)
      obtain ⟨n1, n2, n3⟩ := place_bd g1 g2 g3 g4 (x := R.x - x) (y := R.y + i.val - y) (by omega) (by omega) (by omega) (by omega)
      obtain ⟨n4, n5, n6⟩ := place_bd g1 g2 g3 g4 (x := R.x + R.w - 1 - x) (y := R.y + i.val - y) (by omega) (by omega) (by omega) (by omega)
      have hlen := hB.len
      have hw256 := hB.w2
      have hh256 := hB.h2
      have hOl : (xs.map cut24).length = xs.length := by simp
      have hcap : (xs.length : Int) ≤ cap2 ∧ cap2 ≤ 9223372036854775807 := by
        obtain ⟨A', c', hv, _, e1, e2⟩ := hO.row.reads
        injection hv with _ _ e3
        subst e3
        simp only [maxLen] at e2
        omega
      obtain ⟨hcap1, hcap2⟩ := hcap
      have q4 : IntKind.i64.wrap ((R.y + (i.val : Int) - y) * p + R.x - x) = (R.y + (i.val : Int) - y) * p + R.x - x := IntWalk.i64_in _ (by omega)
      have q3 : IntKind.i64.wrap ((R.y + (i.val : Int) - y) * p + R.x) = (R.y + (i.val : Int) - y) * p + R.x := IntWalk.i64_in _ (by omega)
      have q2 : IntKind.i64.wrap ((R.y + (i.val : Int) - y) * p) = (R.y + (i.val : Int) - y) * p := IntWalk.i64_in _ (by omega)
      have q1 : IntKind.i64.wrap (R.y + (i.val : Int) - y) = R.y + (i.val : Int) - y := IntWalk.i64_in _ (by omega)
      have q5 : 0 ≤ (R.y + (i.val : Int) - y) * p + R.x - x := by omega
      have q6 : (R.y + (i.val : Int) - y) * p + R.x - x < xs.length := by omega
      have hg : ((R.y + (i.val : Int) - y) * p + R.x - x).toNat + R.w.toNat ≤ xs.length := by omega
      have hf : rowAt W R i.val + R.w.toNat ≤ px.length := by unfold rowAt; omega
      obtain ⟨f, hff⟩ : ∃ f, rowAt W R i.val = f := ⟨_, rfl⟩
      obtain ⟨m, hm⟩ : ∃ m, R.w.toNat = m := ⟨_, rfl⟩
      have hm256 : m ≤ 256 := by omega
      obtain ⟨Q, hQ⟩ : ∃ Q, blitRows W p x y R (xs.map cut24) (pre.map Fin.val) px = Q := ⟨_, rfl⟩
      have hql : Q.length = px.length := by rw [← hQ, blitRows_length]
      have hfin : blitRows W p x y R (xs.map cut24) ((pre ++ [i]).map Fin.val) px = putL f (((xs.map cut24).drop (((R.y + (i.val : Int) - y) * p + R.x - x).toNat)).take m) Q := by
        rw [List.map_append, List.map_cons, List.map_nil, blitRows_snoc, hQ, hff, hm]
        rfl
      simp only [hff, hm, hQ] at h1 hf hg ⊢
      have Hfin := Lib.hid hfin
      obtain ⟨c0, f0⟩ := blk_rules h3
      obtain ⟨c1, f1⟩ := blk_rules h4
      obtain ⟨c4, f4⟩ := blk_rules h5
      obtain ⟨cB, fB⟩ := blk_rules h6
      obtain ⟨cO, fO⟩ := blk_rules h2.head
      rw [hOl] at cO
      clear m1 m2 m3 m4 m5 m6 n1 n2 n3 n4 n5 n6 hlen hff hm hQ hfin hB hO kb kr kB k0 k1 k4 k2 k3 hN r1 r2 r3 r4 r5 r6 r7 r8 r9 r10
      have q9 : x ≤ (R.y + (i.val : Int) - y) * p + R.x := by omega
      have q10 : (R.y + (i.val : Int) - y) * p + R.x - x ≤ xs.length := by omega
      have q8 : ¬ (cap2 = ((R.y + (i.val : Int) - y) * p + R.x - x).toNat) := by omega
      clear g5 q6
      gi_wp2
      refine round_tail 19 (by kernel_rfl) (by kernel_rfl) (by kernel_rfl) ?_
      simp only [List.take_succ_cons, List.take_zero, List.drop_succ_cons, List.drop_zero]
      repeat still_step
      refine wpStill_nil ?_
      clear q1 q2 q3 q4 q8 q9 q10 c0 c1 c4 cB cO f0 f1 f4 fB fO
      obtain ⟨g, hgg⟩ : ∃ g, ((R.y + (i.val : Int) - y) * p + R.x - x).toNat = g := ⟨_, rfl⟩
      rw [hgg] at hg Hfin
      simp only [hgg]
      have h2' := h2.shows (f := g) (m := m) (by rw [hOl]; exact hg)
      have hln : (((xs.map cut24).drop g).take m).length = m := by simp; omega
      refine wpList_copy rfl (.tmp 37) (.tmp 55) 22 35 rfl (by kernel_rfl) (by kernel_rfl) bp f m m ⟨p2, g, none⟩ (xs.length - g) (cap2 - g) (nums .u32 (((xs.map cut24).drop g).take m)) rfl rfl ?_ ?_ ?_ ?_ nums_one ?_
      · rw [nums_length, hln]
        exact (Nat.min_eq_right (by omega)).symm
      · intro j v hv
        obtain ⟨ad, e1, hh⟩ := (h2.drew.shows (f := g) (m := m) (by rw [hOl]; exact hg)) (fun hz => by rw [hz] at hv; simp at hv)
        injection e1 with e1
        subst e1
        exact hh j v hv
      · intro j hj
        rw [nums_length, hln] at hj
        have hrc := h1.drew.row.cellAt (f + j) (by omega)
        rw [nums_get (by omega)] at hrc
        exact (congrArg Option.isSome hrc).trans rfl
      · intro j hj
        exact h1.drew.row.frozenAt (f + j)
      · have hst := BufAt.stores (((xs.map cut24).drop g).take m) f h1.drew (by rw [hln]; omega) (fun v hv => by
          obtain ⟨u, _, rfl⟩ := List.mem_map.1 (List.mem_of_mem_drop (List.mem_of_mem_take hv))
          exact cut24_bd u)
        obtain ⟨s1, s2⟩ := hst
        have s3 : W1.grownBy _ (some bp) := (grown_drew (World.grownBy.refl W1 (some bp))).trans s2
        obtain ⟨cur, hty⟩ := own_type h1.row
        have s4 := KeptT.of_grown (p := (· ≠ 35)) s3 (fun cs t fr hc => by rw [hty] at hc; injection hc with hc; injection hc with _ e2 _; subst e2; simp)
        have s5 : KeepsOthers W1 _ := KeepsOthers.of_grownBy s3 (fun j o hj ho => by cases hj; rw [hty] at ho; injection ho with ho; subst ho; rfl)
        have hne4 : some bp ≠ some b2 := fun e1 => hne3 (by injection e1 with e1; exact e1.symm)
        have hne5 : some bp ≠ some p2 := fun e1 => hne2 (by injection e1 with e1; exact e1.symm)
        refine ⟨s5, s4, ?_, h2.keptT s3 hne4 hne5, ⟨s4 _ _ _ _ (by decide) h3, s4 _ _ _ _ (by decide) h4, s4 _ _ _ _ (by decide) h5, s4 _ _ _ _ (by decide) h6⟩, h7.trans s3⟩
        rw [Hfin.out]
        exact s1
end Go.Proofs.Ytilcggkbancniaa
