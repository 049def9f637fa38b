/- The walks of package pixbuf, the fourth part: rows. -/
/- The walks of package pixbuf, the fifth part: Fill. -/
/- The walks of package pixbuf, the sixth part: Part. -/
import Derived.Test.YtjghghbldifhaaaPixC
import Derived.Test.YtjghghbldifhaaaSeqB
set_option linter.unusedVariables false
set_option linter.unusedSimpArgs false
namespace Go.Proofs.Ytjghghbldifhaaa
open Go.RowKit Go.Shelf
attribute [local go_sem] Oper.semAt_some

set_option maxHeartbeats 1000000 in
theorem rows_any (p : Option Addr) (x y a b : Int) (w : World) :
    Calls Try.prog 105 #[.pointer p, .agg #[.int .i64 x, .int .i64 y, .int .i64 a, .int .i64 b]] w fun e w' =>
      e = .returned (.func (.func 127) #[] #[.pointer (some ⟨w.heap.size + 1, 0, none⟩), .pointer (some ⟨w.heap.size, 0, none⟩)]) ∧ (w.alloc (.cells #[.pointer p] 60)).alloc (.cells #[.int .i64 x, .int .i64 y, .int .i64 a, .int .i64 b] 26) = w' := by
  go_enter Try.func105, Try.ntmps105
  go_wp2
  go_ret
  exact ⟨rfl, rfl⟩

/-- Where row i of a part of a picture begins. -/
def rowAt (W : Int) (R : Rect) (i : Nat) : Nat := ((R.y + i) * W + R.x).toNat
/-- A row that the iterator hands on: its place down, and the pixels' part. -/
def rowArgs (bp : Nat) (W : Int) (R : Rect) (i : Nat) : Array Value := #[.int .i64 (R.y + i), .slice (some ⟨bp, rowAt W R i, none⟩) R.w.toNat R.w.toNat]

set_option maxRecDepth 100000 in
set_option maxHeartbeats 2000000 in
theorem rows1_in (n : Nat) (hn : 1 ≤ n) (l B0 B1 base bb bp cap : Nat) (W H : Int) (px : List Int) (x y a b : Int) (N : Nat) (hN : (N : Int) = (Rect.and ⟨x, y, a, b⟩ ⟨0, 0, W, H⟩).h) (J Jx : List (Fin N) → World → Prop) (w : World) (p : TypeId → Prop) (hp1 : p 60) (hp2 : p 26) (hp3 : p 117)
    (hJ : AbidesFrom w.heap.size J)
    (hY : ∀ (pre : List (Fin N)) (i : Fin N) (W1 : World), J pre W1 → pre.length < N → YieldAt Fence.wide (n - 1) Try.prog l (rowArgs bp W (Rect.and ⟨x, y, a, b⟩ ⟨0, 0, W, H⟩) i.val) W1 fun e W' =>
      (e = .returned (.bool true) ∧ J (pre ++ [i]) W' ∧ KeptT p W1 W') ∨ (e = .returned (.bool false) ∧ Jx (pre ++ [i]) W'))
    (hB : BufAt 117 58 w base bb bp cap W H px) (k0 : w.heap[B0]? = some (.cells #[.pointer (some ⟨bb, 0, none⟩)] 60 (0, 0))) (k1 : w.heap[B1]? = some (.cells #[.int .i64 x, .int .i64 y, .int .i64 a, .int .i64 b] 26 (0, 0)))
    (h0 : J [] w) :
    CallsIn Fence.wide n Try.prog 127 #[.func (.yield l) #[] #[], .pointer (some ⟨B1, 0, none⟩), .pointer (some ⟨B0, 0, none⟩)] w fun e W' => (∃ v, e = .returned v) ∧
      ((∃ ys : List (Fin N), ys.map Fin.val = List.range N ∧ J ys W') ∨ (∃ pre : List (Fin N), Jx pre W')) := by
  refine callsIn_of_wp Try.func127 rfl trivial ?_ rfl
  simp only [Try.ntmps127, List.size_toArray, List.length_cons, List.length_nil, Nat.reduceAdd, Nat.reduceSub, Array.replicate_succ, Array.replicate_zero, List.push_toArray, List.append_toArray, List.nil_append, List.cons_append]
  obtain ⟨R, hR⟩ : ∃ R, Rect.and ⟨x, y, a, b⟩ ⟨0, 0, W, H⟩ = R := ⟨_, rfl⟩
  have hand := fun w : World => and_any x y a b 0 0 W H w
  simp only [hR] at hand hN hY ⊢
  gi_wp2
  refine wpIn_mono (Q := fun e a' w' => e = .normal ∧ ∃ B, a' = { tmps := #[.func (.yield l) #[] #[], .pointer (some ⟨B1, 0, none⟩), .pointer (some ⟨B0, 0, none⟩), undef, .pointer (some ⟨B, 0, none⟩), undef, undef, undef, .agg #[.int .i64 x, .int .i64 y, .int .i64 a, .int .i64 b], .pointer (some ⟨bb, 0, none⟩), .agg #[.int .i64 0, .int .i64 0, .int .i64 W, .int .i64 H], .agg #[.int .i64 R.x, .int .i64 R.y, .int .i64 R.w, .int .i64 R.h], undef, undef, undef, undef, undef, undef, undef, undef, undef, undef, undef, undef, undef, undef, undef, undef, undef, undef, undef, undef, undef, undef, undef, undef, undef, undef, undef, undef, undef, undef, undef, undef, undef, undef, undef, undef], defers := [] } ∧ w'.heap[B]? = some (.cells #[.int .i64 R.x, .int .i64 R.y, .int .i64 R.w, .int .i64 R.h] 26 (0, 0)) ∧ Ext w w' ∧ w.heap.size ≤ B) (wpIn_wide.2 ?_) ?_
  · clear hJ hY hN h0 hp1 hp2 hp3
    obtain ⟨c0, f0⟩ := blk_rules k0
    obtain ⟨c1, f1⟩ := blk_rules k1
    have z0 := blk_lt k0
    have z1 := blk_lt k1
    have sx : ∀ w', Ext w w' → Ext w w' ∧ w'.cell? ⟨B1, 0, none⟩ = some (.int .i64 x) ∧ w'.cell? ⟨B1, 1, none⟩ = some (.int .i64 y) ∧ w'.cell? ⟨B1, 2, none⟩ = some (.int .i64 a) ∧ w'.cell? ⟨B1, 3, none⟩ = some (.int .i64 b) ∧ w'.cell? ⟨B0, 0, none⟩ = some (.pointer (some ⟨bb, 0, none⟩)) := fun w' h => ⟨h, h.cellOf (c1 0), h.cellOf (c1 1), h.cellOf (c1 2), h.cellOf (c1 3), h.cellOf (c0 0)⟩
    go_region_held3 (fun w' => Ext w w' ∧ w'.cell? ⟨B1, 0, none⟩ = some (.int .i64 x) ∧ w'.cell? ⟨B1, 1, none⟩ = some (.int .i64 y) ∧ w'.cell? ⟨B1, 2, none⟩ = some (.int .i64 a) ∧ w'.cell? ⟨B1, 3, none⟩ = some (.int .i64 b) ∧ w'.cell? ⟨B0, 0, none⟩ = some (.pointer (some ⟨bb, 0, none⟩))) ((refine sx _ ?_; first | exact hE2 | exact hE1 | exact (Ext.refl w).drew | (repeat' (first | exact And.left (by assumption) | exact hE2 | exact hE1 | refine Ext.alloc ?_ _ | refine Ext.set ?_ ?_ _ | refine Ext.drew ?_ | exact Ext.refl w | exact Nat.le_refl _ | exact hE2.size | exact hE1.size | (simp; done))))) (first | (go_at_call 106; refine (all_any (hB.ext (And.left (by assumption)))).mono ?_; rintro e w1 ⟨rfl, hb⟩; have hE1 : Ext w w1 := Ext.trans (And.left (by assumption)) hb) | (go_at_call 95; refine (hand _).mono ?_; rintro e w2 ⟨rfl, hb2⟩; have hE2 : Ext w w2 := Ext.trans (And.left (by assumption)) hb2; (first | (have kB := hb2.keep (hb.keep (blk_new w _)); obtain ⟨d2, g2⟩ := blk_rules kB) | (have kB := hb2.keep (blk_new w1 _); obtain ⟨d2, g2⟩ := blk_rules kB) | skip)))
    all_goals
      refine ⟨rfl, _, rfl, ?_, ?_, ?_⟩
      · first
          | simpa using blk_set (blk_set (blk_set (blk_set kB 0 (.int .i64 R.x)) 1 (.int .i64 R.y)) 2 (.int .i64 R.w)) 3 (.int .i64 R.h)
          | exact blk_new w2 _
      · repeat' (first | exact hE2 | refine Ext.alloc ?_ _ | refine Ext.set ?_ ?_ _ | refine Ext.drew ?_ | exact Nat.le_refl _ | exact hE2.size | exact hE1.size)
      · first | exact Nat.le_refl _ | exact hE2.size | exact hE1.size
  · rintro e a' w2 ⟨rfl, B, rfl, kB, hE, hBlt⟩
    obtain ⟨hRx, hRy⟩ := Rect.and_in hB.w1 hB.w2 hB.h1 hB.h2 hR
    have hk1 := hE.keep hB.head
    have hk0 := hE.keep k0
    replace h0 := abides_ext hJ h0 hE
    have hcap : (px.length : Int) ≤ cap ∧ cap ≤ 9223372036854775807 := by
      obtain ⟨A, c, hv, _, h1, h2⟩ := hB.row.reads
      injection hv with e1 e2 e3
      subst e3
      simp only [maxLen] at h2
      omega
    obtain ⟨hcap1, hcap2⟩ := hcap
    have hlen := hB.len
    have hw1 := hB.w1
    have hw2 := hB.w2
    have hh1 := hB.h1
    have hh2 := hB.h2
    obtain ⟨cB, fB⟩ := blk_rules kB
    clear hB k0 k1 hand
    gi_wp2
    clear cB fB
    gi_loopw [5] (fun i wr => ∃ (k : Nat) (pre : List (Fin N)), k ≤ N ∧ i = .int .i64 (R.y + k) ∧ pre.map Fin.val = List.range k ∧ J pre wr ∧ wr.heap[B]? = some (.cells #[.int .i64 R.x, .int .i64 R.y, .int .i64 R.w, .int .i64 R.h] 26 (0, 0)) ∧ wr.heap[B0]? = some (.cells #[.pointer (some ⟨bb, 0, none⟩)] 60 (0, 0)) ∧ wr.heap[bb]? = some (.cells #[.int .i64 W, .int .i64 H, .slice (some ⟨bp, 0, none⟩) px.length cap] 117 (0, 0)))
      (fun i _ => N - (intOf i - R.y).toNat)
    case atStart => exact ⟨0, [], Nat.zero_le _, by simp, rfl, h0, kB, hk0, hk1⟩
    case round =>
      clear h0 kB hk0 hk1 hE
      obtain ⟨k, pre, hk, rfl, hpre, hJs, kB, hk0, hk1⟩ := hrel
      obtain ⟨cB, fB⟩ := blk_rules kB
      obtain ⟨c0, f0⟩ := blk_rules hk0
      obtain ⟨c1, f1⟩ := blk_rules hk1
      have Hpre := Lib.hid hpre
      have HN := Lib.hid hN
      clear hpre hN
      by_cases hlt : k < N
      · have hlt' : R.y + (k : Int) < R.y + R.h := by have := HN.out; omega
        rcases hRx with hz | ⟨r1, r2, r3, r4, r5, r6⟩
        · subst hz; simp [Rect.zero] at hlt'; omega
        · obtain ⟨m1, m2, m3⟩ := place_bd hw1 hw2 hh1 hh2 (x := R.x) (y := R.y + k) (by omega) (by omega) (by omega) (by omega)
          obtain ⟨m4, m5, m6⟩ := place_bd hw1 hw2 hh1 hh2 (x := R.x + R.w - 1) (y := R.y + k) (by omega) (by omega) (by omega) (by omega)
          have q3 : 0 ≤ (R.y + (k : Int)) * W + R.x := by omega
          have q2 : IntKind.i64.wrap ((R.y + (k : Int)) * W + R.x) = (R.y + (k : Int)) * W + R.x := IntWalk.i64_in _ (by omega)
          have q1 : IntKind.i64.wrap ((R.y + (k : Int)) * W) = (R.y + (k : Int)) * W := IntWalk.i64_in _ (by omega)
          have q4 : (R.y + (k : Int)) * W + R.x + R.w ≤ px.length := by omega
          clear HN m4 m5 m6 m3
          gi_wp2
          refine wpIn_wide.2 ?_
          go_quiet (fail)
          clear q1 q2
          replace hJs : J pre (wr.drewN nq) := abides_ext hJ hJs ((Ext.refl wr).drewN nq)
          obtain ⟨fn, tmps, assign, body, hy, hRd⟩ := hY pre ⟨k, hlt⟩ (wr.drewN nq) hJs (by have := congrArg List.length Hpre.out; simp at this; omega)
          dsimp only [rowArgs, rowAt] at hy
          have q5 : (((R.y + (k : Int)) * W + R.x + R.w).toNat - ((R.y + (k : Int)) * W + R.x).toNat) = R.w.toNat := by omega
          gi_wp2
          refine hRd.mono ?_
          rintro e W3 (⟨rfl, hJ3, hk3⟩ | ⟨rfl, hJx3⟩)
          · have kB' := hk3 _ _ _ _ hp2 kB
            have hk0' := hk3 _ _ _ _ hp1 hk0
            have hk1' := hk3 _ _ _ _ hp3 hk1
            gi_wp2
            go_roundw
            case rel => exact ⟨k + 1, pre ++ [⟨k, hlt⟩], by omega, by go_num, by rw [List.map_append, Hpre.out, List.range_succ]; rfl, hJ3, kB', hk0', hk1'⟩
            case measure => simp [intOf]; omega
          · gi_wp2
            refine bodyPost_ret (results_none rfl _ _ _) rfl ?_
            exact ⟨⟨_, rfl⟩, .inr ⟨_, hJx3⟩⟩
      · obtain rfl : k = N := by omega
        have hge : R.h ≤ (k : Int) := by have := HN.out; omega
        have hge2 : decide (R.y + (k : Int) < R.y + R.h) = false := by simp; omega
        have hyb : 0 ≤ R.y ∧ R.y + R.h ≤ 256 := by rcases hRx with hz | hz; (rw [hz]; simp [Rect.zero]); omega
        obtain ⟨hyb1, hyb2⟩ := hyb
        gi_wp2
        go_end0
        exact ⟨⟨_, rfl⟩, .inl ⟨pre, Hpre.out, hJs⟩⟩
end Go.Proofs.Ytjghghbldifhaaa
set_option linter.unusedVariables false
set_option linter.unusedSimpArgs false
namespace Go.Proofs.Ytjghghbldifhaaa
open Go.RowKit Go.Shelf
attribute [local go_sem] Oper.semAt_some

/-- Pixels k of a row from place f on, set to v. -/
def fillRow (f : Nat) (v : Int) (k : Nat) (px : List Int) : List Int := (List.range k).foldl (fun p j => p.set (f + j) v) px
theorem fillRow_succ (f : Nat) (v : Int) (k : Nat) (px : List Int) : fillRow f v (k + 1) px = (fillRow f v k px).set (f + k) v := by
  simp [fillRow, List.range_succ, List.foldl_append]
theorem fillRow_length (f : Nat) (v : Int) (k : Nat) (px : List Int) : (fillRow f v k px).length = px.length := by
  induction k with
  | zero => rfl
  | succ k ih => rw [fillRow_succ, List.length_set, ih]
def fillRows (W : Int) (R : Rect) (v : Int) (l : List Nat) (px : List Int) : List Int := l.foldl (fun p i => fillRow (rowAt W R i) v R.w.toNat p) px
theorem fillRows_snoc (W : Int) (R : Rect) (v : Int) (l : List Nat) (i : Nat) (px : List Int) : fillRows W R v (l ++ [i]) px = fillRow (rowAt W R i) v R.w.toNat (fillRows W R v l px) := by
  simp [fillRows, List.foldl_append]
theorem fillRows_length (W : Int) (R : Rect) (v : Int) (l : List Nat) (px : List Int) : (fillRows W R v l px).length = px.length := by
  induction l generalizing px with
  | nil => rfl
  | cons i l ih => simp only [fillRows, List.foldl_cons] at ih ⊢; rw [ih, fillRow_length]

/-- What is no block of the buffer's is turned: the buffer stands. -/
theorem heap_turn {W W' : World} {row : Option Nat} (hg : W.grownBy W' row) (hr : ∀ r, row = some r → ∃ o : Obj, W.heap[r]? = some o ∧ o.isCells = false) {k : Nat} {cs : Array Value} {t : TypeId} {fr : Nat × Nat} (h : W.heap[k]? = some (.cells cs t fr)) : W'.heap[k]? = some (.cells cs t fr) :=
  (hg.block k (Array.getElem?_eq_some_iff.1 h).1 (fun e => by
    obtain ⟨o, ho, hc⟩ := hr k e.symm
    rw [h] at ho
    injection ho with ho
    subst ho
    cases hc)).trans h
theorem own_turn {k : IntKind} {e : TypeId} {W W' : World} {base : Nat} {v : Value} {xs : List Int} {row : Option Nat} (hg : W.grownBy W' row) (hr : ∀ r, row = some r → ∃ o : Obj, W.heap[r]? = some o ∧ o.isCells = false) (h : Own k e W base v xs) : Own k e W' base v xs := by
  obtain ⟨h1, h2⟩ := h
  refine ⟨h1, ?_⟩
  rcases h2 with h2 | ⟨g, cap, cur, e1, e2, e3, e4⟩
  · exact .inl h2
  · exact .inr ⟨g, cap, cur, e1, e2, heap_turn hg hr e3, e4⟩
theorem BufAt.turn {T e : TypeId} {W W' : World} {base bb bp cap : Nat} {p q : Int} {px : List Int} (h : BufAt T e W base bb bp cap p q px) {row : Option Nat} (hg : W.grownBy W' row) (hr : ∀ r, row = some r → ∃ o : Obj, W.heap[r]? = some o ∧ o.isCells = false) : BufAt T e W' base bb bp cap p q px :=
  ⟨heap_turn hg hr h.head, own_turn hg hr h.row, h.ne, h.hb, h.w1, h.w2, h.h1, h.h2, h.len, h.pix⟩
/-- A turn of a block that is new. -/
theorem grown_turn {w W W' : World} {g B : Nat} {row : Option Nat} (h : w.grownBy W (some g)) (hg : W.grownBy W' row) (hB : w.heap.size ≤ B) (hr : ∀ r, row = some r → B ≤ r) : w.grownBy W' (some g) :=
  ⟨hg.os.trans h.os, hg.tape.trans h.tape, hg.output.trans h.output, Nat.le_trans h.size hg.size, fun k hk hn => (hg.block k (Nat.lt_of_lt_of_le hk h.size) (fun e => by have := hr k e.symm; omega)).trans (h.block k hk hn)⟩

set_option maxHeartbeats 1000000 in
theorem fill_any {w : World} {base bb bp cap : Nat} {W H : Int} {px : List Int} (hB : BufAt 117 58 w base bb bp cap W H px) (x y a b c : Int) (hc0 : 0 ≤ c) (hc1 : c ≤ 4294967295) :
    Calls Try.prog 70 #[.pointer (some ⟨bb, 0, none⟩), .agg #[.int .i64 x, .int .i64 y, .int .i64 a, .int .i64 b], .int .u32 c] w fun e w' => e = .returned (.tuple #[]) ∧ BufAt 117 58 w' base bb bp cap W H (fillRows W (Rect.and ⟨x, y, a, b⟩ ⟨0, 0, W, H⟩) (cut24 c) (List.range (Rect.and ⟨x, y, a, b⟩ ⟨0, 0, W, H⟩).h.toNat) px) ∧ w.grownBy w' (some bp) := by
  refine (callsIn_wide (n := 5)).1 ?_
  refine callsIn_of_wp_marks Try.func70 rfl trivial ?_ rfl
  simp only [Try.ntmps70, List.size_toArray, List.length_cons, List.length_nil, Nat.reduceAdd, Nat.reduceSub, Array.replicate_succ, Array.replicate_zero, List.push_toArray, List.append_toArray, List.nil_append, List.cons_append]
  gi_wp2_with (refine ⟨trivial, ?_⟩; gi_at_call 105; refine (callsIn_wide.2 (rows_any _ _ _ _ _ _)).mono ?_; rintro e w1 ⟨rfl, rfl⟩)
  obtain ⟨R, hR⟩ : ∃ R, Rect.and ⟨x, y, a, b⟩ ⟨0, 0, W, H⟩ = R := ⟨_, rfl⟩
  obtain ⟨hRx, hRy⟩ := Rect.and_in hB.w1 hB.w2 hB.h1 hB.h2 hR
  obtain ⟨N, hN⟩ : ∃ N : Nat, (N : Int) = R.h := ⟨R.h.toNat, by omega⟩
  generalize hw3 : ((((w.alloc (.cells #[.int .i64 x, .int .i64 y, .int .i64 a, .int .i64 b] 26)).alloc (.cells #[.int .u32 c] 58)).alloc (.cells #[.pointer (some ⟨bb, 0, none⟩)] 60)).alloc (.cells #[.int .i64 x, .int .i64 y, .int .i64 a, .int .i64 b] 26)) = w3
  have hE3 : Ext w w3 := by rw [← hw3]; exact ((((Ext.refl w).alloc _).alloc _).alloc _).alloc _
  have kc : w3.heap[w.heap.size + 1]? = some (.cells #[.int .u32 c] 58 (0, 0)) := by rw [← hw3]; exact blk_old (blk_old (blk_new1 _ _ _) _) _
  have kb : w3.heap[w.heap.size + 1 + 1]? = some (.cells #[.pointer (some ⟨bb, 0, none⟩)] 60 (0, 0)) := by rw [← hw3]; exact blk_old (blk_new2 _ _ _ _) _
  have kr : w3.heap[w.heap.size + 1 + 1 + 1]? = some (.cells #[.int .i64 x, .int .i64 y, .int .i64 a, .int .i64 b] 26 (0, 0)) := by rw [← hw3]; exact blk_new3 _ _ _ _ _
  have hs3 : w.heap.size + 4 = w3.heap.size := by rw [← hw3]; simp
  have hbpl : bp < w.heap.size := (World.ownsRow.lt hB.row bp (by simp [Value.ownBlock])).2
  have HS := Lib.hid hs3
  clear hw3 hs3
  refine wpIn_rangeFunc_ownF (F := Fence.wide) (n := 5) (α := Fin N) rfl (by decide) (gf := 127) (lb := #[.pointer (some ⟨w.heap.size + 1 + 1 + 1, 0, none⟩), .pointer (some ⟨w.heap.size + 1 + 1, 0, none⟩)]) rfl trivial (enters_of Try.func127 (by kernel_rfl) rfl)
    (encs := fun i => rowArgs bp W R i.val) (Kp := KeptT (· ≠ 58)) (S := fun ys => ys.map Fin.val = List.range N) (Sp := fun _ => True) (N := N) (w0 := w3) ?seq KeptT.trans (fun W l o o' _ h ho _ => keptT_b _ W l o o' h ho) (Below.refl _ _) (fun _ => rfl)
    (fun pre W1 => BufAt 117 58 W1 base bb bp cap W H (fillRows W R (cut24 c) (pre.map Fin.val) px) ∧ W1.heap[w.heap.size + 1]? = some (.cells #[.int .u32 c] 58 (0, 0)) ∧ w.grownBy W1 (some bp))
    (fun _ _ _ => False)
    (fun s A B row hs hg hr => ⟨hs.1.turn hg (fun r e => (hr r e).2), heap_turn hg (fun r e => (hr r e).2) hs.2.1, grown_turn hs.2.2 hg hE3.size (fun r e => (hr r e).1)⟩)
    (fun _ _ _ _ _ hs _ _ => hs)
    ⟨by simpa [fillRows] using hB.ext hE3, kc, Ext.grow hE3 _⟩
    (fun i => { tmps := #[.pointer (some ⟨bb, 0, none⟩), .agg #[.int .i64 x, .int .i64 y, .int .i64 a, .int .i64 b], .int .u32 c, undef, .pointer (some ⟨w.heap.size, 0, none⟩), .pointer (some ⟨w.heap.size + 1, 0, none⟩), undef, .slice (some ⟨bp, rowAt W R i.val, none⟩) R.w.toNat R.w.toNat, undef, .pointer (some ⟨bb, 0, none⟩), .agg #[.int .i64 x, .int .i64 y, .int .i64 a, .int .i64 b], .func (.func 127) #[] #[.pointer (some ⟨w.heap.size + 1 + 1 + 1, 0, none⟩), .pointer (some ⟨w.heap.size + 1 + 1, 0, none⟩)], .int .i64 (R.y + i.val), .slice (some ⟨bp, rowAt W R i.val, none⟩) R.w.toNat R.w.toNat, undef, undef, undef, undef, undef, undef, undef, undef, undef, undef, undef], defers := [] }) ?assign ?body ?done ?stop
  case seq =>
    intro l J Jx W1 hW hJ _ hY h0
    have hq := HS.out
    refine (rows1_in 4 (by decide) l _ _ base bb bp cap W H px x y a b N (by rw [hR]; exact hN) J Jx W1 (· ≠ 58) (by decide) (by decide) (by decide) hJ (by rw [hR]; exact hY) ((hB.ext hE3).ext hW) (Ext.keep hW kb) (Ext.keep hW kr) h0).mono ?_
    rintro e W' ⟨he, ⟨ys, h1, h2⟩ | ⟨pre, h2⟩⟩
    · exact ⟨he, .inl ⟨ys, h1, h2⟩⟩
    · exact ⟨he, .inr ⟨pre, trivial, h2⟩⟩
  case assign =>
    intro l i W1 K hK
    dsimp only [rowArgs]
    gi_wp2
    exact hK
  case done =>
    rintro D ys W1 hD hys ⟨h1, h2, h3⟩ hK
    gi_wp2
    refine ⟨by simp, .inl ⟨_, _, rfl, run_takeDeferred hK, ?_⟩⟩
    have hD' := HS.out
    have hNn : R.h.toNat = N := by omega
    rw [hR, hNn, ← hys]
    have hg := grownBy_putObj' W1 D (.deferred none)
    have hr : ∀ r, some D = some r → ∃ o : Obj, W1.heap[r]? = some o ∧ o.isCells = false := fun r e => by cases e; exact ⟨_, hK, rfl⟩
    refine ⟨_, results_none rfl _ _ _, rfl, h1.turn hg hr, grown_turn h3 hg (Nat.le_refl _) (fun r e => by cases e; omega)⟩
  case stop =>
    rintro D c pre W1 _ _ h _
    exact h.elim
  case body =>
    rintro l pre i W1 ⟨h1, h2, h3⟩ _
    have hi := i.isLt
    rcases hRx with hz | ⟨r1, r2, r3, r4, r5, r6⟩
    · subst hz; simp [Rect.zero] at hN; omega
    · obtain ⟨m1, m2, m3⟩ := place_bd hB.w1 hB.w2 hB.h1 hB.h2 (x := R.x) (y := R.y + i.val) (by omega) (by omega) (by omega) (by omega)
      obtain ⟨m4, m5, m6⟩ := place_bd hB.w1 hB.w2 hB.h1 hB.h2 (x := R.x + R.w - 1) (y := R.y + i.val) (by omega) (by omega) (by omega) (by omega)
      have hlen := hB.len
      obtain ⟨f, hf⟩ : ∃ f, rowAt W R i.val = f := ⟨_, rfl⟩
      obtain ⟨m, hm⟩ : ∃ m, R.w.toNat = m := ⟨_, rfl⟩
      have hfm : f + m ≤ px.length := by unfold rowAt at hf; omega
      have hm256 : m ≤ 256 := by have := hB.w2; omega
      obtain ⟨qx, hq⟩ : ∃ qx, fillRows W R (cut24 c) (pre.map Fin.val) px = qx := ⟨_, rfl⟩
      have hql : qx.length = px.length := by rw [← hq, fillRows_length]
      have hfin : fillRows W R (cut24 c) ((pre ++ [i]).map Fin.val) px = fillRow f (cut24 c) m qx := by
        rw [List.map_append, List.map_cons, List.map_nil, fillRows_snoc, hq, hf, hm]
      simp only [hf, hm, hq] at h1 ⊢
      have Hfin := Lib.hid hfin
      have Hql := Lib.hid hql
      clear m1 m2 m3 m4 m5 m6 hf hm hq hlen hB kc kb kr hfin hN hR hql
      gi_wp2
      gi_loopw [16] (fun j wr => ∃ k : Nat, k ≤ m ∧ j = .int .i64 k ∧ BufAt 117 58 wr base bb bp cap W H (fillRow f (cut24 c) k qx) ∧ wr.heap[w.heap.size + 1]? = some (.cells #[.int .u32 c] 58 (0, 0)) ∧ w.grownBy wr (some bp) ∧ KeepsOthers W1 wr ∧ KeptT (· ≠ 58) W1 wr)
        (fun j _ => m - (intOf j).toNat)
      case atStart => exact ⟨0, Nat.zero_le _, rfl, h1, h2, h3, KeepsOthers.refl _, KeptT.refl _ _⟩
      case round =>
        clear h1 h2 h3
        obtain ⟨k, hk, rfl, h1, h2, h3, h4, h5⟩ := hrel
        obtain ⟨c2, f2⟩ := blk_rules h2
        by_cases hlt : k < m
        · have hrc := h1.row.cellAt (f + k) (by rw [fillRow_length, Hql.out]; omega)
          rw [nums_get (by rw [fillRow_length, Hql.out]; omega)] at hrc
          have hrf := fun j => h1.row.frozenAt j
          have Hs := Lib.hid (BufAt.store h1 (i := f + k) (by rw [fillRow_length, Hql.out]; omega) (cut24_bd c))
          rw [← fillRow_succ, ← and_cut hc0 (by omega)] at Hs
          have hbp : bp < w.heap.size := hbpl
          obtain ⟨cur, hty⟩ := own_type h1.row
          have Hty := Lib.hid hty
          clear hty
          gi_wp2
          rw [and_cut hc0 (by omega)] at *
          refine ⟨⟨k + 1, by omega, by go_num, Hs.out.1, blk_set_ne h2 (by omega) _ _, h3.trans Hs.out.2, h4.trans (KeepsOthers.setCell _ _ _), h5.trans (KeptT.set Hty.out (by simp) _ _)⟩, by simp [intOf]; omega⟩
        · obtain rfl : k = m := by omega
          gi_wp2
          refine ⟨h4, h5, ?_, h2, h3⟩
          rw [Hfin.out]
          exact h1
end Go.Proofs.Ytjghghbldifhaaa
set_option linter.unusedVariables false
set_option linter.unusedSimpArgs false
namespace Go.Proofs.Ytjghghbldifhaaa
open Go.RowKit Go.Shelf
attribute [local go_sem] Oper.semAt_some

set_option maxHeartbeats 1000000 in
theorem part_bad {w : World} {base bb bp cap : Nat} {W H : Int} {px : List Int} (hB : BufAt 117 58 w base bb bp cap W H px) (x y a b : Int) (h : Rect.empty ⟨x, y, a, b⟩ = true ∨ Rect.empty ⟨x, y, a, b⟩ = false ∧ Rect.within ⟨x, y, a, b⟩ ⟨0, 0, W, H⟩ = false) :
    Calls Try.prog 73 #[.pointer (some ⟨bb, 0, none⟩), .agg #[.int .i64 x, .int .i64 y, .int .i64 a, .int .i64 b]] w fun e w' => e = .returned (.tuple #[.agg #[.int .i64 0, .int .i64 0, .slice none 0 0], .int .i64 5]) ∧ Ext w w' := by
  have hE := ((Ext.refl w).alloc (.cells #[.int .i64 x, .int .i64 y, .int .i64 a, .int .i64 b] 26)).alloc (.cells #[.int .i64 0, .int .i64 0, .slice none 0 0] 43)
  have kR := blk_new1 w (.cells #[.int .i64 x, .int .i64 y, .int .i64 a, .int .i64 b] 26) (.cells #[.int .i64 0, .int .i64 0, .slice none 0 0] 43)
  have j0 := After.blk (blk_old (blk_new w (.cells #[.int .i64 x, .int .i64 y, .int .i64 a, .int .i64 b] 26)) (.cells #[.int .i64 0, .int .i64 0, .slice none 0 0] 43))
  have hB1 := hB.ext hE
  rcases h with h1 | ⟨h1, h2⟩
  all_goals
    have he := fun w => empty_any x y a b w
    simp only [h1] at he
    have hi : ∀ w, Rect.empty ⟨x, y, a, b⟩ = false → Calls Try.prog 50 #[.agg #[.int .i64 x, .int .i64 y, .int .i64 a, .int .i64 b], .agg #[.int .i64 0, .int .i64 0, .int .i64 W, .int .i64 H]] w fun e w' => e = .returned (.bool false) ∧ Ext w w' := fun w hne => by
      first
        | exact absurd hne (by rw [h1]; decide)
        | (have := in_any x y a b 0 0 W H w; rwa [h2] at this)
    go_enter Try.func73, Try.ntmps73
    go_wp2_with fail
    refine wp_region_after (by kernel_rfl) (by kernel_rfl) ?_
    repeat (go_big_quiet_step (first | exact Calls.after (he _) | exact Calls.after (all_any (hB1.ext (After.ext _))) | exact Calls.after (hi _ h1)))
    refine wpQuiet_nil ?_
    intro _ hw'
    obtain ⟨q, rfl⟩ := hw'
    obtain ⟨d1, g1⟩ := blk_rules (q.ext.keep kR)
    have hE2 := Ext.trans hE q.ext
    go_wp2
    refine bodyPost_ret (v := .tuple #[.agg #[.int .i64 0, .int .i64 0, .slice none 0 0], .int .i64 5]) (by simp only [results, Try.results73]; go_simp; done) rfl ⟨rfl, ?_⟩
    repeat' (first | exact hE2 | refine Ext.set ?_ ?_ _ | exact Nat.le_succ _)

/-- The pixels of rows of a part. -/
def partRows (W : Int) (R : Rect) (l : List Nat) (px : List Int) : List Int := l.flatMap fun i => (px.drop (rowAt W R i)).take R.w.toNat
theorem partRows_snoc (W : Int) (R : Rect) (l : List Nat) (i : Nat) (px : List Int) : partRows W R (l ++ [i]) px = partRows W R l px ++ (px.drop (rowAt W R i)).take R.w.toNat := by
  simp [partRows, List.flatMap_append]

theorem partRows_length {W : Int} {R : Rect} {l : List Nat} {px : List Int} (h : ∀ i ∈ l, rowAt W R i + R.w.toNat ≤ px.length) : (partRows W R l px).length = l.length * R.w.toNat := by
  induction l with
  | nil => simp [partRows]
  | cons i l ih =>
    have h1 := h i (by simp)
    have h2 := ih (fun j hj => h j (by simp [hj]))
    simp only [partRows, List.flatMap_cons, List.length_append, List.length_take, List.length_drop] at h2 ⊢
    rw [h2, List.length_cons, Nat.succ_mul]
    omega
theorem rowAt_fits {W H : Int} {R : Rect} {n : Nat} (h1 : 1 ≤ W) (h2 : W ≤ 256) (h3 : 1 ≤ H) (h4 : H ≤ 256) (hn : (n : Int) = W * H) (r1 : 0 ≤ R.x) (r2 : 1 ≤ R.w) (r3 : R.x + R.w ≤ W) (r4 : 0 ≤ R.y) (r6 : R.y + R.h ≤ H) {i : Nat} (hi : (i : Int) < R.h) : rowAt W R i + R.w.toNat ≤ n := by
  obtain ⟨m1, m2, m3⟩ := place_bd h1 h2 h3 h4 (x := R.x) (y := R.y + i) (by omega) (by omega) (by omega) (by omega)
  obtain ⟨m4, m5, m6⟩ := place_bd h1 h2 h3 h4 (x := R.x + R.w - 1) (y := R.y + i) (by omega) (by omega) (by omega) (by omega)
  unfold rowAt
  omega
theorem BufAt.shows {T e : TypeId} {w : World} {base bb bp cap : Nat} {W H : Int} {px : List Int} (h : BufAt T e w base bb bp cap W H px) {f m : Nat} (hf : f + m ≤ px.length) : Shows w (some ⟨bp, f, none⟩) (nums .u32 ((px.drop f).take m)) := by
  intro _
  refine ⟨_, rfl, fun j u hu => ?_⟩
  have hl : ((px.drop f).take m).length = m := by simp; omega
  have hj : j < m := by
    rcases Nat.lt_or_ge j m with h1 | h1
    · exact h1
    · rw [List.getElem?_eq_none (by rw [nums_length, hl]; exact h1)] at hu; cases hu
  rw [nums_get (by rw [hl]; exact hj)] at hu
  injection hu with hu
  rw [add_plain, World.ownsRow.cellAt h.row (f + j) (by omega), nums_get (by omega), ← hu]
  simp [List.getD_eq_getElem?_getD, List.getElem?_take, hj, List.getElem?_drop]
theorem Rect.and_whole {x y a b W H : Int} (h1 : Rect.empty ⟨x, y, a, b⟩ = false) (h2 : Rect.within ⟨x, y, a, b⟩ ⟨0, 0, W, H⟩ = true) : Rect.and ⟨x, y, a, b⟩ ⟨0, 0, W, H⟩ = ⟨x, y, a, b⟩ := by
  unfold Rect.within at h2
  rw [h1, Bool.false_or] at h2
  exact Rect.eqB_iff.1 h2

theorem own_block_type {k : IntKind} {e : TypeId} {W : World} {base : Nat} {v : Value} {xs : List Int} (h : Own k e W base v xs) {g : Nat} (hg : v.ownBlock = some g) : base ≤ g ∧ ∃ cur, W.heap[g]? = some (.cells cur e (0, 0)) := by
  rcases h.2 with ⟨h1, _⟩ | ⟨g', cap, cur, e1, e2, e3, _⟩
  · rw [h1] at hg; simp [Value.ownBlock] at hg
  · rw [e1] at hg
    have : g' = g := by simpa [Value.ownBlock] using hg
    subst this
    exact ⟨e2, cur, e3⟩
theorem keptT_own {k : IntKind} {e : TypeId} {W W' : World} {base : Nat} {v : Value} {xs : List Int} {p : TypeId → Prop} (h : Own k e W base v xs) (hg : W.grownBy W' v.ownBlock) (hp : ¬ p e) : KeptT p W W' := fun j cs t fr hk hc => by
  refine (hg.block j (Array.getElem?_eq_some_iff.1 hc).1 (fun e1 => ?_)).trans hc
  obtain ⟨_, cur, h2⟩ := own_block_type h e1.symm
  rw [hc] at h2; injection h2 with h2; injection h2 with _ h3 _; subst h3; exact hp hk
theorem keepsOthers_own {k : IntKind} {e : TypeId} {W W' : World} {base : Nat} {v : Value} {xs : List Int} (h : Own k e W base v xs) (hg : W.grownBy W' v.ownBlock) : KeepsOthers W W' :=
  KeepsOthers.of_grownBy hg fun j o hj ho => by
    obtain ⟨_, cur, h2⟩ := own_block_type h hj
    rw [ho] at h2; injection h2 with h2; subst h2; rfl
theorem BufAt.keptT {T e : TypeId} {W W' : World} {base bb bp cap : Nat} {p q : Int} {px : List Int} (h : BufAt T e W base bb bp cap p q px) {row : Option Nat} (hg : W.grownBy W' row) (h1 : row ≠ some bb) (h2 : row ≠ some bp) : BufAt T e W' base bb bp cap p q px :=
  ⟨(hg.block bb (blk_lt h.head) (Ne.symm h1)).trans h.head, World.ownsRow.kept h.row hg (.inr (Ne.symm h2)), h.ne, h.hb, h.w1, h.w2, h.h1, h.h2, h.len, h.pix⟩
theorem Ext.grown_own {k : IntKind} {e : TypeId} {w W W' : World} {v : Value} {xs : List Int} (h : Own k e W w.heap.size v xs) (hE : Ext w W) (hg : W.grownBy W' v.ownBlock) : Ext w W' :=
  Below.grown hE hg hE.size (fun r e1 => (own_block_type h e1).1)

set_option maxHeartbeats 1000000 in
theorem part_good {w : World} {base bb bp cap : Nat} {W H : Int} {px : List Int} (hB : BufAt 117 58 w base bb bp cap W H px) (x y a b : Int) (h1 : Rect.empty ⟨x, y, a, b⟩ = false) (h2 : Rect.within ⟨x, y, a, b⟩ ⟨0, 0, W, H⟩ = true) :
    Calls Try.prog 73 #[.pointer (some ⟨bb, 0, none⟩), .agg #[.int .i64 x, .int .i64 y, .int .i64 a, .int .i64 b]] w fun e w' => ∃ g c, e = .returned (.tuple #[.agg #[.int .i64 a, .int .i64 b, .slice (some ⟨g, 0, none⟩) (partRows W ⟨x, y, a, b⟩ (List.range b.toNat) px).length c], .int .i64 0]) ∧ Own .u32 58 w' w.heap.size (.slice (some ⟨g, 0, none⟩) (partRows W ⟨x, y, a, b⟩ (List.range b.toNat) px).length c) (partRows W ⟨x, y, a, b⟩ (List.range b.toNat) px) ∧ Ext w w' := by
  have hE := ((Ext.refl w).alloc (.cells #[.int .i64 x, .int .i64 y, .int .i64 a, .int .i64 b] 26)).alloc (.cells #[.int .i64 0, .int .i64 0, .slice none 0 0] 43)
  have kR := blk_new1 w (.cells #[.int .i64 x, .int .i64 y, .int .i64 a, .int .i64 b] 26) (.cells #[.int .i64 0, .int .i64 0, .slice none 0 0] 43)
  have k0 := blk_old (blk_new w (.cells #[.int .i64 x, .int .i64 y, .int .i64 a, .int .i64 b] 26)) (.cells #[.int .i64 0, .int .i64 0, .slice none 0 0] 43)
  have j0 := After.blk k0
  have hB1 := hB.ext hE
  have he := fun w => empty_any x y a b w
  simp only [h1] at he
  have hi := fun w => in_any x y a b 0 0 W H w
  simp only [h2] at hi
  refine (callsIn_wide (n := 5)).1 ?_
  refine callsIn_of_wp_marks Try.func73 rfl trivial ?_ rfl
  simp only [Try.ntmps73, List.size_toArray, List.length_cons, List.length_nil, Nat.reduceAdd, Nat.reduceSub, Array.replicate_succ, Array.replicate_zero, List.push_toArray, List.append_toArray, List.nil_append, List.cons_append]
  gi_wp2
  refine wpIn_wide.2 ?_
  refine wp_region_after (by kernel_rfl) (by kernel_rfl) ?_
  repeat (go_big_quiet_step (first | exact Calls.after (he _) | exact Calls.after (all_any (hB1.ext (After.ext _))) | exact Calls.after (hi _)))
  refine wpQuiet_nil ?_
  intro _ hw'
  obtain ⟨q, rfl⟩ := hw'
  clear j0 he hi
  have kR' := q.ext.keep kR
  have k0' := q.ext.keep k0
  have hE2 := Ext.trans hE q.ext
  obtain ⟨c0, f0⟩ := blk_rules k0'
  have z0 := blk_lt k0'
  have z1 := blk_lt kR'
  have hB2 := hB.ext hE2
  clear kR k0 hB1 hE
  generalize q.now = w2 at *
  have hand := Rect.and_whole h1 h2
  gi_wp2_with (refine ⟨trivial, ?_⟩; gi_at_call 105; refine (callsIn_wide.2 (rows_any _ _ _ _ _ _)).mono ?_; rintro e w1 ⟨rfl, rfl⟩)
  obtain ⟨hRx, _⟩ := Rect.and_in hB.w1 hB.w2 hB.h1 hB.h2 hand
  have hne := Rect.empty_iff.1 h1
  dsimp only at hne hRx
  have hb4 : 0 ≤ x ∧ 1 ≤ a ∧ x + a ≤ W ∧ 0 ≤ y ∧ 1 ≤ b ∧ y + b ≤ H := by
    rcases hRx with hz | hz
    · injection hz with _ _ e3 _; omega
    · exact hz
  obtain ⟨r1, r2, r3, r4, r5, r6⟩ := hb4
  obtain ⟨N, hN⟩ : ∃ N : Nat, (N : Int) = b := ⟨b.toNat, by omega⟩
  have hfits : ∀ i, i < N → rowAt W ⟨x, y, a, b⟩ i + a.toNat ≤ px.length := fun i hi => rowAt_fits (R := ⟨x, y, a, b⟩) hB.w1 hB.w2 hB.h1 hB.h2 hB.len r1 r2 r3 r4 r6 (by dsimp only; omega)
  have hw256 := hB.w2
  have hh256 := hB.h2
  generalize hw3 : ((w2.alloc (.cells #[.int .i64 a, .int .i64 b, .slice none 0 0] 43)).alloc (.cells #[.pointer (some ⟨bb, 0, none⟩)] 60)).alloc (.cells #[.int .i64 x, .int .i64 y, .int .i64 a, .int .i64 b] 26) = w3
  have hE3 : Ext w2 w3 := by rw [← hw3]; exact (((Ext.refl w2).alloc _).alloc _).alloc _
  have km : w3.heap[w2.heap.size]? = some (.cells #[.int .i64 a, .int .i64 b, .slice none 0 0] 43 (0, 0)) := by rw [← hw3]; exact blk_old (blk_old (blk_new _ _) _) _
  have kb : w3.heap[w2.heap.size + 1]? = some (.cells #[.pointer (some ⟨bb, 0, none⟩)] 60 (0, 0)) := by rw [← hw3]; exact blk_old (blk_new1 _ _ _) _
  have kr : w3.heap[w2.heap.size + 1 + 1]? = some (.cells #[.int .i64 x, .int .i64 y, .int .i64 a, .int .i64 b] 26 (0, 0)) := by rw [← hw3]; exact blk_new2 _ _ _ _
  have hE4 := Ext.trans hE2 hE3
  clear hw3
  refine wpIn_rangeFunc_ownF (F := Fence.wide) (n := 5) (α := Fin N) rfl (by decide) (gf := 127) (lb := #[.pointer (some ⟨w2.heap.size + 1 + 1, 0, none⟩), .pointer (some ⟨w2.heap.size + 1, 0, none⟩)]) rfl trivial (enters_of Try.func127 (by kernel_rfl) rfl)
    (encs := fun i => rowArgs bp W ⟨x, y, a, b⟩ i.val) (Kp := KeptT (fun t => t ≠ 58 ∧ t ≠ 43)) (S := fun ys => ys.map Fin.val = List.range N) (Sp := fun _ => True) (N := N) (w0 := w3) ?seq KeptT.trans (fun W l o o' _ h ho _ => keptT_b _ W l o o' h ho) (Below.refl _ _) (fun _ => rfl)
    (fun pre W1 => (∃ v, W1.heap[w2.heap.size]? = some (.cells #[.int .i64 a, .int .i64 b, v] 43 (0, 0)) ∧ Own .u32 58 W1 w.heap.size v (partRows W ⟨x, y, a, b⟩ (pre.map Fin.val) px)) ∧ BufAt 117 58 W1 base bb bp cap W H px ∧ W1.heap[w.heap.size + 1]? = some (.cells #[.int .i64 0, .int .i64 0, .slice none 0 0] 43 (0, 0)) ∧ Ext w W1)
    (fun _ _ _ => False)
    (fun s A B row hs hg hr => ⟨(by obtain ⟨v, h1, h2⟩ := hs.1; exact ⟨v, heap_turn hg (fun r e => (hr r e).2) h1, own_turn hg (fun r e => (hr r e).2) h2⟩), hs.2.1.turn hg (fun r e => (hr r e).2), heap_turn hg (fun r e => (hr r e).2) hs.2.2.1, Below.grown hs.2.2.2 hg hs.2.2.2.size (fun r e => Nat.le_trans hE4.size (hr r e).1)⟩)
    (fun _ _ _ _ _ hs _ _ => hs)
    ⟨⟨_, km, World.ownsRow_nil _ _ _ _⟩, hB2.ext hE3, hE3.keep kR', hE4⟩
    (fun i => { tmps := #[.pointer (some ⟨bb, 0, none⟩), .agg #[.int .i64 x, .int .i64 y, .int .i64 a, .int .i64 b], undef, .pointer (some ⟨w.heap.size, 0, none⟩), .pointer (some ⟨w.heap.size + 1, 0, none⟩), .int .i64 0, .pointer (some ⟨w2.heap.size, 0, none⟩), undef, .slice (some ⟨bp, rowAt W ⟨x, y, a, b⟩ i.val, none⟩) a.toNat a.toNat, .bool false, .pointer (some ⟨bb, 0, none⟩), .bool false, undef, .bool false, .agg #[.int .i64 x, .int .i64 y, .int .i64 a, .int .i64 b], .bool false, .bool false, .agg #[.int .i64 x, .int .i64 y, .int .i64 a, .int .i64 b], .pointer (some ⟨bb, 0, none⟩), .agg #[.int .i64 0, .int .i64 0, .int .i64 W, .int .i64 H], .bool true, .bool false, .bool false, undef, .pointer (some ⟨w.heap.size, 2, none⟩), .int .i64 a, .pointer (some ⟨w.heap.size, 3, none⟩), .int .i64 b, .agg #[.int .i64 a, .int .i64 b, .slice none 0 0], .pointer (some ⟨bb, 0, none⟩), .agg #[.int .i64 x, .int .i64 y, .int .i64 a, .int .i64 b], .func (.func 127) #[] #[.pointer (some ⟨w2.heap.size + 1 + 1, 0, none⟩), .pointer (some ⟨w2.heap.size + 1, 0, none⟩)], .int .i64 (y + i.val), .slice (some ⟨bp, rowAt W ⟨x, y, a, b⟩ i.val, none⟩) a.toNat a.toNat, undef, undef, undef, undef, undef, undef], defers := [] }) ?assign ?body ?done ?stop
  case seq =>
    intro l J Jx W1 hW hJ _ hY h0
    refine (rows1_in 4 (by decide) l _ _ base bb bp cap W H px x y a b N (by rw [hand]; exact hN) J Jx W1 (fun t => t ≠ 58 ∧ t ≠ 43) (by decide) (by decide) (by decide) hJ (by rw [hand]; exact hY) ((hB2.ext hE3).ext hW) (Ext.keep hW kb) (Ext.keep hW kr) h0).mono ?_
    rintro e W' ⟨he, ⟨ys, h1, h2⟩ | ⟨pre, h2⟩⟩
    · exact ⟨he, .inl ⟨ys, h1, h2⟩⟩
    · exact ⟨he, .inr ⟨pre, trivial, h2⟩⟩
  case assign =>
    intro l i W1 K hK
    dsimp only [rowArgs]
    gi_wp2
    exact hK
  case done =>
    rintro D ys W1 hD hys ⟨⟨v, h1, h2⟩, h3, h4, h5⟩ hK
    have hNn : b.toNat = N := by omega
    rw [hys] at h2
    obtain ⟨Q, hQ⟩ : ∃ Q, partRows W ⟨x, y, a, b⟩ (List.range N) px = Q := ⟨_, rfl⟩
    rw [hQ] at h2
    have hQ0 : 0 < Q.length := by
      rw [← hQ, partRows_length (fun j hj => hfits j (List.mem_range.1 hj)), List.length_range]
      exact Nat.mul_pos (by omega) (by dsimp only; omega)
    obtain ⟨g', c', rfl, hgb, hgl⟩ := World.ownsRow.form h2 hQ0
    obtain ⟨c1, f1⟩ := blk_rules h1
    obtain ⟨c2, f2⟩ := blk_rules h4
    have hne1 : g' ≠ w.heap.size + 1 := fun e => by
      obtain ⟨cur, hh⟩ := own_type h2
      rw [e, h4] at hh; injection hh with hh; injection hh with _ hh _; exact absurd hh (by decide)
    gi_wp2
    have hDn : D ≠ w.heap.size + 1 := fun e => by
      rw [e, h4] at hK; injection hK with hK; cases hK
    have hK' := blk_set_ne (blk_set_ne (blk_set_ne hK hDn 0 (.int .i64 a)) hDn 1 (.int .i64 b)) hDn 2 (.slice (some ⟨g', 0, none⟩) Q.length c')
    have o1 := own_set_ne (own_set_ne (own_set_ne h2 hne1 0 (.int .i64 a)) hne1 1 (.int .i64 b)) hne1 2 (.slice (some ⟨g', 0, none⟩) Q.length c')
    have o2 := ((h5.set (p := ⟨w.heap.size + 1, 0, none⟩) (Nat.le_succ _) (.int .i64 a)).set (p := ⟨w.heap.size + 1, 1, none⟩) (Nat.le_succ _) (.int .i64 b)).set (p := ⟨w.heap.size + 1, 2, none⟩) (Nat.le_succ _) (.slice (some ⟨g', 0, none⟩) Q.length c')
    have o3 := blk_set (blk_set (blk_set h4 0 (.int .i64 a)) 1 (.int .i64 b)) 2 (.slice (some ⟨g', 0, none⟩) Q.length c')
    refine ⟨by simp, .inl ⟨_, _, rfl, run_takeDeferred hK', ?_⟩⟩
    have hg := grownBy_putObj' (((W1.setCell ⟨w.heap.size + 1, 0, none⟩ (.int .i64 a)).setCell ⟨w.heap.size + 1, 1, none⟩ (.int .i64 b)).setCell ⟨w.heap.size + 1, 2, none⟩ (.slice (some ⟨g', 0, none⟩) Q.length c')) D (.deferred none)
    have hr : ∀ r, some D = some r → ∃ o : Obj, (((W1.setCell ⟨w.heap.size + 1, 0, none⟩ (.int .i64 a)).setCell ⟨w.heap.size + 1, 1, none⟩ (.int .i64 b)).setCell ⟨w.heap.size + 1, 2, none⟩ (.slice (some ⟨g', 0, none⟩) Q.length c')).heap[r]? = some o ∧ o.isCells = false := fun r e => by cases e; exact ⟨_, hK', rfl⟩
    obtain ⟨c3, f3⟩ := blk_rules (heap_turn hg hr o3)
    refine ⟨.tuple #[.agg #[.int .i64 a, .int .i64 b, .slice (some ⟨g', 0, none⟩) Q.length c'], .int .i64 0], by simp only [results, Try.results73]; go_simp; done, ⟨g', c', rfl, own_turn hg hr o1, Below.grown o2 hg o2.size (fun r e => by cases e; exact Nat.le_trans hE4.size hD)⟩⟩
  case stop =>
    rintro D c pre W1 _ _ h _
    exact h.elim
  case body =>
    rintro l pre i W1 ⟨⟨v, h1, h2⟩, h3, h4, h5⟩ hpre
    have hi := i.isLt
    have hrow := hfits i.val hi
    have hpl : pre.length ≤ N := Nat.le_of_lt hpre
    have hrows : (partRows W ⟨x, y, a, b⟩ (pre.map Fin.val) px).length ≤ 65536 := by
      rw [partRows_length (fun j hj => by
        obtain ⟨q, _, rfl⟩ := List.mem_map.1 hj
        exact hfits q.val q.isLt), List.length_map]
      have : pre.length * a.toNat ≤ 256 * 256 := Nat.mul_le_mul (by omega) (by omega)
      exact this
    have hsnoc : partRows W ⟨x, y, a, b⟩ ((pre ++ [i]).map Fin.val) px = partRows W ⟨x, y, a, b⟩ (pre.map Fin.val) px ++ (px.drop (rowAt W ⟨x, y, a, b⟩ i.val)).take a.toNat := by
      rw [List.map_append, List.map_cons, List.map_nil, partRows_snoc]
    have hlt : ((px.drop (rowAt W ⟨x, y, a, b⟩ i.val)).take a.toNat).length = a.toNat := by simp; omega
    have hne4 : v.ownBlock ≠ some w2.heap.size := fun e => by
      obtain ⟨_, cur, hh⟩ := own_block_type h2 e
      rw [h1] at hh; injection hh with hh; injection hh with _ hh _; exact absurd hh (by decide)
    have hne5 : v.ownBlock ≠ some (w.heap.size + 1) := fun e => by
      obtain ⟨_, cur, hh⟩ := own_block_type h2 e
      rw [h4] at hh; injection hh with hh; injection hh with _ hh _; exact absurd hh (by decide)
    have hne6 : v.ownBlock ≠ some bb := fun e => by
      obtain ⟨_, cur, hh⟩ := own_block_type h2 e
      rw [h3.head] at hh; injection hh with hh; injection hh with _ hh _; exact absurd hh (by decide)
    have hne7 : v.ownBlock ≠ some bp := fun e => by
      have := (own_block_type h2 e).1
      have hbpl : bp < w.heap.size := (World.ownsRow.lt hB.row bp (by simp [Value.ownBlock])).2
      omega
    obtain ⟨Q, hQ⟩ : ∃ Q, partRows W ⟨x, y, a, b⟩ (pre.map Fin.val) px = Q := ⟨_, rfl⟩
    rw [hQ] at hsnoc h2 hrows
    obtain ⟨Q', hQ'⟩ : ∃ Q', partRows W ⟨x, y, a, b⟩ ((pre ++ [i]).map Fin.val) px = Q' := ⟨_, rfl⟩
    rw [hQ'] at hsnoc
    obtain ⟨f, hf⟩ : ∃ f, rowAt W ⟨x, y, a, b⟩ i.val = f := ⟨_, rfl⟩
    simp only [hf, hQ'] at hrow hsnoc hlt ⊢
    obtain ⟨c1, f1⟩ := blk_rules h1
    have hsz := h5.size
    have HQ := Lib.hid hQ'
    clear hpre hQ hQ' hf
    gi_wp2_with (gi_at_builtin; (refine wpListIn_app w.heap.size rfl (.tmp 35) (.tmp 36) 41 58 (.int .u32 0) 1 4 rfl (by kernel_rfl) info_u32 rfl (by decide) (by decide) v _ _ rfl h2 _ a.toNat _ (nums .u32 ((px.drop f).take a.toNat)) rfl (fun h => by cases h) (by rw [nums_length, hlt, Nat.mul_one]) (h3.shows (by omega)) nums_one (by omega) (by omega) ?_; intro v' W2 hown hg; obtain ⟨g', c', rfl, hgb, hgl⟩ := World.ownsRow.form hown (by omega); obtain ⟨c2, f2⟩ := blk_rules ((hg.block w2.heap.size (blk_lt h1) (Ne.symm hne4)).trans h1)))
    have hm2 := (hg.block w2.heap.size (blk_lt h1) (Ne.symm hne4)).trans h1
    have hown' : Own .u32 58 W2 w.heap.size (.slice (some ⟨g', 0, none⟩) Q'.length c') Q' := by
      unfold Own
      rw [hsnoc, List.length_append, hlt]
      have : nums .u32 (Q ++ (px.drop f).take a.toNat) = nums .u32 Q ++ nums .u32 ((px.drop f).take a.toNat) := by simp [nums]
      rw [this]
      exact hown
    have hgm : g' ≠ w2.heap.size := fun e => by
      obtain ⟨cur, hh⟩ := own_type hown'
      rw [e, hm2] at hh; injection hh with hh; injection hh with _ hh _; exact absurd hh (by decide)
    have hbp2 : bp ≠ w2.heap.size := fun e => by
      obtain ⟨cur, hh⟩ := own_type h3.row
      rw [e, h1] at hh; injection hh with hh; injection hh with _ hh _; exact absurd hh (by decide)
    have hbb2 : bb ≠ w2.heap.size := fun e => by
      have hh := h3.head
      rw [e, h1] at hh; injection hh with hh; injection hh with _ hh _; exact absurd hh (by decide)
    have hlq : Q.length + a.toNat = Q'.length := by rw [hsnoc, List.length_append, hlt]
    have hB3 := h3.keptT hg hne6 hne7
    have hE5 := Ext.grown_own h2 h5 hg
    have hc4 := (hg.block (w.heap.size + 1) (blk_lt h4) (Ne.symm hne5)).trans h4
    refine ⟨(keepsOthers_own h2 hg).trans (KeepsOthers.setCell _ _ _), (keptT_own h2 hg (by simp)).trans (KeptT.set hm2 (by simp) _ _), ⟨_, blk_set hm2 2 _, ?_⟩, ?_, blk_set_ne hc4 ?_ _ _, hE5.set ?_ _⟩
    · rw [hlq, HQ.out]
      exact own_set_ne hown' hgm _ _
    · exact ⟨blk_set_ne hB3.head hbb2 _ _, own_set_ne hB3.row hbp2 _ _, hB3.ne, hB3.hb, hB3.w1, hB3.w2, hB3.h1, hB3.h2, hB3.len, hB3.pix⟩
    · intro e
      rw [e] at z1
      omega
    · show w.heap.size ≤ w2.heap.size
      exact hE2.size
end Go.Proofs.Ytjghghbldifhaaa
