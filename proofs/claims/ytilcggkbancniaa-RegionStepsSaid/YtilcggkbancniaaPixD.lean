/- The walks of package pixbuf, the fourth part: rows. -/
import Derived.Test.YtilcggkbancniaaPixC
import Derived.Test.YtilcggkbancniaaSeq
set_option linter.unusedVariables false
set_option linter.unusedSimpArgs false
namespace Go.Proofs.Ytilcggkbancniaa
open Go.RowKit Go.Shelf
attribute [local go_sem] Oper.semAt_some

set_option maxHeartbeats 1000000 in
theorem rows_any (p : Option Addr) (x y a b : Int) (w : World) :
    Calls Try.prog 74 #[.pointer p, .agg #[.int .i64 x, .int .i64 y, .int .i64 a, .int .i64 b]] w fun e w' =>
      e = .returned (.func (.func 104) #[] #[.pointer (some ⟨w.heap.size + 1, 0, none⟩), .pointer (some ⟨w.heap.size, 0, none⟩)]) ∧ (w.alloc (.cells #[.pointer p] 28)).alloc (.cells #[.int .i64 x, .int .i64 y, .int .i64 a, .int .i64 b] 38) = w' := by
  go_enter Try.func74, Try.ntmps74
  go_wp2
  go_ret
  exact ⟨rfl, rfl⟩

/-- Where row i of a part of a picture begins. -/
def rowAt (W : Int) (R : Rect) (i : Nat) : Nat := ((R.y + i) * W + R.x).toNat
/-- A row that the iterator hands on: its place down, and the pixels' part. -/
def rowArgs (bp : Nat) (W : Int) (R : Rect) (i : Nat) : Array Value := #[.int .i64 (R.y + i), .slice (some ⟨bp, rowAt W R i, none⟩) R.w.toNat R.w.toNat]

set_option maxRecDepth 100000 in
set_option maxHeartbeats 2000000 in
theorem rows1_in (n : Nat) (hn : 1 ≤ n) (l B0 B1 base bb bp cap : Nat) (W H : Int) (px : List Int) (x y a b : Int) (N : Nat) (hN : (N : Int) = (Rect.and ⟨x, y, a, b⟩ ⟨0, 0, W, H⟩).h) (J Jx : List (Fin N) → World → Prop) (w : World) (p : TypeId → Prop) (hp1 : p 28) (hp2 : p 38) (hp3 : p 90)
    (hJ : AbidesFrom w.heap.size J)
    (hY : ∀ (pre : List (Fin N)) (i : Fin N) (W1 : World), J pre W1 → pre.length < N → YieldAt Fence.wide (n - 1) Try.prog l (rowArgs bp W (Rect.and ⟨x, y, a, b⟩ ⟨0, 0, W, H⟩) i.val) W1 fun e W' =>
      (e = .returned (.bool true) ∧ J (pre ++ [i]) W' ∧ KeptT p W1 W') ∨ (e = .returned (.bool false) ∧ Jx (pre ++ [i]) W'))
    (hB : BufAt 90 35 w base bb bp cap W H px) (k0 : w.heap[B0]? = some (.cells #[.pointer (some ⟨bb, 0, none⟩)] 28 (0, 0))) (k1 : w.heap[B1]? = some (.cells #[.int .i64 x, .int .i64 y, .int .i64 a, .int .i64 b] 38 (0, 0)))
    (h0 : J [] w) :
    CallsIn Fence.wide n Try.prog 104 #[.func (.yield l) #[] #[], .pointer (some ⟨B1, 0, none⟩), .pointer (some ⟨B0, 0, none⟩)] w fun e W' => (∃ v, e = .returned v) ∧
      ((∃ ys : List (Fin N), ys.map Fin.val = List.range N ∧ J ys W') ∨ (∃ pre : List (Fin N), Jx pre W')) := by
  refine callsIn_of_wp Try.func104 rfl trivial ?_ rfl
  simp only [Try.ntmps104, List.size_toArray, List.length_cons, List.length_nil, Nat.reduceAdd, Nat.reduceSub, Array.replicate_succ, Array.replicate_zero, List.push_toArray, List.append_toArray, List.nil_append, List.cons_append]
  obtain ⟨R, hR⟩ : ∃ R, Rect.and ⟨x, y, a, b⟩ ⟨0, 0, W, H⟩ = R := ⟨_, rfl⟩
  have hand := fun w : World => and_any x y a b 0 0 W H w
  simp only [hR] at hand hN hY ⊢
  gi_wp2
  refine wpIn_mono (Q := fun e a' w' => e = .normal ∧ ∃ B, a' = { tmps := #[.func (.yield l) #[] #[], .pointer (some ⟨B1, 0, none⟩), .pointer (some ⟨B0, 0, none⟩), undef, .pointer (some ⟨B, 0, none⟩), undef, undef, undef, .agg #[.int .i64 x, .int .i64 y, .int .i64 a, .int .i64 b], .pointer (some ⟨bb, 0, none⟩), .agg #[.int .i64 0, .int .i64 0, .int .i64 W, .int .i64 H], .agg #[.int .i64 R.x, .int .i64 R.y, .int .i64 R.w, .int .i64 R.h], undef, undef, undef, undef, undef, undef, undef, undef, undef, undef, undef, undef, undef, undef, undef, undef, undef, undef, undef, undef, undef, undef, undef, undef, undef, undef, undef, undef, undef, undef, undef, undef, undef, undef, undef, undef], defers := [] } ∧ w'.heap[B]? = some (.cells #[.int .i64 R.x, .int .i64 R.y, .int .i64 R.w, .int .i64 R.h] 38 (0, 0)) ∧ Ext w w' ∧ w.heap.size ≤ B) (wpIn_wide.2 ?_) ?_
  · clear hJ hY hN h0 hp1 hp2 hp3
    obtain ⟨c0, f0⟩ := blk_rules k0
    obtain ⟨c1, f1⟩ := blk_rules k1
    have z0 := blk_lt k0
    have z1 := blk_lt k1
    have sx : ∀ w', Ext w w' → Ext w w' ∧ w'.cell? ⟨B1, 0, none⟩ = some (.int .i64 x) ∧ w'.cell? ⟨B1, 1, none⟩ = some (.int .i64 y) ∧ w'.cell? ⟨B1, 2, none⟩ = some (.int .i64 a) ∧ w'.cell? ⟨B1, 3, none⟩ = some (.int .i64 b) ∧ w'.cell? ⟨B0, 0, none⟩ = some (.pointer (some ⟨bb, 0, none⟩)) := fun w' h => ⟨h, h.cellOf (c1 0), h.cellOf (c1 1), h.cellOf (c1 2), h.cellOf (c1 3), h.cellOf (c0 0)⟩
    go_region_held3 (fun w' => Ext w w' ∧ w'.cell? ⟨B1, 0, none⟩ = some (.int .i64 x) ∧ w'.cell? ⟨B1, 1, none⟩ = some (.int .i64 y) ∧ w'.cell? ⟨B1, 2, none⟩ = some (.int .i64 a) ∧ w'.cell? ⟨B1, 3, none⟩ = some (.int .i64 b) ∧ w'.cell? ⟨B0, 0, none⟩ = some (.pointer (some ⟨bb, 0, none⟩))) ((refine sx _ ?_; first | exact hE2 | exact hE1 | exact (Ext.refl w).drew | (repeat' (first | exact And.left (by assumption) | exact hE2 | exact hE1 | refine Ext.alloc ?_ _ | refine Ext.set ?_ ?_ _ | refine Ext.drew ?_ | exact Ext.refl w | exact Nat.le_refl _ | exact hE2.size | exact hE1.size | (simp; done))))) (first | (go_at_call 76; refine (all_any (hB.ext (And.left (by assumption)))).mono ?_; rintro e w1 ⟨rfl, hb⟩; have hE1 : Ext w w1 := Ext.trans (And.left (by assumption)) hb) | (go_at_call 75; refine (hand _).mono ?_; rintro e w2 ⟨rfl, hb2⟩; have hE2 : Ext w w2 := Ext.trans (And.left (by assumption)) hb2; (first | (have kB := hb2.keep (hb.keep (blk_new w _)); obtain ⟨d2, g2⟩ := blk_rules kB) | (have kB := hb2.keep (blk_new w1 _); obtain ⟨d2, g2⟩ := blk_rules kB) | skip)))
    all_goals
      refine ⟨rfl, _, rfl, ?_, ?_, ?_⟩
      · first
          | simpa using blk_set (blk_set (blk_set (blk_set kB 0 (.int .i64 R.x)) 1 (.int .i64 R.y)) 2 (.int .i64 R.w)) 3 (.int .i64 R.h)
          | exact blk_new w2 _
      · repeat' (first | exact hE2 | refine Ext.alloc ?_ _ | refine Ext.set ?_ ?_ _ | refine Ext.drew ?_ | exact Nat.le_refl _ | exact hE2.size | exact hE1.size)
      · first | exact Nat.le_refl _ | exact hE2.size | exact hE1.size
  · rintro e a' w2 ⟨rfl, B, rfl, kB, hE, hBlt⟩
    obtain ⟨hRx, hRy⟩ := Rect.and_in hB.w1 hB.w2 hB.h1 hB.h2 hR
    have hk1 := hE.keep hB.head
    have hk0 := hE.keep k0
    replace h0 := abides_ext hJ h0 hE
    have hcap : (px.length : Int) ≤ cap ∧ cap ≤ 9223372036854775807 := by
      obtain ⟨A, c, hv, _, h1, h2⟩ := hB.row.reads
      injection hv with e1 e2 e3
      subst e3
      simp only [maxLen] at h2
      omega
    obtain ⟨hcap1, hcap2⟩ := hcap
    have hlen := hB.len
    have hw1 := hB.w1
    have hw2 := hB.w2
    have hh1 := hB.h1
    have hh2 := hB.h2
    obtain ⟨cB, fB⟩ := blk_rules kB
    clear hB k0 k1 hand
    gi_wp2
    clear cB fB
    gi_loopw [5] (fun i wr => ∃ (k : Nat) (pre : List (Fin N)), k ≤ N ∧ i = .int .i64 (R.y + k) ∧ pre.map Fin.val = List.range k ∧ J pre wr ∧ wr.heap[B]? = some (.cells #[.int .i64 R.x, .int .i64 R.y, .int .i64 R.w, .int .i64 R.h] 38 (0, 0)) ∧ wr.heap[B0]? = some (.cells #[.pointer (some ⟨bb, 0, none⟩)] 28 (0, 0)) ∧ wr.heap[bb]? = some (.cells #[.int .i64 W, .int .i64 H, .slice (some ⟨bp, 0, none⟩) px.length cap] 90 (0, 0)))
      (fun i _ => N - (intOf i - R.y).toNat)
    case atStart => exact ⟨0, [], Nat.zero_le _, by simp, rfl, h0, kB, hk0, hk1⟩
    case round =>
      clear h0 kB hk0 hk1 hE
      obtain ⟨k, pre, hk, rfl, hpre, hJs, kB, hk0, hk1⟩ := hrel
      obtain ⟨cB, fB⟩ := blk_rules kB
      obtain ⟨c0, f0⟩ := blk_rules hk0
      obtain ⟨c1, f1⟩ := blk_rules hk1
      have Hpre := Lib.hid hpre
      have HN := Lib.hid hN
      clear hpre hN
      by_cases hlt : k < N
      · have hlt' : R.y + (k : Int) < R.y + R.h := by have := HN.out; omega
        rcases hRx with hz | ⟨r1, r2, r3, r4, r5, r6⟩
        · subst hz; simp [Rect.zero] at hlt'; omega
        · obtain ⟨m1, m2, m3⟩ := place_bd hw1 hw2 hh1 hh2 (x := R.x) (y := R.y + k) (by omega) (by omega) (by omega) (by omega)
          obtain ⟨m4, m5, m6⟩ := place_bd hw1 hw2 hh1 hh2 (x := R.x + R.w - 1) (y := R.y + k) (by omega) (by omega) (by omega) (by omega)
          have q3 : 0 ≤ (R.y + (k : Int)) * W + R.x := by omega
          have q2 : IntKind.i64.wrap ((R.y + (k : Int)) * W + R.x) = (R.y + (k : Int)) * W + R.x := IntWalk.i64_in _ (by omega)
          have q1 : IntKind.i64.wrap ((R.y + (k : Int)) * W) = (R.y + (k : Int)) * W := IntWalk.i64_in _ (by omega)
          have q4 : (R.y + (k : Int)) * W + R.x + R.w ≤ px.length := by omega
          clear HN m4 m5 m6 m3
          gi_wp2
          refine wpIn_wide.2 ?_
          go_quiet (fail)
          clear q1 q2
          replace hJs : J pre (wr.drewN nq) := abides_ext hJ hJs ((Ext.refl wr).drewN nq)
          obtain ⟨fn, tmps, assign, body, hy, hRd⟩ := hY pre ⟨k, hlt⟩ (wr.drewN nq) hJs (by have := congrArg List.length Hpre.out; simp at this; omega)
          dsimp only [rowArgs, rowAt] at hy
          have q5 : (((R.y + (k : Int)) * W + R.x + R.w).toNat - ((R.y + (k : Int)) * W + R.x).toNat) = R.w.toNat := by omega
          gi_wp2
          refine hRd.mono ?_
          rintro e W3 (⟨rfl, hJ3, hk3⟩ | ⟨rfl, hJx3⟩)
          · have kB' := hk3 _ _ _ _ hp2 kB
            have hk0' := hk3 _ _ _ _ hp1 hk0
            have hk1' := hk3 _ _ _ _ hp3 hk1
            gi_wp2
            go_roundw
            case rel => exact ⟨k + 1, pre ++ [⟨k, hlt⟩], by omega, by go_num, by rw [List.map_append, Hpre.out, List.range_succ]; rfl, hJ3, kB', hk0', hk1'⟩
            case measure => simp [intOf]; omega
          · gi_wp2
            refine bodyPost_ret (results_none rfl _ _ _) rfl ?_
            exact ⟨⟨_, rfl⟩, .inr ⟨_, hJx3⟩⟩
      · obtain rfl : k = N := by omega
        have hge : R.h ≤ (k : Int) := by have := HN.out; omega
        have hge2 : decide (R.y + (k : Int) < R.y + R.h) = false := by simp; omega
        have hyb : 0 ≤ R.y ∧ R.y + R.h ≤ 256 := by rcases hRx with hz | hz; (rw [hz]; simp [Rect.zero]); omega
        obtain ⟨hyb1, hyb2⟩ := hyb
        gi_wp2
        go_end0
        exact ⟨⟨_, rfl⟩, .inl ⟨pre, Hpre.out, hJs⟩⟩
end Go.Proofs.Ytilcggkbancniaa
