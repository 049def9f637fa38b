/- The walks of package pixbuf, the fifth part: Fill. -/
import Derived.Test.YtilcggkbancniaaPixD
set_option linter.unusedVariables false
set_option linter.unusedSimpArgs false
namespace Go.Proofs.Ytilcggkbancniaa
open Go.RowKit Go.Shelf
attribute [local go_sem] Oper.semAt_some

/-- Pixels k of a row from place f on, set to v. -/
def fillRow (f : Nat) (v : Int) (k : Nat) (px : List Int) : List Int := (List.range k).foldl (fun p j => p.set (f + j) v) px
theorem fillRow_succ (f : Nat) (v : Int) (k : Nat) (px : List Int) : fillRow f v (k + 1) px = (fillRow f v k px).set (f + k) v := by
  simp [fillRow, List.range_succ, List.foldl_append]
theorem fillRow_length (f : Nat) (v : Int) (k : Nat) (px : List Int) : (fillRow f v k px).length = px.length := by
  induction k with
  | zero => rfl
  | succ k ih => rw [fillRow_succ, List.length_set, ih]
def fillRows (W : Int) (R : Rect) (v : Int) (l : List Nat) (px : List Int) : List Int := l.foldl (fun p i => fillRow (rowAt W R i) v R.w.toNat p) px
theorem fillRows_snoc (W : Int) (R : Rect) (v : Int) (l : List Nat) (i : Nat) (px : List Int) : fillRows W R v (l ++ [i]) px = fillRow (rowAt W R i) v R.w.toNat (fillRows W R v l px) := by
  simp [fillRows, List.foldl_append]
theorem fillRows_length (W : Int) (R : Rect) (v : Int) (l : List Nat) (px : List Int) : (fillRows W R v l px).length = px.length := by
  induction l generalizing px with
  | nil => rfl
  | cons i l ih => simp only [fillRows, List.foldl_cons] at ih ⊢; rw [ih, fillRow_length]

/-- What is no block of the buffer's is turned: the buffer stands. -/
theorem heap_turn {W W' : World} {row : Option Nat} (hg : W.grownBy W' row) (hr : ∀ r, row = some r → ∃ o : Obj, W.heap[r]? = some o ∧ o.isCells = false) {k : Nat} {cs : Array Value} {t : TypeId} {fr : Nat × Nat} (h : W.heap[k]? = some (.cells cs t fr)) : W'.heap[k]? = some (.cells cs t fr) :=
  (hg.block k (Array.getElem?_eq_some_iff.1 h).1 (fun e => by
    obtain ⟨o, ho, hc⟩ := hr k e.symm
    rw [h] at ho
    injection ho with ho
    subst ho
    cases hc)).trans h
theorem own_turn {k : IntKind} {e : TypeId} {W W' : World} {base : Nat} {v : Value} {xs : List Int} {row : Option Nat} (hg : W.grownBy W' row) (hr : ∀ r, row = some r → ∃ o : Obj, W.heap[r]? = some o ∧ o.isCells = false) (h : Own k e W base v xs) : Own k e W' base v xs := by
  obtain ⟨h1, h2⟩ := h
  refine ⟨h1, ?_⟩
  rcases h2 with h2 | ⟨g, cap, cur, e1, e2, e3, e4⟩
  · exact .inl h2
  · exact .inr ⟨g, cap, cur, e1, e2, heap_turn hg hr e3, e4⟩
theorem BufAt.turn {T e : TypeId} {W W' : World} {base bb bp cap : Nat} {p q : Int} {px : List Int} (h : BufAt T e W base bb bp cap p q px) {row : Option Nat} (hg : W.grownBy W' row) (hr : ∀ r, row = some r → ∃ o : Obj, W.heap[r]? = some o ∧ o.isCells = false) : BufAt T e W' base bb bp cap p q px :=
  ⟨heap_turn hg hr h.head, own_turn hg hr h.row, h.ne, h.hb, h.w1, h.w2, h.h1, h.h2, h.len, h.pix⟩
/-- A turn of a block that is new. -/
theorem grown_turn {w W W' : World} {g B : Nat} {row : Option Nat} (h : w.grownBy W (some g)) (hg : W.grownBy W' row) (hB : w.heap.size ≤ B) (hr : ∀ r, row = some r → B ≤ r) : w.grownBy W' (some g) :=
  ⟨hg.os.trans h.os, hg.tape.trans h.tape, hg.output.trans h.output, Nat.le_trans h.size hg.size, fun k hk hn => (hg.block k (Nat.lt_of_lt_of_le hk h.size) (fun e => by have := hr k e.symm; omega)).trans (h.block k hk hn)⟩

set_option maxHeartbeats 1000000 in
theorem fill_any {w : World} {base bb bp cap : Nat} {W H : Int} {px : List Int} (hB : BufAt 90 35 w base bb bp cap W H px) (x y a b c : Int) (hc0 : 0 ≤ c) (hc1 : c ≤ 4294967295) :
    Calls Try.prog 26 #[.pointer (some ⟨bb, 0, none⟩), .agg #[.int .i64 x, .int .i64 y, .int .i64 a, .int .i64 b], .int .u32 c] w fun e w' => e = .returned (.tuple #[]) ∧ BufAt 90 35 w' base bb bp cap W H (fillRows W (Rect.and ⟨x, y, a, b⟩ ⟨0, 0, W, H⟩) (cut24 c) (List.range (Rect.and ⟨x, y, a, b⟩ ⟨0, 0, W, H⟩).h.toNat) px) ∧ w.grownBy w' (some bp) := by
  refine (callsIn_wide (n := 5)).1 ?_
  refine callsIn_of_wp_marks Try.func26 rfl trivial ?_ rfl
  simp only [Try.ntmps26, List.size_toArray, List.length_cons, List.length_nil, Nat.reduceAdd, Nat.reduceSub, Array.replicate_succ, Array.replicate_zero, List.push_toArray, List.append_toArray, List.nil_append, List.cons_append]
  gi_wp2_with (refine ⟨trivial, ?_⟩; gi_at_call 74; refine (callsIn_wide.2 (rows_any _ _ _ _ _ _)).mono ?_; rintro e w1 ⟨rfl, rfl⟩)
  obtain ⟨R, hR⟩ : ∃ R, Rect.and ⟨x, y, a, b⟩ ⟨0, 0, W, H⟩ = R := ⟨_, rfl⟩
  obtain ⟨hRx, hRy⟩ := Rect.and_in hB.w1 hB.w2 hB.h1 hB.h2 hR
  obtain ⟨N, hN⟩ : ∃ N : Nat, (N : Int) = R.h := ⟨R.h.toNat, by omega⟩
  generalize hw3 : ((((w.alloc (.cells #[.int .i64 x, .int .i64 y, .int .i64 a, .int .i64 b] 38)).alloc (.cells #[.int .u32 c] 35)).alloc (.cells #[.pointer (some ⟨bb, 0, none⟩)] 28)).alloc (.cells #[.int .i64 x, .int .i64 y, .int .i64 a, .int .i64 b] 38)) = w3
  have hE3 : Ext w w3 := by rw [← hw3]; exact ((((Ext.refl w).alloc _).alloc _).alloc _).alloc _
  have kc : w3.heap[w.heap.size + 1]? = some (.cells #[.int .u32 c] 35 (0, 0)) := by rw [← hw3]; exact blk_old (blk_old (blk_new1 _ _ _) _) _
  have kb : w3.heap[w.heap.size + 1 + 1]? = some (.cells #[.pointer (some ⟨bb, 0, none⟩)] 28 (0, 0)) := by rw [← hw3]; exact blk_old (blk_new2 _ _ _ _) _
  have kr : w3.heap[w.heap.size + 1 + 1 + 1]? = some (.cells #[.int .i64 x, .int .i64 y, .int .i64 a, .int .i64 b] 38 (0, 0)) := by rw [← hw3]; exact blk_new3 _ _ _ _ _
  have hs3 : w.heap.size + 4 = w3.heap.size := by rw [← hw3]; simp
  have hbpl : bp < w.heap.size := (World.ownsRow.lt hB.row bp (by simp [Value.ownBlock])).2
  have HS := Lib.hid hs3
  clear hw3 hs3
  refine wpIn_rangeFunc_ownF (F := Fence.wide) (n := 5) (α := Fin N) rfl (by decide) (gf := 104) (lb := #[.pointer (some ⟨w.heap.size + 1 + 1 + 1, 0, none⟩), .pointer (some ⟨w.heap.size + 1 + 1, 0, none⟩)]) rfl trivial (enters_of Try.func104 (by kernel_rfl) rfl)
    (encs := fun i => rowArgs bp W R i.val) (Kp := KeptT (· ≠ 35)) (S := fun ys => ys.map Fin.val = List.range N) (Sp := fun _ => True) (N := N) (w0 := w3) ?seq KeptT.trans (fun W l o o' _ h ho _ => keptT_b _ W l o o' h ho) (Below.refl _ _) (fun _ => rfl)
    (fun pre W1 => BufAt 90 35 W1 base bb bp cap W H (fillRows W R (cut24 c) (pre.map Fin.val) px) ∧ W1.heap[w.heap.size + 1]? = some (.cells #[.int .u32 c] 35 (0, 0)) ∧ w.grownBy W1 (some bp))
    (fun _ _ _ => False)
    (fun s A B row hs hg hr => ⟨hs.1.turn hg (fun r e => (hr r e).2), heap_turn hg (fun r e => (hr r e).2) hs.2.1, grown_turn hs.2.2 hg hE3.size (fun r e => (hr r e).1)⟩)
    (fun _ _ _ _ _ hs _ _ => hs)
    ⟨by simpa [fillRows] using hB.ext hE3, kc, Ext.grow hE3 _⟩
    (fun i => { tmps := #[.pointer (some ⟨bb, 0, none⟩), .agg #[.int .i64 x, .int .i64 y, .int .i64 a, .int .i64 b], .int .u32 c, undef, .pointer (some ⟨w.heap.size, 0, none⟩), .pointer (some ⟨w.heap.size + 1, 0, none⟩), undef, .slice (some ⟨bp, rowAt W R i.val, none⟩) R.w.toNat R.w.toNat, undef, .pointer (some ⟨bb, 0, none⟩), .agg #[.int .i64 x, .int .i64 y, .int .i64 a, .int .i64 b], .func (.func 104) #[] #[.pointer (some ⟨w.heap.size + 1 + 1 + 1, 0, none⟩), .pointer (some ⟨w.heap.size + 1 + 1, 0, none⟩)], .int .i64 (R.y + i.val), .slice (some ⟨bp, rowAt W R i.val, none⟩) R.w.toNat R.w.toNat, undef, undef, undef, undef, undef, undef, undef, undef, undef, undef, undef], defers := [] }) ?assign ?body ?done ?stop
  case seq =>
    intro l J Jx W1 hW hJ _ hY h0
    have hq := HS.out
    refine (rows1_in 4 (by decide) l _ _ base bb bp cap W H px x y a b N (by rw [hR]; exact hN) J Jx W1 (· ≠ 35) (by decide) (by decide) (by decide) hJ (by rw [hR]; exact hY) ((hB.ext hE3).ext hW) (Ext.keep hW kb) (Ext.keep hW kr) h0).mono ?_
    rintro e W' ⟨he, ⟨ys, h1, h2⟩ | ⟨pre, h2⟩⟩
    · exact ⟨he, .inl ⟨ys, h1, h2⟩⟩
    · exact ⟨he, .inr ⟨pre, trivial, h2⟩⟩
  case assign =>
    intro l i W1 K hK
    dsimp only [rowArgs]
    gi_wp2
    exact hK
  case done =>
    rintro D ys W1 hD hys ⟨h1, h2, h3⟩ hK
    gi_wp2
    refine ⟨by simp, .inl ⟨_, _, rfl, run_takeDeferred hK, ?_⟩⟩
    have hD' := HS.out
    have hNn : R.h.toNat = N := by omega
    rw [hR, hNn, ← hys]
    have hg := grownBy_putObj' W1 D (.deferred none)
    have hr : ∀ r, some D = some r → ∃ o : Obj, W1.heap[r]? = some o ∧ o.isCells = false := fun r e => by cases e; exact ⟨_, hK, rfl⟩
    refine ⟨_, results_none rfl _ _ _, rfl, h1.turn hg hr, grown_turn h3 hg (Nat.le_refl _) (fun r e => by cases e; omega)⟩
  case stop =>
    rintro D c pre W1 _ _ h _
    exact h.elim
  case body =>
    rintro l pre i W1 ⟨h1, h2, h3⟩ _
    have hi := i.isLt
    rcases hRx with hz | ⟨r1, r2, r3, r4, r5, r6⟩
    · subst hz; simp [Rect.zero] at hN; omega
    · obtain ⟨m1, m2, m3⟩ := place_bd hB.w1 hB.w2 hB.h1 hB.h2 (x := R.x) (y := R.y + i.val) (by omega) (by omega) (by omega) (by omega)
      obtain ⟨m4, m5, m6⟩ := place_bd hB.w1 hB.w2 hB.h1 hB.h2 (x := R.x + R.w - 1) (y := R.y + i.val) (by omega) (by omega) (by omega) (by omega)
      have hlen := hB.len
      obtain ⟨f, hf⟩ : ∃ f, rowAt W R i.val = f := ⟨_, rfl⟩
      obtain ⟨m, hm⟩ : ∃ m, R.w.toNat = m := ⟨_, rfl⟩
      have hfm : f + m ≤ px.length := by unfold rowAt at hf; omega
      have hm256 : m ≤ 256 := by have := hB.w2; omega
      obtain ⟨qx, hq⟩ : ∃ qx, fillRows W R (cut24 c) (pre.map Fin.val) px = qx := ⟨_, rfl⟩
      have hql : qx.length = px.length := by rw [← hq, fillRows_length]
      have hfin : fillRows W R (cut24 c) ((pre ++ [i]).map Fin.val) px = fillRow f (cut24 c) m qx := by
        rw [List.map_append, List.map_cons, List.map_nil, fillRows_snoc, hq, hf, hm]
      simp only [hf, hm, hq] at h1 ⊢
      have Hfin := Lib.hid hfin
      have Hql := Lib.hid hql
      clear m1 m2 m3 m4 m5 m6 hf hm hq hlen hB kc kb kr hfin hN hR hql
      gi_wp2
      gi_loopw [16] (fun j wr => ∃ k : Nat, k ≤ m ∧ j = .int .i64 k ∧ BufAt 90 35 wr base bb bp cap W H (fillRow f (cut24 c) k qx) ∧ wr.heap[w.heap.size + 1]? = some (.cells #[.int .u32 c] 35 (0, 0)) ∧ w.grownBy wr (some bp) ∧ KeepsOthers W1 wr ∧ KeptT (· ≠ 35) W1 wr)
        (fun j _ => m - (intOf j).toNat)
      case atStart => exact ⟨0, Nat.zero_le _, rfl, h1, h2, h3, KeepsOthers.refl _, KeptT.refl _ _⟩
      case round =>
        clear h1 h2 h3
        obtain ⟨k, hk, rfl, h1, h2, h3, h4, h5⟩ := hrel
        obtain ⟨c2, f2⟩ := blk_rules h2
        by_cases hlt : k < m
        · have hrc := h1.row.cellAt (f + k) (by rw [fillRow_length, Hql.out]; omega)
          rw [nums_get (by rw [fillRow_length, Hql.out]; omega)] at hrc
          have hrf := fun j => h1.row.frozenAt j
          have Hs := Lib.hid (BufAt.store h1 (i := f + k) (by rw [fillRow_length, Hql.out]; omega) (cut24_bd c))
          rw [← fillRow_succ, ← and_cut hc0 (by omega)] at Hs
          have hbp : bp < w.heap.size := hbpl
          obtain ⟨cur, hty⟩ := own_type h1.row
          have Hty := Lib.hid hty
          clear hty
          gi_wp2
          rw [and_cut hc0 (by omega)] at *
          refine ⟨⟨k + 1, by omega, by go_num, Hs.out.1, blk_set_ne h2 (by omega) _ _, h3.trans Hs.out.2, h4.trans (KeepsOthers.setCell _ _ _), h5.trans (KeptT.set Hty.out (by simp) _ _)⟩, by simp [intOf]; omega⟩
        · obtain rfl : k = m := by omega
          gi_wp2
          refine ⟨h4, h5, ?_, h2, h3⟩
          rw [Hfin.out]
          exact h1
end Go.Proofs.Ytilcggkbancniaa
