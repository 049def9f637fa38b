/- The walk of region.Bounds; a pixel of the list lies in the bounds. -/
import Derived.Test.YtjghghbldifhaaaRegO
set_option linter.unusedVariables false
set_option linter.unusedSimpArgs false
namespace Go.Proofs.Ytjghghbldifhaaa
open Go.RowKit

def boundsOf (l : List Rect) : Rect := l.foldl Rect.or Rect.zero
def boundsL (l : List Rect) : Rect := boundsOf (listOf 0 l [])
theorem boundsOf_snoc (l : List Rect) (r : Rect) : boundsOf (l ++ [r]) = Rect.or (boundsOf l) r := by simp [boundsOf]
theorem has_join {a b : Rect} {x y : Int} (ha : a.empty = false) (hb : b.empty = false) (h : a.has x y = true ∨ b.has x y = true) : (a.join b).has x y = true := by
  have ga := Rect.empty_iff.1 ha
  have gb := Rect.empty_iff.1 hb
  have hg : (a.join b).good = true := Rect.good_iff.2 (by simp only [Rect.join, mx_eq, mn_eq]; omega)
  unfold Rect.has
  rw [hg]
  simp only [Bool.true_and, Bool.and_eq_true, within_iff, Rect.join, mx_eq, mn_eq]
  rcases h with h | h
  all_goals
    simp only [Rect.has, Bool.and_eq_true, within_iff] at h
    omega
theorem has_empty {a : Rect} {x y : Int} (h : a.has x y = true) : a.empty = false := by
  simp only [Rect.has, Bool.and_eq_true, within_iff] at h
  obtain ⟨hg, h1, h2⟩ := h
  have := Rect.good_iff.1 hg
  exact Rect.empty_iff.2 (by omega)
theorem has_or {a b : Rect} {x y : Int} (h : a.has x y = true ∨ b.has x y = true) : (a.or b).has x y = true := by
  unfold Rect.or
  cases ha : a.empty
  · cases hb : b.empty
    · simp only [Bool.false_eq_true, if_false]
      exact has_join ha hb h
    · simp only [Bool.false_eq_true, if_false, if_true]
      rcases h with h | h
      · exact h
      · rw [has_empty h] at hb; cases hb
  · cases hb : b.empty
    · simp only [Bool.false_eq_true, if_false, if_true]
      rcases h with h | h
      · rw [has_empty h] at ha; cases ha
      · exact h
    · rcases h with h | h
      · rw [has_empty h] at ha; cases ha
      · rw [has_empty h] at hb; cases hb
theorem bounds_fold : ∀ (l : List Rect) (acc : Rect) (x y : Int), acc.has x y = true ∨ hasL l x y = true → (l.foldl Rect.or acc).has x y = true
  | [], acc, x, y, h => by
    rcases h with h | h
    · exact h
    · simp [hasL] at h
  | r :: l, acc, x, y, h => by
    refine bounds_fold l (acc.or r) x y ?_
    rcases h with h | h
    · exact .inl (has_or (.inl h))
    · simp only [hasL, List.any_cons, Bool.or_eq_true] at h
      rcases h with h | h
      · exact .inl (has_or (.inr h))
      · exact .inr (by simpa [hasL] using h)
/-- A pixel of the list lies in its bounds. -/
theorem boundsL_has {l : List Rect} {x y : Int} (h : hasL l x y = true) : (boundsL l).has x y = true :=
  bounds_fold _ _ x y (.inr (by rw [listOf_has, show hasL [] x y = false from rfl, meant0]; exact h))
theorem RectsAt.set {w : World} {B g : Nat} {o i : Nat} {v : Value} {L : List Rect} (h : RectsAt w (some ⟨B, o, none⟩) L) (hne : B ≠ g) : RectsAt (w.setCell ⟨g, i, none⟩ v) (some ⟨B, o, none⟩) L := fun k r hk => by
  obtain ⟨b, off, e, h1, h2, h3, h4⟩ := h k r hk
  injection e with e
  injection e with e1 e2
  subst e1
  subst e2
  have hh := Below.heap_setCell w ⟨g, i, none⟩ v B hne
  have hc : ∀ q, (w.setCell ⟨g, i, none⟩ v).cell? ⟨B, q, none⟩ = w.cell? ⟨B, q, none⟩ := fun q => by simp only [World.cell?, hh]
  exact ⟨B, o, rfl, (hc _).trans h1, (hc _).trans h2, (hc _).trans h3, (hc _).trans h4⟩
set_option maxHeartbeats 2000000 in
theorem bounds_list (aA : Option Addr) (ca : Nat) (l : List Rect) (w : World) (ha : RectsAt w aA l) (hal : l.length ≤ 2199023255552) :
    Calls Try.prog 31 #[.slice aA l.length ca] w fun e w' => e = .returned (.agg (rcell (boundsL l)).toArray) ∧ Ext w w' := by
  have hcon := fun w' (h : Ext w w') => of_list aA ca l w' (ha.ext h) (by omega)
  have hln := listOf_length 0 l []
  unfold boundsL
  obtain ⟨L, hL⟩ : ∃ L, listOf 0 l [] = L := ⟨_, rfl⟩
  simp only [hL] at hcon hln ⊢
  clear hL ha
  go_enter Try.func31, Try.ntmps31
  go_wp2_with fail
  refine (hcon _ (((Ext.refl w).alloc _).alloc _)).mono ?_
  rintro e w1 ⟨B, d, rfl, h1, n1, h3⟩
  clear hcon
  obtain ⟨k0, k1, hE⟩ := ext2 h3
  have hl := OwnR.at h1
  have hsz : w.heap.size + 2 ≤ w1.heap.size := by have := h3.size; simp at this; omega
  have hform : ∀ (p : 0 < L.length), ∃ g, B = some ⟨g, 0, none⟩ ∧ w.heap.size + 2 ≤ g := fun p => by
    obtain ⟨g, cap, e, hg⟩ := World.ownsRow.form h1 p
    injection e with e
    refine ⟨g, e, ?_⟩
    have := hg
    simp at this
    omega
  clear h1 h3
  go_wp2_with fail
  go_loopw [9] (fun iv wr => ∃ k : Nat, k ≤ L.length ∧ iv = .int .i64 k ∧ wr.heap[w.heap.size]? = some (.cells #[.int .i64 0, .int .i64 0, .int .i64 0, .int .i64 0] 26 (0, 0)) ∧ wr.heap[w.heap.size + 1]? = some (.cells #[.int .i64 (boundsOf (L.take k)).x, .int .i64 (boundsOf (L.take k)).y, .int .i64 (boundsOf (L.take k)).w, .int .i64 (boundsOf (L.take k)).h] 26 (0, 0)) ∧ RectsAt wr B L ∧ Ext w wr ∧ w.heap.size + 2 ≤ wr.heap.size) (fun iv _ => L.length - (intOf iv).toNat)
  case atStart => exact ⟨0, Nat.zero_le _, rfl, k0, k1, hl, hE, hsz⟩
  case round =>
    obtain ⟨k, hk, rfl, m0, m1, hlw, hEw, hsw⟩ := hrel
    clear k0 k1 hl hE hsz
    by_cases hlt : k < L.length
    · obtain ⟨g, rfl, hg⟩ := hform (by omega)
      obtain ⟨b', o', e1, hc⟩ := hlw.form (by omega)
      injection e1 with e1
      injection e1 with e11 e12
      subst e11
      subst e12
      obtain ⟨c0, c1, c2, c3⟩ := hc k L[k] (List.getElem?_eq_getElem hlt)
      simp only [Nat.zero_add] at c0 c1 c2 c3
      have hs : boundsOf (L.take (k + 1)) = Rect.or (boundsOf (L.take k)) L[k] := by
        rw [List.take_succ_eq_append_getElem hlt, boundsOf_snoc]
      clear hc
      generalize L[k] = r at *
      obtain ⟨b, hb⟩ : ∃ b, boundsOf (L.take k) = b := ⟨_, rfl⟩
      rw [hb] at hs m1
      clear hb
      have hcon := fun w => or_any b.x b.y b.w b.h r.x r.y r.w r.h w
      simp only [show Rect.mk r.x r.y r.w r.h = r from rfl, show Rect.mk b.x b.y b.w b.h = b from rfl, ← hs] at hcon
      obtain ⟨q, hq⟩ : ∃ q, boundsOf (L.take (k + 1)) = q := ⟨_, rfl⟩
      simp only [hq] at hcon
      have HQ := Lib.hid hq
      clear hq
      have HF := Lib.hid hform
      have HW := Lib.hid hlw
      obtain ⟨y1, y2⟩ := blk_rules m1
      have z1 : w.heap.size + 1 < wr.heap.size := by omega
      have z2 : w.heap.size + 1 ≠ wr.heap.size := by omega
      have z3 := y1 0
      have z4 := y1 1
      have z5 := y1 2
      have z6 := y1 3
      simp only [List.getElem?_toArray, List.getElem?_cons_succ, List.getElem?_cons_zero] at z3 z4 z5 z6
      clear hs hlw hform
      go_wp2_with fail
      refine (hcon _).mono ?_
      rintro e w2 ⟨rfl, hb2⟩
      obtain ⟨kb, hE2⟩ := ext1 hb2
      have n0 := hE2.keep m0
      have n1' := hE2.keep m1
      have hl2 := HW.out.ext hE2
      have hE3 := hEw.trans hE2
      have hs2 : w.heap.size + 2 ≤ w2.heap.size := Nat.le_trans hsw hE2.size
      clear hcon hb2 kb z3 z4 z5 z6 y1 y2 z1 z2 c0 c1 c2 c3 m0 m1 HW hEw hE2 hsw
      obtain ⟨y1, y2⟩ := blk_rules n1'
      have z1 : w.heap.size + 1 < w2.heap.size := by omega
      go_wp2_with fail
      refine ⟨⟨k + 1, by omega, by go_num, ?_, ?_, ?_, ?_, ?_⟩, by simp [intOf]; omega⟩
      · exact blk_set_ne (blk_set_ne (blk_set_ne (blk_set_ne n0 (by omega) _ _) (by omega) _ _) (by omega) _ _) (by omega) _ _
      · rw [HQ.out]
        exact (blk_set (blk_set (blk_set (blk_set n1' 0 _) 1 _) 2 _) 3 _).trans rfl
      · exact (((hl2.set (by omega)).set (by omega)).set (by omega)).set (by omega)
      · repeat' (first | exact hE3 | refine Ext.set ?_ ?_ _)
        all_goals (simp; try omega)
      · simpa using hs2
    · obtain rfl : k = L.length := by omega
      rw [List.take_length] at m1
      obtain ⟨b, hb⟩ : ∃ b, boundsOf L = b := ⟨_, rfl⟩
      rw [hb] at m1
      have HB := Lib.hid hb
      obtain ⟨y1, y2⟩ := blk_rules m1
      obtain ⟨y3, y4⟩ := blk_rules m0
      clear hb hlw hform
      go_wp2_with fail
      have f0 := blk_set (blk_set (blk_set (blk_set m0 0 (.int .i64 b.x)) 1 (.int .i64 b.y)) 2 (.int .i64 b.w)) 3 (.int .i64 b.h)
      have x0 := (blk_cell f0 0).trans (show _ = some (Value.int .i64 b.x) from rfl)
      have x1 := (blk_cell f0 1).trans (show _ = some (Value.int .i64 b.y) from rfl)
      have x2 := (blk_cell f0 2).trans (show _ = some (Value.int .i64 b.w) from rfl)
      have x3 := (blk_cell f0 3).trans (show _ = some (Value.int .i64 b.h) from rfl)
      refine bodyPost_ret (v := .agg #[.int .i64 b.x, .int .i64 b.y, .int .i64 b.w, .int .i64 b.h]) (by simp only [results, Try.results31]; go_simp; done) rfl ⟨by rw [HB.out]; rfl, ?_⟩
      clear x0 x1 x2 x3 f0
      repeat' (first | exact hEw | refine Ext.set ?_ ?_ _)
      all_goals (simp; try omega)
end Go.Proofs.Ytjghghbldifhaaa
