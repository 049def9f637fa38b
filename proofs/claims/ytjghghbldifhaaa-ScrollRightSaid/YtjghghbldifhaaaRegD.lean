/- The walk of region.row: the pieces of a list in a row of pixels. -/
import Derived.Test.YtjghghbldifhaaaSrtA
import Derived.StillTail
import Derived.StillTailTactics
set_option linter.unusedVariables false
set_option linter.unusedSimpArgs false
namespace Go.Proofs.Ytjghghbldifhaaa
open Go.RowKit

theorem scells_set1 : ∀ {l : List Piece} {j : Nat} {t : Piece} (v : Int), l[j]? = some t → (scells l).set (j * 2 + 1) (.int .i64 v) = scells (l.set j (t.1, v))
  | [], j, t, v, h => by simp at h
  | p :: l, 0, t, v, h => by
    simp at h
    subst h
    rfl
  | p :: l, j + 1, t, v, h => by
    have ih := scells_set1 (l := l) (j := j) v (by simpa using h)
    show (scell p ++ scells l).set ((j + 1) * 2 + 1) _ = scell p ++ scells (l.set j _)
    rw [List.set_append_right _ _ (by simp [scell]; omega), show (j + 1) * 2 + 1 - (scell p).length = j * 2 + 1 by simp [scell]; omega, ih]
theorem scells_set2 : ∀ {l : List Piece} {j : Nat} (s : Piece), j < l.length → ((scells l).set (j * 2) (.int .i64 s.1)).set (j * 2 + 1) (.int .i64 s.2) = scells (l.set j s)
  | [], j, s, h => by simp at h
  | p :: l, 0, s, h => rfl
  | p :: l, j + 1, s, h => by
    have ih := scells_set2 (l := l) (j := j) s (by simpa using h)
    show ((scell p ++ scells l).set ((j + 1) * 2) _).set ((j + 1) * 2 + 1) _ = scell p ++ scells (l.set j _)
    rw [List.set_append_right _ _ (by simp [scell]; omega), show (j + 1) * 2 - (scell p).length = j * 2 by simp [scell]; omega, List.set_append_right _ _ (by simp [scell]; omega), show (j + 1) * 2 + 1 - (scell p).length = j * 2 + 1 by simp [scell]; omega, ih]
/-- What the second loop of row has laid. -/
def Merging (S C : List Piece) (i m : Nat) : Prop := C.length = S.length ∧ C.take m = mergedP (S.take i) ∧ C.drop i = S.drop i ∧ m = (mergedP (S.take i)).length ∧ m ≤ i
theorem Merging.start (S : List Piece) : Merging S S 0 0 := ⟨rfl, by simp [mergedP], rfl, by simp [mergedP], Nat.le_refl _⟩
theorem Merging.at {S C : List Piece} {i m : Nat} (h : Merging S C i m) (hi : i < S.length) : C[i]? = S[i]? := by
  have := congrArg List.head? h.2.2.1
  rwa [List.head?_drop, List.head?_drop] at this
theorem Merging.last {S C : List Piece} {i m : Nat} (h : Merging S C i m) (hm : 0 < m) : (mergedP (S.take i)).getLast? = C[m - 1]? := by
  rw [List.getLast?_eq_getElem?, ← h.2.2.2.1, ← h.2.1, List.getElem?_take_of_lt (by omega)]
theorem Merging.fuse {S C : List Piece} {i m : Nat} {s t : Piece} (h : Merging S C i m) (hm : 0 < m) (hs : S[i]? = some s) (ht : C[m - 1]? = some t) (hle : s.1 ≤ t.2) : Merging S (C.set (m - 1) (t.1, mx t.2 s.2)) (i + 1) m := by
  have hi : i < S.length := (List.getElem?_eq_some_iff.1 hs).1
  have e1 : S.take (i + 1) = S.take i ++ [s] := by rw [List.take_add_one, hs]; rfl
  have hl : (mergedP (S.take i)).getLast? = some t := by rw [h.last hm, ht]
  obtain ⟨h1, h2, h3, h4, h5⟩ := h
  have e2 : mergedP (S.take (i + 1)) = (mergedP (S.take i)).dropLast ++ [(t.1, mx t.2 s.2)] := by
    rw [e1, mergedP_snoc]
    unfold mergeP
    rw [hl]
    dsimp only
    rw [if_pos hle]
  have e3 : (C.set (m - 1) (t.1, mx t.2 s.2)).take m = (mergedP (S.take i)).dropLast ++ [(t.1, mx t.2 s.2)] := by
    rw [List.dropLast_eq_take, ← h4, ← h2, List.take_take, Nat.min_eq_left (by omega)]
    obtain ⟨k, rfl⟩ : ∃ k, m = k + 1 := ⟨m - 1, by omega⟩
    have hk : k < C.length := (List.getElem?_eq_some_iff.1 ht).1
    rw [Nat.add_sub_cancel, List.take_add_one, List.getElem?_set_self hk, List.take_set_of_le (Nat.le_refl _)]
    rfl
  refine ⟨by rw [List.length_set, h1], by rw [e3, e2], ?_, ?_, by omega⟩
  · rw [List.drop_set_of_lt (by omega)]
    have := congrArg (List.drop 1) h3
    simpa [List.drop_drop, Nat.add_comm] using this
  · rw [e2, List.length_append, List.length_dropLast, ← h4]
    simp; omega
theorem Merging.push {S C : List Piece} {i m : Nat} {s : Piece} (h : Merging S C i m) (hs : S[i]? = some s) (hno : ∀ t, 0 < m → C[m - 1]? = some t → ¬ s.1 ≤ t.2) : Merging S (C.set m s) (i + 1) (m + 1) := by
  have hi : i < S.length := (List.getElem?_eq_some_iff.1 hs).1
  have e1 : S.take (i + 1) = S.take i ++ [s] := by rw [List.take_add_one, hs]; rfl
  have hlast : 0 < m → (mergedP (S.take i)).getLast? = C[m - 1]? := fun hm => h.last hm
  obtain ⟨h1, h2, h3, h4, h5⟩ := h
  have e2 : mergedP (S.take (i + 1)) = mergedP (S.take i) ++ [s] := by
    rw [e1, mergedP_snoc]
    unfold mergeP
    rcases Nat.eq_zero_or_pos m with h0 | hp
    · have : mergedP (S.take i) = [] := List.eq_nil_of_length_eq_zero (by omega)
      rw [this]
      rfl
    · have hl := hlast hp
      have hk : m - 1 < C.length := by omega
      rw [List.getElem?_eq_getElem hk] at hl
      rw [hl]
      dsimp only
      rw [if_neg (hno _ hp (List.getElem?_eq_getElem hk))]
  refine ⟨by rw [List.length_set, h1], ?_, ?_, ?_, by omega⟩
  · rw [e2, ← h2, List.take_add_one, List.getElem?_set_self (by omega), List.take_set_of_le (Nat.le_refl _)]
    rfl
  · rw [List.drop_set_of_lt (by omega)]
    have := congrArg (List.drop 1) h3
    simpa [List.drop_drop, Nat.add_comm] using this
  · rw [e2, List.length_append, ← h4]
    simp

attribute [local go_sem ↓] max_mx
set_option maxRecDepth 100000 in
set_option maxHeartbeats 8000000 in
theorem row_any (A : Option Addr) (c : Nat) (l : List Rect) (y : Int) (w : World) (hl : RectsAt w A l) (hm : l.length ≤ 4398046511104) :
    Calls Try.prog 115 #[.slice A l.length c, .int .i64 y] w fun e w' => ∃ B d, e = .returned (.slice B (piecesOf 0 l [] y).length d) ∧ SpansAt w' B (piecesOf 0 l [] y) ∧ Ext w w' := by
  go_enter Try.func115, Try.ntmps115
  go_wp2_with fail
  go_loopw [5, 13] (fun v iv wr => ∃ (k : Nat) (B : Option Addr) (d : Nat), k ≤ l.length ∧ iv = .int .i64 k ∧ v = .slice B (rawP (l.take k) y).length d ∧ OwnS wr w.heap.size (.slice B (rawP (l.take k) y).length d) (rawP (l.take k) y) ∧ Ext w wr) (fun _ iv _ => l.length - (intOf iv).toNat)
  case atStart => exact ⟨0, none, 0, Nat.zero_le _, rfl, rfl, World.ownsRow_nil _ _ _ _, Ext.refl _⟩
  case round =>
    obtain ⟨k, B, d, hk, rfl, rfl, hown, hE⟩ := hrel
    obtain ⟨L, hL⟩ : ∃ L, rawP (l.take k) y = L := ⟨_, rfl⟩
    rw [hL] at hown
    simp only [hL]
    have HO := Lib.hid hown
    have HL := Lib.hid hL
    have hLn : L.length ≤ k := by rw [← hL]; exact Nat.le_trans (rawP_length _ _) (by rw [List.length_take]; omega)
    clear hown hL
    by_cases hlt : k < l.length
    · obtain ⟨b, off, rfl, hc⟩ := (hl.ext hE).form (by omega)
      obtain ⟨h0, h1, h2, h3⟩ := hc k l[k] (List.getElem?_eq_getElem hlt)
      have ht := List.take_succ_eq_append_getElem hlt
      have hs := rawP_snoc (l.take k) l[k] y
      rw [← ht, HL.out] at hs
      clear hc ht
      generalize l[k] = r at *
      have HS := Lib.hid hs
      clear hs
      cases he : r.empty
      · have hg := Rect.empty_iff.1 he
        have hem := fun w => empty_any r.x r.y r.w r.h w
        simp only [show Rect.mk r.x r.y r.w r.h = r from rfl, he] at hem
        by_cases c1 : r.y ≤ y
        · by_cases c2 : y < r.y + r.h
          · have hx : crossP y r = true := by simp [crossP, he, c1, c2]
            have HN : Hid (rawP (l.take (k + 1)) y = L ++ [pieceOf r]) := by
              have := HS.out
              rw [hx] at this
              exact Lib.hid this
            clear HS hx he
            have hs1 : IntKind.i64.wrap (r.y + r.h) = r.y + r.h := IntWalk.i64_in _ (by omega)
            go_wp2_with fail
            refine (hem _).mono ?_
            rintro e w1 ⟨rfl, hb1⟩
            obtain ⟨kb, hE1⟩ := ext1 hb1
            obtain ⟨cb, fb⟩ := blk_rules kb
            clear hb1
            go_wp2_with (first
              | (refine wpList_app w.heap.size rfl (.tmp 35) (.tmp 44) 127 133 (.agg #[.int .i64 0, .int .i64 0]) 2 16 rfl Try.underlying127 info_span rfl (by decide) (by decide) (.slice B L.length d) L.length (scells L) rfl (World.ownsRow.alloc (row_keep HO.out hE1) _) (some ⟨w1.heap.size, 0, none⟩) 1 1 (scell (pieceOf r)) rfl (fun h => by cases h) rfl (fun _ => ⟨_, rfl, World.news_of_block (blk_new w1 _)⟩) (scell_one _) (by omega) (Nat.le_trans (Nat.le_trans hE.size hE1.size) (by simp)) (fun v' w5 hr5 hg5 => ?_); obtain ⟨B5, d5, rfl⟩ := row_slice hr5))
            have hE5 := row_ext (World.ownsRow.alloc (row_keep HO.out hE1) _) ((hE.trans hE1).alloc _) hg5
            have hr6 : OwnS w5 w.heap.size (.slice B5 (L ++ [pieceOf r]).length d5) (L ++ [pieceOf r]) := by
              unfold OwnS
              rw [List.length_append, scells_snoc]
              exact hr5
            exact ⟨⟨k + 1, B5, d5, by omega, by go_num, by rw [HN.out, List.length_append]; rfl, by rw [HN.out]; exact hr6, hE5⟩, by simp [intOf]; omega⟩
          · have hx : crossP y r = false := by simp [crossP, he, c1, c2]
            have HN : Hid (rawP (l.take (k + 1)) y = L) := by
              have := HS.out
              rw [hx] at this
              exact Lib.hid this
            clear HS hx he
            have hs1 : IntKind.i64.wrap (r.y + r.h) = r.y + r.h := IntWalk.i64_in _ (by omega)
            go_wp2_with fail
            refine (hem _).mono ?_
            rintro e w1 ⟨rfl, hb1⟩
            obtain ⟨kb, hE1⟩ := ext1 hb1
            obtain ⟨cb, fb⟩ := blk_rules kb
            clear hb1
            go_wp2_with fail
            exact ⟨⟨k + 1, B, d, by omega, by go_num, by rw [HN.out], by rw [HN.out]; exact row_keep HO.out hE1, hE.trans hE1⟩, by simp [intOf]; omega⟩
        · have hx : crossP y r = false := by simp [crossP, he, c1]
          have HN : Hid (rawP (l.take (k + 1)) y = L) := by
            have := HS.out
            rw [hx] at this
            exact Lib.hid this
          clear HS hx he
          have hd1 : decide (r.y ≤ y) = false := by simpa using c1
          go_wp2_with fail
          refine (hem _).mono ?_
          rintro e w1 ⟨rfl, hb1⟩
          obtain ⟨kb, hE1⟩ := ext1 hb1
          obtain ⟨cb, fb⟩ := blk_rules kb
          clear hb1
          go_wp2_with fail
          exact ⟨⟨k + 1, B, d, by omega, by go_num, by rw [HN.out], by rw [HN.out]; exact row_keep HO.out hE1, hE.trans hE1⟩, by simp [intOf]; omega⟩
      · have hem := fun w => empty_any r.x r.y r.w r.h w
        simp only [show Rect.mk r.x r.y r.w r.h = r from rfl, he] at hem
        have hx : crossP y r = false := by simp [crossP, he]
        have HN : Hid (rawP (l.take (k + 1)) y = L) := by
          have := HS.out
          rw [hx] at this
          exact Lib.hid this
        clear HS hx he
        go_wp2_with fail
        refine (hem _).mono ?_
        rintro e w1 ⟨rfl, hb1⟩
        obtain ⟨kb, hE1⟩ := ext1 hb1
        obtain ⟨cb, fb⟩ := blk_rules kb
        clear hb1
        go_wp2_with fail
        exact ⟨⟨k + 1, B, d, by omega, by go_num, by rw [HN.out], by rw [HN.out]; exact row_keep HO.out hE1, hE.trans hE1⟩, by simp [intOf]; omega⟩
    · obtain rfl : k = l.length := by omega
      have HR : Hid (L = rawP l y) := by
        have := HL.out
        rw [List.take_length] at this
        exact Lib.hid this.symm
      clear HL hlt hk
      have hbdL : ∀ p ∈ L, -1048576 ≤ p.1 ∧ p.1 ≤ p.2 ∧ p.2 ≤ 1048576 := fun p hp => by
        rw [HR.out] at hp
        have := rawP_bd hp
        omega
      go_wp2_with fail
      refine (ssortf_any B d w.heap.size L wr HO.out hbdL (by omega)).mono ?_
      rintro e w2 ⟨rfl, S, hperm, hsort, hownS, hg⟩
      have hE2 := row_ext HO.out hE hg
      have hSl := hperm.length_eq
      have hbS : ∀ p ∈ S, -1048576 ≤ p.1 ∧ p.1 ≤ p.2 ∧ p.2 ≤ 1048576 := fun p hp => hbdL p (hperm.mem_iff.1 hp)
      have HM : Hid (mergedP S = piecesOf 0 l [] y) := Lib.hid (row_merged (by rw [← HR.out]; exact hperm) hsort)
      have HB := Lib.hid hbS
      clear hg hperm hsort hbS hbdL HO HR
      obtain ⟨n, hn⟩ : ∃ n, L.length = n := ⟨_, rfl⟩
      unfold OwnS at hownS
      rw [hSl] at hownS
      rw [hn] at hSl hLn hownS
      simp only [hn]
      have HSn := Lib.hid hSl
      clear hE
      have HOS := Lib.hid hownS
      clear hn hSl hownS
      have hn42 : n ≤ 4398046511104 := by omega
      go_wp2_with fail
      go_loopw [8, 51] (fun kv iv wr2 => ∃ (i m : Nat) (C : List Piece), i ≤ n ∧ iv = .int .i64 i ∧ kv = .int .i64 m ∧ Merging S C i m ∧ wr2.ownsRow w.heap.size 133 2 (.slice B n d) n (scells C) ∧ Ext w wr2) (fun _ iv _ => n - (intOf iv).toNat)
      case atStart => exact ⟨0, 0, S, Nat.zero_le _, rfl, rfl, Merging.start S, HOS.out, hE2⟩
      case round =>
        obtain ⟨i, m, C, hi, rfl, rfl, hmg, hown, hE3⟩ := hrel
        have HMG := Lib.hid hmg
        have hmi : m ≤ i := hmg.2.2.2.2
        by_cases hlt : i < n
        · obtain ⟨g, rfl, hgb⟩ := row_form hown (by omega)
          have hgl : g < wr.heap.size := (World.ownsRow.lt hown g (by simp [Value.ownBlock])).2
          obtain ⟨s, hs⟩ : ∃ s, S[i]? = some s := ⟨S[i]'(by rw [HSn.out]; exact hlt), List.getElem?_eq_getElem _⟩
          have hC := (hmg.at (by rw [HSn.out]; exact hlt)).trans hs
          have p0 := (World.ownsRow.cellAt hown (i * 2 + 0) (by omega)).trans (scells_get hC 0 (by decide))
          have p1 := (World.ownsRow.cellAt hown (i * 2 + 1) (by omega)).trans (scells_get hC 1 (by decide))
          simp only [scell, List.getElem?_cons_zero, List.getElem?_cons_succ, Nat.add_zero] at p0 p1
          have HS := Lib.hid hs
          have hsb := HB.out s (List.mem_of_getElem? hs)
          clear hC hs hmg
          have hfr := fun j => World.ownsRow.frozenAt hown j
          have hCl : C.length = n := HMG.out.1.trans HSn.out
          obtain ⟨u, hu⟩ : ∃ u, C[m]? = some u := ⟨C[m]'(by omega), List.getElem?_eq_getElem _⟩
          have r0 := (World.ownsRow.cellAt hown (m * 2 + 0) (by omega)).trans (scells_get hu 0 (by decide))
          have r1 := (World.ownsRow.cellAt hown (m * 2 + 1) (by omega)).trans (scells_get hu 1 (by decide))
          simp only [scell, List.getElem?_cons_zero, List.getElem?_cons_succ, Nat.add_zero] at r0 r1
          have hst2 : ∀ W : World, W.ownsRow w.heap.size 133 2 (.slice (some ⟨g, 0, none⟩) n d) n (scells C) → ((W.setCell ⟨g, m * 2, none⟩ (.int .i64 s.1)).setCell ⟨g, m * 2 + 1, none⟩ (.int .i64 s.2)).ownsRow w.heap.size 133 2 (.slice (some ⟨g, 0, none⟩) n d) n (scells (C.set m s)) := fun W hW => by
            have h := (World.ownsRow.stored ((World.ownsRow.stored hW (m * 2) (.int .i64 s.1)).1) (m * 2 + 1) (.int .i64 s.2)).1
            rwa [scells_set2 s (by omega)] at h
          have HST2 := Lib.hid hst2
          have HCl := Lib.hid hCl
          clear hst2 hCl hu
          rcases Nat.eq_zero_or_pos m with hm0 | hmp
          · subst hm0
            have HP := Lib.hid (HMG.out.push HS.out (fun _ h => absurd h (by omega)))
            go_wp2_with fail
            go_quiet (fail)
            go_wp2_with fail
            have hownQ : ((wr.alloc (.cells #[.int .i64 s.1, .int .i64 s.2] 133)).drewN nq).ownsRow w.heap.size 133 2 (.slice (some ⟨g, 0, none⟩) n d) n (scells C) := World.ownsRow.alloc hown _
            have hEQ : Ext w ((wr.alloc (.cells #[.int .i64 s.1, .int .i64 s.2] 133)).drewN nq) := (hE3.alloc _).drewN nq
            exact ⟨⟨i + 1, 1, C.set 0 s, by omega, by go_num, by go_num, HP.out, by simpa using HST2.out _ hownQ, by simpa using (hEQ.set (p := ⟨g, 0, none⟩) (by simpa using hgb) (.int .i64 s.1)).set (p := ⟨g, 1, none⟩) (by simpa using hgb) (.int .i64 s.2)⟩, by simp [intOf]; omega⟩
          · obtain ⟨k, rfl⟩ : ∃ k, m = k + 1 := ⟨m - 1, by omega⟩
            obtain ⟨t, ht⟩ : ∃ t, C[k]? = some t := ⟨C[k]'(by have := HCl.out; omega), List.getElem?_eq_getElem _⟩
            have q0 := (World.ownsRow.cellAt hown (k * 2 + 0) (by omega)).trans (scells_get ht 0 (by decide))
            have q1 := (World.ownsRow.cellAt hown (k * 2 + 1) (by omega)).trans (scells_get ht 1 (by decide))
            simp only [scell, List.getElem?_cons_zero, List.getElem?_cons_succ, Nat.add_zero] at q0 q1
            have hst1 : ∀ (W : World) (v : Int), W.ownsRow w.heap.size 133 2 (.slice (some ⟨g, 0, none⟩) n d) n (scells C) → (W.setCell ⟨g, k * 2 + 1, none⟩ (.int .i64 v)).ownsRow w.heap.size 133 2 (.slice (some ⟨g, 0, none⟩) n d) n (scells (C.set k (t.1, v))) := fun W v hW => by
              have h := (World.ownsRow.stored hW (k * 2 + 1) (.int .i64 v)).1
              rwa [scells_set1 v ht] at h
            have e1 : IntKind.i64.wrap ((k : Int) + 1 - 1) = k := by rw [show ((k : Int) + 1) - 1 = k by omega]; exact IntWalk.i64_in _ (by omega)
            have e4 : IntKind.i64.wrap (k : Int) = k := IntWalk.i64_in _ (by omega)
            have e6 : (k : Int) < (n : Int) := by omega
            have e7 : ((k : Int) + 1 - 1).toNat = k := by omega
            by_cases hle : s.1 ≤ t.2
            · have HP := Lib.hid (HMG.out.fuse (by omega) HS.out ht hle)
              have HST1 := Lib.hid hst1
              clear hst1 ht
              go_wp2_with fail
              go_quiet (fail)
              have hownQ : ((wr.alloc (.cells #[.int .i64 s.1, .int .i64 s.2] 133)).drewN nq).ownsRow w.heap.size 133 2 (.slice (some ⟨g, 0, none⟩) n d) n (scells C) := World.ownsRow.alloc hown _
              have hEQ : Ext w ((wr.alloc (.cells #[.int .i64 s.1, .int .i64 s.2] 133)).drewN nq) := (hE3.alloc _).drewN nq
              have hb1 : ((wr.alloc (.cells #[.int .i64 s.1, .int .i64 s.2] 133)).drewN nq).cell? ⟨wr.heap.size, 1, none⟩ = some (.int .i64 s.2) := (blk_rules (blk_new wr (.cells #[.int .i64 s.1, .int .i64 s.2] 133))).1 1
              have q1' := (World.ownsRow.cellAt hownQ (k * 2 + 1) (by omega)).trans ((World.ownsRow.cellAt hown (k * 2 + 1) (by omega)).symm.trans q1)
              have hfrQ := fun j => World.ownsRow.frozenAt hownQ j
              clear hown hE3 p0 p1 q0 q1 r0 r1 hfr
              generalize hW1 : (wr.alloc (.cells #[.int .i64 s.1, .int .i64 s.2] 133)).drewN nq = W1 at *
              clear hW1
              go_wp2_with fail
              go_still_tail 14, (by kernel_rfl)
              change wpList _ _ _ _ _ W1.drew
              go_wp2_with fail
              exact ⟨⟨i + 1, k + 1, _, by omega, by go_num, by go_num, HP.out, HST1.out _ _ hownQ, (hEQ.set (p := ⟨g, k * 2 + 1, none⟩) (by simpa using hgb) _).drew⟩, by simp [intOf]; omega⟩
            · have HP := Lib.hid (HMG.out.push HS.out (fun t' _ h => by rw [Nat.add_sub_cancel, ht] at h; injection h with h; subst h; exact hle))
              clear hst1 ht
              have hle1 : decide (s.1 ≤ t.2) = false := by simpa using hle
              go_wp2_with fail
              go_quiet (fail)
              go_wp2_with fail
              have hownQ : ((wr.alloc (.cells #[.int .i64 s.1, .int .i64 s.2] 133)).drewN nq).ownsRow w.heap.size 133 2 (.slice (some ⟨g, 0, none⟩) n d) n (scells C) := World.ownsRow.alloc hown _
              have hEQ : Ext w ((wr.alloc (.cells #[.int .i64 s.1, .int .i64 s.2] 133)).drewN nq) := (hE3.alloc _).drewN nq
              exact ⟨⟨i + 1, k + 1 + 1, C.set (k + 1) s, by omega, by go_num, by go_num, HP.out, HST2.out _ hownQ, (hEQ.set (by simpa using hgb) _).set (by simpa using hgb) _⟩, by simp [intOf]; omega⟩
        · have hie : i = n := by omega
          subst hie
          have HE : Hid (mergedP S = C.take m ∧ m = (mergedP S).length) := by
            have h1 := HMG.out.2.1
            have h2 := HMG.out.2.2.2.1
            have h3 := HSn.out
            rw [show S.take i = S from List.take_of_length_le (by omega)] at h1 h2
            exact Lib.hid ⟨h1.symm, h2⟩
          have hcap := row_cap' hown
          have hrc := row_cut hown hmi
          rw [scells_take, ← HE.out.1, HM.out] at hrc
          have hme : m = (piecesOf 0 l [] y).length := by rw [← HM.out]; exact HE.out.2
          rw [hme] at hrc
          have HRC := Lib.hid (OwnS.at hrc)
          have HME := Lib.hid hme
          clear hmg HMG hrc hme HE
          go_wp2_with fail
          go_ret
          exact ⟨B, d, by rw [← HME.out]; rfl, HRC.out, hE3⟩
end Go.Proofs.Ytjghghbldifhaaa
