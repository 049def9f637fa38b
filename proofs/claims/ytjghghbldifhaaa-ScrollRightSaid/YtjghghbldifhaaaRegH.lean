/- The walks of region.cuts: where bands begin and end. -/
/- The walks of region.cuts and of its iterator. -/
import Derived.Test.YtjghghbldifhaaaRegF
import Derived.Test.YtjghghbldifhaaaSeqB
set_option linter.unusedVariables false
set_option linter.unusedSimpArgs false
namespace Go.Proofs.Ytjghghbldifhaaa
open Go.RowKit Go.Shelf Go.Sort
attribute [local go_sem] Oper.semAt_some

/-! ### Plain -/
/-- The ends down of the rectangles of a list. -/
def endsY (l : List Rect) : List Int := l.flatMap fun r => if r.empty then [] else [r.y, r.y + r.h]
theorem endsY_snoc (l : List Rect) (r : Rect) : endsY (l ++ [r]) = if r.empty then endsY l else endsY l ++ [r.y, r.y + r.h] := by
  cases h : r.empty <;> simp [endsY, h]
theorem endsY_append (l m : List Rect) : endsY (l ++ m) = endsY l ++ endsY m := by simp [endsY]
theorem endsY_length (l : List Rect) : (endsY l).length ≤ l.length * 2 := by
  induction l with
  | nil => simp [endsY]
  | cons r l ih =>
    have : endsY (r :: l) = (if r.empty then [] else [r.y, r.y + r.h]) ++ endsY l := rfl
    rw [this, List.length_append, List.length_cons]
    split <;> simp <;> omega
theorem endsY_mem {l : List Rect} {z : Int} : z ∈ endsY l ↔ ∃ r ∈ l, r.empty = false ∧ (z = r.y ∨ z = r.y + r.h) := by
  unfold endsY
  rw [List.mem_flatMap]
  constructor
  · rintro ⟨r, hr, h⟩
    cases he : r.empty
    · rw [he] at h; simp at h; exact ⟨r, hr, he, h⟩
    · rw [he] at h; simp at h
  · rintro ⟨r, hr, he, h⟩
    exact ⟨r, hr, by rw [he]; simpa using h⟩
theorem sorted_unique_lt : ∀ {l m : List Int}, l.Pairwise (· < ·) → m.Pairwise (· < ·) → (∀ z, z ∈ l ↔ z ∈ m) → l = m
  | [], [], _, _, _ => rfl
  | [], b :: m, _, _, h => absurd ((h b).2 (by simp)) (by simp)
  | a :: l, [], _, _, h => absurd ((h a).1 (by simp)) (by simp)
  | a :: l, b :: m, h1, h2, h => by
    have p1 := List.pairwise_cons.1 h1
    have p2 := List.pairwise_cons.1 h2
    have e : a = b := by
      have ha := (h a).1 (by simp)
      have hb := (h b).2 (by simp)
      rcases List.mem_cons.1 ha with e | ha
      · exact e
      · rcases List.mem_cons.1 hb with e | hb
        · exact e.symm
        · have := p1.1 b hb
          have := p2.1 a ha
          omega
    subst e
    rw [sorted_unique_lt p1.2 p2.2 fun z => by
      have hz := h z
      rw [List.mem_cons, List.mem_cons] at hz
      constructor
      · intro hm
        rcases hz.1 (.inr hm) with e | h3
        · have := p1.1 z hm; omega
        · exact h3
      · intro hm
        rcases hz.2 (.inr hm) with e | h3
        · have := p2.1 z hm; omega
        · exact h3]
/-- What slices.Compact leaves of a sorted list. -/
theorem compact_sorted {xs : List Int} (h : xs.Pairwise (· ≤ ·)) : (Lib.compact xs).Pairwise (· < ·) ∧ ∀ z, z ∈ Lib.compact xs ↔ z ∈ xs := by
  have hg : ∀ i, i < xs.length → xs.toArray[i]! = xs.getD i 0 := fun i hi => by
    rw [getElem!_pos xs.toArray i (by simpa using hi), List.getD_eq_getElem?_getD, List.getElem?_eq_getElem hi]
    simp
  unfold Lib.compact Lib.compactUpTo
  constructor
  · rw [List.pairwise_map]
    have hr : ((List.range xs.length).filter (Lib.keeps xs.toArray)).Pairwise (· < ·) := List.Pairwise.filter _ List.pairwise_lt_range
    refine List.Pairwise.imp_of_mem ?_ hr
    intro i j hi hj hij
    have hi' : i < xs.length := by simpa using (List.mem_filter.1 hi).1
    have hj' : j < xs.length := by simpa using (List.mem_filter.1 hj).1
    have hk := (List.mem_filter.1 hj).2
    unfold Lib.keeps at hk
    rw [decide_eq_true_eq] at hk
    have hne : xs.toArray[j]! ≠ xs.toArray[j - 1]! := by
      rcases hk with h0 | h0
      · omega
      · exact h0
    rw [hg j hj', hg (j - 1) (by omega)] at hne
    rw [hg i hi', hg j hj']
    have h1 := getD_le_of_weak h (show i ≤ j - 1 by omega) (by omega)
    have h2 := getD_le_of_weak h (show j - 1 ≤ j by omega) hj'
    omega
  · intro z
    rw [List.mem_map]
    constructor
    · rintro ⟨i, hi, rfl⟩
      have hi' : i < xs.length := by simpa using (List.mem_filter.1 hi).1
      rw [hg i hi']
      exact getD_mem hi'
    · intro hz
      obtain ⟨i, hi, rfl⟩ := mem_getD hz
      -- the first place at which the number stands
      have hex : ∀ k, k < xs.length → xs.getD k 0 = xs.getD i 0 → ∃ j, j ≤ k ∧ Lib.keeps xs.toArray j = true ∧ xs.getD j 0 = xs.getD i 0 := by
        intro k
        induction k with
        | zero => intro hk he; exact ⟨0, Nat.le_refl _, by simp [Lib.keeps], he⟩
        | succ k ih =>
          intro hk he
          by_cases hq : xs.getD k 0 = xs.getD i 0
          · obtain ⟨j, h1, h2, h3⟩ := ih (by omega) hq
            exact ⟨j, by omega, h2, h3⟩
          · refine ⟨k + 1, Nat.le_refl _, ?_, he⟩
            unfold Lib.keeps
            rw [decide_eq_true_eq]
            refine .inr ?_
            rw [Nat.add_sub_cancel, hg (k + 1) hk, hg k (by omega), he]
            exact fun e => hq e.symm
      obtain ⟨j, h1, h2, h3⟩ := hex i hi rfl
      exact ⟨j, List.mem_filter.2 ⟨by simp; omega, h2⟩, by rw [hg j (by omega)]; exact h3⟩
theorem cuts_compact {a b : List Rect} {xs : List Int} (hp : xs.Perm (endsY a ++ endsY b)) (hs : xs.Pairwise (· ≤ ·)) : Lib.compact xs = cutsOf true a b := by
  obtain ⟨h1, h2⟩ := compact_sorted hs
  refine sorted_unique_lt h1 (cutsOf_sorted _ _ _) fun z => ?_
  rw [h2, hp.mem_iff, List.mem_append, endsY_mem, endsY_mem, cutsOf_mem]
  constructor
  · rintro (⟨r, hr, he, h⟩ | ⟨r, hr, he, h⟩)
    · exact ⟨r, .inl hr, he, by simpa [edge1] using h⟩
    · exact ⟨r, .inr hr, he, by simpa [edge1] using h⟩
  · rintro ⟨r, hr | hr, he, h⟩
    · exact .inl ⟨r, hr, he, by simpa [edge1] using h⟩
    · exact .inr ⟨r, hr, he, by simpa [edge1] using h⟩

/-! ### slices.Compact at a row of the call's own -/
set_option maxHeartbeats 1000000 in
theorem icompact_any (A : Option Addr) (c base : Nat) (xs : List Int) (w : World) (hown : Own .i64 3 w base (.slice A xs.length c) xs) (hm : xs.length ≤ 17592186044416) :
    Calls Try.prog 128 #[.slice A xs.length c] w fun e w' => e = .returned (.slice A (Lib.compact xs).length c) ∧ Own .i64 3 w' base (.slice A (Lib.compact xs).length c) (Lib.compact xs) ∧ w.grownBy w' (Value.slice A xs.length c).ownBlock := by
  rcases Nat.eq_zero_or_pos xs.length with h0 | hp
  · have hl : xs = [] := List.eq_nil_of_length_eq_zero h0
    subst hl
    refine Calls.mono (Any.slices_Compact_int_empty Try.layCI A c w) ?_
    rintro e w' ⟨rfl, rfl⟩
    exact ⟨rfl, hown, World.grownBy.refl _ _⟩
  · obtain ⟨g, rfl, hgb⟩ := row_form hown hp
    have hcap := row_cap' hown
    obtain ⟨h1, h2⟩ := hown
    rcases h2 with ⟨h2, _⟩ | ⟨g', cap, cur, e1, e2, e3, e4, e5, e6, e7⟩
    · cases h2
    · injection e1 with e1 _ e9
      injection e1 with e1
      injection e1 with e1
      subst e1; subst e9
      refine (Any.slices_Compact_int Try.layCI g 0 c xs w (holds_of_blockI e3 (by rw [← own_int_nums, ← e7, Nat.mul_one])) (by omega) hcap.1).mono ?_
      rintro e w' ⟨rfl, q, rfl⟩
      have hle : (Lib.compact xs).length ≤ xs.length := by
        unfold Lib.compact Lib.compactUpTo
        rw [List.length_map]
        exact Nat.le_trans (List.length_filter_le _ _) (by simp)
      have hh := heap_sortedI (n := q) (os := #[]) (Lib.compact xs ++ List.replicate (xs.length - (Lib.compact xs).length) 0).toArray e3
      rw [grow_empty] at hh
      have hg := grownBy_sortedI (w := w) (g := g) (n := q) (os := #[]) (Lib.compact xs ++ List.replicate (xs.length - (Lib.compact xs).length) 0).toArray
      rw [grow_empty] at hg
      have ht := take_putCellsI cur (Lib.compact xs ++ List.replicate (xs.length - (Lib.compact xs).length) 0) (by simp; omega)
      refine ⟨rfl, ⟨by simp [nums], .inr ⟨g, c, _, rfl, e2, hh, by omega, e5, by rw [putCells_size, e6], ?_⟩⟩, hg⟩
      have ht2 := congrArg (List.take ((Lib.compact xs).length * 1)) ht
      rw [List.take_take, Nat.min_eq_left (by simp)] at ht2
      rw [ht2, ← List.map_take, List.take_append_of_le_length (by omega), Nat.mul_one, List.take_length]
      rfl
end Go.Proofs.Ytjghghbldifhaaa
set_option linter.unusedVariables false
set_option linter.unusedSimpArgs false
namespace Go.Proofs.Ytjghghbldifhaaa
open Go.RowKit Go.Shelf
attribute [local go_sem] Oper.semAt_some

/-- The first i of two lists. -/
def preR (a b : List Rect) (i : Nat) : List Rect := if i = 0 then [] else if i = 1 then a else a ++ b
/-- What cuts holds: at block Y the slice of the ends so far. -/
structure CutsAt (w wr : World) (base Y : Nat) (L : List Int) (B : Option Addr) (d : Nat) : Prop where
  cell : wr.heap[Y]? = some (.cells #[.slice B L.length d] 46 (0, 0))
  own : Own .i64 3 wr base (.slice B L.length d) L
  ext : Ext w wr
  lt : Y < base
  le : w.heap.size ≤ Y
  size : base ≤ wr.heap.size
theorem CutsAt.step {w wr w5 : World} {base Y d d5 : Nat} {L L5 : List Int} {B B5 : Option Addr} {v : Value} (h : CutsAt w wr base Y L B d) (hr : w5.ownsRow base 3 1 (.slice B5 L5.length d5) L5.length (nums .i64 L5)) (hE : Ext wr w5 ∨ ∃ W, Ext wr W ∧ W.grownBy w5 (Value.slice B L.length d).ownBlock) (hv : v = .slice B5 L5.length d5) : CutsAt w (w5.setCell ⟨Y, 0, none⟩ v) base Y L5 B5 d5 := by
  subst hv
  have hb : ∀ k, (Value.slice B L.length d).ownBlock = some k → base ≤ k := fun k hk => (World.ownsRow.lt h.own k hk).1
  have hgw : ∃ W, Ext wr W ∧ W.grownBy w5 (Value.slice B L.length d).ownBlock := by
    rcases hE with h1 | h1
    · exact ⟨w5, h1, World.grownBy.refl _ _⟩
    · exact h1
  obtain ⟨W, hW, hg⟩ := hgw
  have hYl : Y < wr.heap.size := blk_lt h.cell
  have hc5 : w5.heap[Y]? = some (.cells #[.slice B L.length d] 46 (0, 0)) := by
    rw [hg.block Y (Nat.lt_of_lt_of_le hYl hW.size) (fun e => by have := hb Y e.symm; have := h.lt; omega)]
    exact hW.keep h.cell
  have hE5 : Ext w w5 := Below.grown (h.ext.trans hW) hg (Nat.le_trans h.ext.size hW.size) (fun r e => by have := hb r e; have := h.lt; have := h.le; omega)
  refine ⟨?_, row_below hr (grown_set w5 Y 0 _) h.lt, hE5.set (p := ⟨Y, 0, none⟩) h.le _, h.lt, h.le, ?_⟩
  · have := blk_set hc5 0 (.slice B5 L5.length d5)
    simpa using this
  · have : (w5.setCell ⟨Y, 0, none⟩ (.slice B5 L5.length d5)).heap.size = w5.heap.size := by simp [World.setCell]
    rw [this]
    exact Nat.le_trans h.size (Nat.le_trans hW.size hg.size)

theorem CutsAt.keep {w wr w1 : World} {base Y d : Nat} {L : List Int} {B : Option Addr} (h : CutsAt w wr base Y L B d) (hE : Ext wr w1) : CutsAt w w1 base Y L B d :=
  ⟨hE.keep h.cell, row_keep h.own hE, h.ext.trans hE, h.lt, h.le, Nat.le_trans h.size hE.size⟩
set_option maxRecDepth 100000 in
set_option maxHeartbeats 8000000 in
theorem cuts_any (LA aA bA : Option Addr) (lc ca cb G : Nat) (a b : List Rect) (w : World) (kG : w.heap[G]? = some (.cells #[.slice aA a.length ca, .slice bA b.length cb] 22 (0, 0))) (ha : RectsAt w aA a) (hb : RectsAt w bA b) (hal : a.length ≤ 4398046511104) (hbl : b.length ≤ 4398046511104) :
    Calls Try.prog 113 #[.slice (some ⟨G, 0, none⟩) 2 2] w fun e w' => ∃ B d Y, e = .returned (.func (.func 129) #[] #[.pointer (some ⟨Y, 0, none⟩)]) ∧ CutsAt w w' (Y + 1) Y (cutsOf true a b) B d := by
  go_enter Try.func113, Try.ntmps113
  go_wp2_with fail
  have h0 : CutsAt w (w.alloc (.cells #[.slice none 0 0] 46)) (w.heap.size + 1) w.heap.size [] none 0 := ⟨blk_new w _, World.ownsRow_nil _ _ _ _, (Ext.refl _).alloc _, by omega, Nat.le_refl _, by simp⟩
  have H0 := Lib.hid h0
  clear h0
  go_loopw [10] (fun iv wr => ∃ (i : Nat) (B : Option Addr) (d : Nat), i ≤ 2 ∧ iv = .int .i64 i ∧ CutsAt w wr (w.heap.size + 1) w.heap.size (endsY (preR a b i)) B d) (fun iv _ => 2 - (intOf iv).toNat)
  case atStart => exact ⟨0, none, 0, by omega, rfl, H0.out⟩
  case round =>
    obtain ⟨i, B, d, hi, rfl, hC⟩ := hrel
    by_cases hlt : i < 2
    · obtain ⟨XA, X, xc, hX1, hX2, hX3, hX4, hX5⟩ : ∃ (XA : Option Addr) (X : List Rect) (xc : Nat), (#[Value.slice aA a.length ca, .slice bA b.length cb] : Array Value)[i]? = some (.slice XA X.length xc) ∧ RectsAt w XA X ∧ preR a b (i + 1) = preR a b i ++ X ∧ X.length ≤ 4398046511104 ∧ (preR a b i).length ≤ 4398046511104 := by
        rcases i with _ | _ | i
        · exact ⟨aA, a, ca, rfl, ha, by simp [preR], hal, by simp [preR]⟩
        · exact ⟨bA, b, cb, rfl, hb, by simp [preR], hbl, by simpa [preR] using hal⟩
        · omega
      have hc0 := (blk_rules (hC.ext.keep kG)).1 i
      rw [hX1] at hc0
      obtain ⟨P, hP⟩ : ∃ P, preR a b i = P := ⟨_, rfl⟩
      rw [hP] at hX3 hX5 hC
      have HX3 := Lib.hid hX3
      have HC := Lib.hid hC
      have hd2 : decide ((i : Int) < 2) = true := by rw [decide_eq_true_eq]; omega
      clear hX1 hX3 hC hP
      go_wp2_with fail
      go_loopw [16] (fun kv wr2 => ∃ (k : Nat) (B : Option Addr) (d : Nat), k ≤ X.length ∧ kv = .int .i64 k ∧ CutsAt w wr2 (w.heap.size + 1) w.heap.size (endsY (P ++ X.take k)) B d) (fun kv _ => X.length - (intOf kv).toNat)
      case atStart => exact ⟨0, B, d, Nat.zero_le _, rfl, by simpa using HC.out⟩
      case round =>
        obtain ⟨k, B, d, hk, rfl, hC⟩ := hrel
        obtain ⟨L, hL⟩ : ∃ L, endsY (P ++ X.take k) = L := ⟨_, rfl⟩
        have hLn : L.length ≤ 17592186044414 ∨ k = X.length := by
          by_cases hk2 : k = X.length
          · exact .inr hk2
          · have := endsY_length (P ++ X.take k)
            rw [hL, List.length_append, List.length_take] at this
            exact .inl (by omega)
        rw [hL] at hC
        have HC2 := Lib.hid hC
        have HL := Lib.hid hL
        clear hL HC
        by_cases hlt2 : k < X.length
        · have hLn2 : L.length ≤ 17592186044414 := by omega
          obtain ⟨xb, xo, rfl, hc⟩ := (hX2.ext hC.ext).form (by omega)
          obtain ⟨h0, h1, h2, h3⟩ := hc k X[k] (List.getElem?_eq_getElem hlt2)
          have ht := List.take_succ_eq_append_getElem hlt2
          have hs := endsY_snoc (P ++ X.take k) X[k]
          rw [List.append_assoc, ← ht, HL.out] at hs
          clear hc ht
          generalize X[k] = r at *
          have HS := Lib.hid hs
          have hem := fun w => empty_any r.x r.y r.w r.h w
          simp only [show Rect.mk r.x r.y r.w r.h = r from rfl] at hem
          have hYl : w.heap.size < wr.heap.size := blk_lt hC.cell
          have kY := hC.cell
          clear hs hC
          cases he : r.empty
          · have hg := Rect.empty_iff.1 he
            rw [he] at HS
            simp only [he] at hem
            have hs1 : IntKind.i64.wrap (r.y + r.h) = r.y + r.h := IntWalk.i64_in _ (by omega)
            go_wp2_with fail
            refine (hem _).mono ?_
            rintro e w1 ⟨rfl, hb1⟩
            obtain ⟨kb, hE1⟩ := ext1 hb1
            replace kY := hE1.keep kY
            obtain ⟨cb, fb⟩ := blk_rules kb
            obtain ⟨cY, fY⟩ := blk_rules kY
            have KY := Lib.hid kY
            have KB := Lib.hid kb
            clear hb1 kb kY
            go_wp2_with (first
              | (refine wpList_app (w.heap.size + 1) rfl (.tmp 23) (.tmp 31) 46 3 (.int .i64 0) 1 8 rfl Try.underlying46 info_int rfl (by decide) (by decide) (.slice B L.length d) L.length (nums .i64 L) rfl (World.ownsRow.alloc (row_keep HC2.out.own hE1) _) (some ⟨w1.heap.size, 0, none⟩) 2 2 (nums .i64 [r.y, r.y + r.h]) rfl (fun h => by cases h) rfl (fun _ => ⟨_, rfl, World.news_of_block (blk_new w1 _)⟩) nums_one (by omega) (Nat.le_trans HC2.out.size (Nat.le_trans hE1.size (by simp))) (fun v' w5 hr5 hg5 => ?_); obtain ⟨B5, d5, rfl⟩ := row_slice hr5; obtain ⟨c5, f5⟩ := blk_rules ((hg5.block _ (Nat.lt_of_lt_of_le (blk_lt KY.out) (by simp)) (fun e => by have := (World.ownsRow.lt HC2.out.own _ e.symm).1; omega)).trans (blk_old KY.out _))))
            have hs5 : CutsAt w (w5.setCell ⟨w.heap.size, 0, none⟩ (.slice B5 (L.length + 2) d5)) (w.heap.size + 1) w.heap.size (L ++ [r.y, r.y + r.h]) B5 d5 := by
              refine HC2.out.step (L5 := L ++ [r.y, r.y + r.h]) ?_ (.inr ⟨_, hE1.alloc _, hg5⟩) (by rw [List.length_append]; rfl)
              rw [List.length_append, nums_snoc]
              exact hr5
            have HN := HS.out
            simp only [Bool.false_eq_true, if_false] at HN
            exact ⟨⟨k + 1, B5, d5, by omega, by go_num, by rw [HN]; exact hs5⟩, by simp [intOf]; omega⟩
          · rw [he] at HS
            simp only [he] at hem
            go_wp2_with fail
            refine (hem _).mono ?_
            rintro e w1 ⟨rfl, hb1⟩
            obtain ⟨kb, hE1⟩ := ext1 hb1
            obtain ⟨cb, fb⟩ := blk_rules kb
            clear hb1 kb
            go_wp2_with fail
            have HN := HS.out
            simp only [if_true] at HN
            exact ⟨⟨k + 1, B, d, by omega, by go_num, by rw [HN]; exact HC2.out.keep hE1⟩, by simp [intOf]; omega⟩
        · obtain rfl : k = X.length := by omega
          have HF : Hid (L = endsY (preR a b (i + 1))) := by
            have := HL.out
            rw [List.take_length, ← HX3.out] at this
            exact Lib.hid this.symm
          clear HL hlt2 hC hLn
          go_wp2_with fail
          exact ⟨⟨i + 1, B, d, by omega, by go_num, by rw [← HF.out]; exact HC2.out⟩, by simp [intOf]; omega⟩
    · obtain rfl : i = 2 := by omega
      have hp2 : preR a b 2 = a ++ b := by simp [preR]
      rw [hp2, endsY_append] at hC
      have hln : (endsY a ++ endsY b).length ≤ 17592186044416 := by
        have h1 := endsY_length a
        have h2 := endsY_length b
        rw [List.length_append]
        omega
      obtain ⟨E, hE⟩ : ∃ E, endsY a ++ endsY b = E := ⟨_, rfl⟩
      rw [hE] at hC hln
      have HE := Lib.hid hE
      have HC := Lib.hid hC
      obtain ⟨cY, fY⟩ := blk_rules hC.cell
      clear hC hE hp2 H0 hlt
      go_wp2_with fail
      refine (isort_any B d (w.heap.size + 1) E wr HC.out.own hln).mono ?_
      rintro e w3 ⟨rfl, xs, hperm, hsort, hown3, hg⟩
      have hxl := hperm.length_eq
      have HCC := Lib.hid (cuts_compact (a := a) (b := b) (by rw [HE.out]; exact hperm) hsort)
      have hne : some w.heap.size ≠ (Value.slice B E.length d).ownBlock := fun e => by have := (World.ownsRow.lt HC.out.own _ e.symm).1; omega
      have kY3 : w3.heap[w.heap.size]? = some (.cells #[.slice B xs.length d] 46 (0, 0)) := by
        rw [hxl]
        exact (hg.block _ (blk_lt HC.out.cell) hne).trans HC.out.cell
      have hC3 : CutsAt w w3 (w.heap.size + 1) w.heap.size xs B d := ⟨kY3, hown3, Below.grown HC.out.ext hg HC.out.ext.size (fun r e => by have := (World.ownsRow.lt HC.out.own _ e).1; omega), by omega, Nat.le_refl _, Nat.le_trans HC.out.size hg.size⟩
      have HC3 := Lib.hid hC3
      obtain ⟨c3, f3⟩ := blk_rules kY3
      rw [← hxl] at hln
      simp only [← hxl]
      clear hperm hsort hown3 hg hxl hC3 kY3 hne cY fY HE
      go_wp2_with fail
      refine (icompact_any B d (w.heap.size + 1) xs w3 HC3.out.own hln).mono ?_
      rintro e w4 ⟨rfl, hown4, hg4⟩
      have hne : some w.heap.size ≠ (Value.slice B xs.length d).ownBlock := fun e => by have := (World.ownsRow.lt HC3.out.own _ e.symm).1; omega
      have kY4 : w4.heap[w.heap.size]? = some (.cells #[.slice B xs.length d] 46 (0, 0)) := (hg4.block _ (blk_lt HC3.out.cell) hne).trans HC3.out.cell
      have hC4 := HC3.out.step (L5 := Lib.compact xs) hown4 (.inr ⟨w3, Ext.refl _, hg4⟩) rfl
      rw [HCC.out] at hC4
      have HC4 := Lib.hid hC4
      have HLC := HCC.out
      obtain ⟨c4, f4⟩ := blk_rules kY4
      rw [HLC]
      clear hown4 hg4 hne kY4 hC4 c3 f3 HLC
      go_wp2_with fail
      go_ret
      exact ⟨B, d, w.heap.size, rfl, HC4.out⟩
end Go.Proofs.Ytjghghbldifhaaa
