/- vignetteref10.Ints and Sames; the known case of the laws of tiles. Printed by gen_tilef.py. -/
import Derived.Test.YtjghghbldifhaaaTileD
import Derived.Test.YtjghghbldifhaaaTileE
set_option linter.unusedVariables false
set_option linter.unusedSimpArgs false
namespace Go.Proofs.Ytjghghbldifhaaa
open Go.RowKit

def eqI (a b : List Int) : Bool := decide (a = b)
theorem eqI_true {a b : List Int} (h : a = b) : eqI a b = true := by simp [eqI, h]

set_option maxHeartbeats 2000000 in
theorem rints_any (A B : Option Addr) (c d : Nat) (a b : List Int) (w : World) (ha : Reads .i64 w A a) (hb : Reads .i64 w B b) (hm : a.length ≤ 1000000000) (hn : b.length ≤ 1000000000) :
    Calls Try.prog 41 #[.slice A a.length c, .slice B b.length d] w fun e w' => e = .returned (.bool (eqI a b)) ∧ Ext w w' := by
  by_cases hl : a.length = b.length
  · have hl1 : ((a.length : Nat) != b.length) = false := by simp [hl]
    go_enter Try.func41, Try.ntmps41
    have Hl := Lib.hid hl
    clear hl
    go_wp2_with fail
    go_loopw [5] (fun i wr => ∃ k : Nat, k ≤ a.length ∧ i = .int .i64 k ∧ a.take k = b.take k ∧ Ext w wr) (fun i _ => a.length - (intOf i).toNat)
    case atStart => exact ⟨0, Nat.zero_le _, rfl, by simp, Ext.refl _⟩
    case round =>
      obtain ⟨k, hk, rfl, ht, hE⟩ := hrel
      have Ht := Lib.hid ht
      clear ht
      by_cases hlt : k < a.length
      · have hlt2 : k < b.length := by have := Hl.out; omega
        obtain ⟨b1, o1, rfl, h1⟩ := (ha.ext hE).form (by omega)
        obtain ⟨b2, o2, rfl, h2⟩ := (hb.ext hE).form (by omega)
        have p0 := h1 k hlt
        have q0 := h2 k hlt2
        have g1 : a.getD k 0 = a[k] := by rw [List.getD_eq_getElem?_getD, List.getElem?_eq_getElem hlt]; rfl
        have g2 : b.getD k 0 = b[k] := by rw [List.getD_eq_getElem?_getD, List.getElem?_eq_getElem hlt2]; rfl
        rw [g1] at p0
        rw [g2] at q0
        have t1 := List.take_succ_eq_append_getElem hlt
        have t2 := List.take_succ_eq_append_getElem hlt2
        have Ht2 : Hid (a[k] = b[k] → a.take (k + 1) = b.take (k + 1)) := fun e => by rw [t1, t2, Ht.out, e]
        have Ht3 : Hid (a[k] ≠ b[k] → eqI a b = false) := fun e => by
          simp only [eqI, decide_eq_false_iff_not]
          intro e2
          subst e2
          exact e rfl
        clear t1 t2 h1 h2 g1 g2
        generalize a[k] = p at *
        generalize b[k] = q at *
        by_cases he : p = q
        · have HT := Lib.hid (Ht2.out he)
          have he2 : (p != q) = false := by simp [he]
          clear he Ht2 Ht3
          go_wp2_with fail
          go_quiet (fail)
          go_wp2_with fail
          exact ⟨⟨k + 1, by omega, by go_num, HT.out, hE.drewN _⟩, by simp [intOf]; omega⟩
        · have HN := Lib.hid (Ht3.out he)
          have he2 : (p != q) = true := by simp [he]
          clear he Ht2 Ht3
          go_wp2_with fail
          go_quiet (fail)
          go_wp2_with fail
          go_ret
          exact ⟨by rw [HN.out]; rfl, hE.drewN _⟩
      · have he : eqI a b = true := by
          have := Ht.out
          have h2 := Hl.out
          rw [List.take_of_length_le (by omega), List.take_of_length_le (by omega)] at this
          simpa [eqI] using this
        have He := Lib.hid he
        clear he
        go_wp2_with fail
        go_ret
        exact ⟨by rw [He.out]; rfl, hE⟩
  · have hl1 : ((a.length : Nat) != b.length) = true := by simpa using hl
    have he : eqI a b = false := by
      simp only [eqI, decide_eq_false_iff_not]
      intro e
      exact hl (by rw [e])
    rw [he]
    go_enter Try.func41, Try.ntmps41
    go_wp2_with fail
    go_ret
    exact ⟨rfl, Ext.refl _⟩

set_option maxHeartbeats 2000000 in
theorem rsames_any (A B : Option Addr) (c d : Nat) (a b : List Int) (w : World) (ha : Reads .u32 w A a) (hb : Reads .u32 w B b) (hm : a.length ≤ 1000000000) (hn : b.length ≤ 1000000000) :
    Calls Try.prog 46 #[.slice A a.length c, .slice B b.length d] w fun e w' => e = .returned (.bool (eqI a b)) ∧ Ext w w' := by
  by_cases hl : a.length = b.length
  · have hl1 : ((a.length : Nat) != b.length) = false := by simp [hl]
    go_enter Try.func46, Try.ntmps46
    have Hl := Lib.hid hl
    clear hl
    go_wp2_with fail
    go_loopw [5] (fun i wr => ∃ k : Nat, k ≤ a.length ∧ i = .int .i64 k ∧ a.take k = b.take k ∧ Ext w wr) (fun i _ => a.length - (intOf i).toNat)
    case atStart => exact ⟨0, Nat.zero_le _, rfl, by simp, Ext.refl _⟩
    case round =>
      obtain ⟨k, hk, rfl, ht, hE⟩ := hrel
      have Ht := Lib.hid ht
      clear ht
      by_cases hlt : k < a.length
      · have hlt2 : k < b.length := by have := Hl.out; omega
        obtain ⟨b1, o1, rfl, h1⟩ := (ha.ext hE).form (by omega)
        obtain ⟨b2, o2, rfl, h2⟩ := (hb.ext hE).form (by omega)
        have p0 := h1 k hlt
        have q0 := h2 k hlt2
        have g1 : a.getD k 0 = a[k] := by rw [List.getD_eq_getElem?_getD, List.getElem?_eq_getElem hlt]; rfl
        have g2 : b.getD k 0 = b[k] := by rw [List.getD_eq_getElem?_getD, List.getElem?_eq_getElem hlt2]; rfl
        rw [g1] at p0
        rw [g2] at q0
        have t1 := List.take_succ_eq_append_getElem hlt
        have t2 := List.take_succ_eq_append_getElem hlt2
        have Ht2 : Hid (a[k] = b[k] → a.take (k + 1) = b.take (k + 1)) := fun e => by rw [t1, t2, Ht.out, e]
        have Ht3 : Hid (a[k] ≠ b[k] → eqI a b = false) := fun e => by
          simp only [eqI, decide_eq_false_iff_not]
          intro e2
          subst e2
          exact e rfl
        clear t1 t2 h1 h2 g1 g2
        generalize a[k] = p at *
        generalize b[k] = q at *
        by_cases he : p = q
        · have HT := Lib.hid (Ht2.out he)
          have he2 : (p != q) = false := by simp [he]
          clear he Ht2 Ht3
          go_wp2_with fail
          go_quiet (fail)
          go_wp2_with fail
          exact ⟨⟨k + 1, by omega, by go_num, HT.out, hE.drewN _⟩, by simp [intOf]; omega⟩
        · have HN := Lib.hid (Ht3.out he)
          have he2 : (p != q) = true := by simp [he]
          clear he Ht2 Ht3
          go_wp2_with fail
          go_quiet (fail)
          go_wp2_with fail
          go_ret
          exact ⟨by rw [HN.out]; rfl, hE.drewN _⟩
      · have he : eqI a b = true := by
          have := Ht.out
          have h2 := Hl.out
          rw [List.take_of_length_le (by omega), List.take_of_length_le (by omega)] at this
          simpa [eqI] using this
        have He := Lib.hid he
        clear he
        go_wp2_with fail
        go_ret
        exact ⟨by rw [He.out]; rfl, hE⟩
  · have hl1 : ((a.length : Nat) != b.length) = true := by simpa using hl
    have he : eqI a b = false := by
      simp only [eqI, decide_eq_false_iff_not]
      intro e
      exact hl (by rw [e])
    rw [he]
    go_enter Try.func46, Try.ntmps46
    go_wp2_with fail
    go_ret
    exact ⟨rfl, Ext.refl _⟩

theorem GivesN.reads {T : List Int} {w w' : World} {e : Ending} (h : GivesN T w e w') : ∃ B d, e = .returned (.slice B T.length d) ∧ Reads .i64 w' B T ∧ Ext w w' := by
  obtain ⟨B, d, h1, h2, h3⟩ := h
  exact ⟨B, d, h1, row_reads' h2 rfl, h3⟩
theorem GivesU.reads {T : List Int} {w w' : World} {e : Ending} (h : GivesU T w e w') : ∃ B d, e = .returned (.slice B T.length d) ∧ Reads .u32 w' B T ∧ Ext w w' := by
  obtain ⟨B, d, h1, h2, h3⟩ := h
  exact ⟨B, d, h1, row_reads' h2 rfl, h3⟩
theorem reads_block {k : IntKind} {w : World} {B : Nat} {xs : Array Value} {t : TypeId} {fr : Nat × Nat} {l : List Int} (h : w.heap[B]? = some (.cells xs t fr)) (e : xs.toList = nums k l) : Reads k w (some ⟨B, 0, none⟩) l := fun i hi => ⟨B, 0, rfl, by
  rw [blk_cell h, ← Array.getElem?_toList, e, Nat.zero_add]
  exact nums_get hi⟩
def tl1 : List Rect := [⟨15, 0, 2, 1⟩]
def tl2 : List Rect := [⟨0, 0, 16, 16⟩, ⟨16, 0, 4, 16⟩]
def tl3 : List Rect := [⟨15, 0, 1, 1⟩, ⟨16, 0, 1, 1⟩]
theorem tl_grid : gridOf 20 16 = tl2 := by decide +kernel
theorem tl_split : splitOf tl1 20 16 = tl3 := by decide +kernel
theorem tl_touch : natsI (touchedOf tl1 20 16) = [0, 1] := by decide +kernel
theorem tl_sums : (sumsL 1 1 [0]).length = 1 := by
  unfold sumsL
  rw [if_pos (by decide +kernel)]
  unfold sumsOf
  rw [List.length_map, List.length_range]
  decide +kernel

set_option maxHeartbeats 4000000 in
theorem wakes10_any (w : World) : Calls Try.prog 38 #[] w fun e w' => e = .returned (.bool true) ∧ Ext w w' := by
  go_enter Try.func38, Try.ntmps38
  go_wp2_with fail
  have hl := rects_block (l := tl1) (blk_new w (.cells #[.int .i64 15, .int .i64 0, .int .i64 2, .int .i64 1] 26)) rfl
  refine (grid_any 20 16 _).mono ?_
  rw [tl_grid]
  rintro e w1 ⟨B1, d1, rfl, o1, n1, E1⟩
  have r1 := Lib.hid (OwnR.at o1)
  replace hl := Lib.hid (hl.ext E1)
  have hE := Ext.of_alloc E1
  clear o1 E1
  go_wp2_with fail
  refine (rrects_any B1 _ d1 2 tl2 tl2 _ (r1.out.ext ((Ext.refl w1).alloc _)) (rects_block (blk_new w1 _) rfl) (by decide) (by decide)).mono ?_
  rintro e w2 ⟨rfl, E2⟩
  rw [show eqR tl2 tl2 = true from eqR_true rfl]
  replace hl := Lib.hid (hl.out.ext (Ext.of_alloc E2))
  replace hE := hE.trans (Ext.of_alloc E2)
  clear E2 r1
  go_wp2_with fail
  refine (touched_any _ 1 tl1 20 16 w2 hl.out (by decide)).mono ?_
  rw [tl_touch]
  rintro e w3 hg
  obtain ⟨B3, d3, rfl, r3, E3⟩ := hg.reads
  replace hl := Lib.hid (hl.out.ext E3)
  replace hE := hE.trans E3
  replace r3 := Lib.hid r3
  clear E3 hg
  go_wp2_with fail
  refine (rints_any B3 _ d3 2 [0, 1] [0, 1] _ (r3.out.ext ((Ext.refl w3).alloc _)) (reads_block (blk_new w3 _) rfl) (by decide) (by decide)).mono ?_
  rintro e w4 ⟨rfl, E4⟩
  rw [show eqI [0, 1] [0, 1] = true from eqI_true rfl]
  replace hl := Lib.hid (hl.out.ext (Ext.of_alloc E4))
  replace hE := hE.trans (Ext.of_alloc E4)
  clear E4 r3
  go_wp2_with fail
  refine (split_any _ 1 tl1 20 16 w4 hl.out (by decide)).mono ?_
  rw [tl_split]
  rintro e w5 ⟨B5, d5, rfl, o5, n5, E5⟩
  have r5 := Lib.hid (OwnR.at o5)
  replace hE := hE.trans E5
  clear E5 o5 hl
  go_wp2_with fail
  refine (rrects_any B5 _ d5 2 tl3 tl3 _ (r5.out.ext ((Ext.refl w5).alloc _)) (rects_block (blk_new w5 _) rfl) (by decide) (by decide)).mono ?_
  rintro e w6 ⟨rfl, E6⟩
  rw [show eqR tl3 tl3 = true from eqR_true rfl]
  replace hE := hE.trans (Ext.of_alloc E6)
  clear E6 r5
  go_wp2_with fail
  refine (sums_any 1 1 _ 1 [0] _ (reads_block (blk_new w6 (.cells #[.int .u32 0] 58)) rfl) (by decide)).mono ?_
  rintro e w7 hg
  obtain ⟨B7, d7, rfl, r7, E7⟩ := hg.reads
  replace hE := hE.trans (Ext.of_alloc E7)
  rw [tl_sums]
  clear E7 r7 hg
  go_wp2_with fail
  go_ret
  exact ⟨rfl, hE⟩
end Go.Proofs.Ytjghghbldifhaaa
