/- What the laws of layer 3 call: great, wakes. -/
import Derived.Test.YtilcggkbancniaaPixK
set_option linter.unusedVariables false
set_option linter.unusedSimpArgs false
namespace Go.Proofs.Ytilcggkbancniaa
open Go.RowKit

set_option maxHeartbeats 1000000 in
theorem great_nil (W H : Int) (A : Option Addr) (c n : Nat) (w : World) (hn : n ≤ 9223372036854775807) :
    Calls Try.prog 15 #[.agg #[.int .i64 W, .int .i64 H, .slice A n c], .slice none 0 0] w fun e w' => e = .returned (.bool (decide (1000 < n))) ∧ Ext w w' := by
  by_cases h : 1000 < n
  · go_enter Try.func15, Try.ntmps15
    go_wp2_with fail
    go_ret
    exact ⟨by simp [h], (Ext.refl _).alloc _⟩
  · go_enter Try.func15, Try.ntmps15
    go_wp2_with fail
    go_loopw [5] (fun i wr => i = .int .i64 0 ∧ Ext w wr) (fun i _ => 0)
    case atStart => exact ⟨rfl, (Ext.refl _).alloc _⟩
    case round =>
      obtain ⟨rfl, hE⟩ := hrel
      go_wp2_with fail
      go_ret
      exact ⟨by simp [h], hE⟩

theorem Ext.grownRow {w a b : World} {g : Nat} (h : Ext w a) (hg : a.grownBy b (some g)) (hl : w.heap.size ≤ g) : Ext w b := Below.grown h hg h.size (fun r e => by cases e; exact hl)
theorem reads_blk {k : IntKind} {w : World} {g : Nat} {xs : List Int} {t : TypeId} {fr : Nat × Nat} (h : w.heap[g]? = some (.cells (nums k xs).toArray t fr)) : Reads k w (some ⟨g, 0, none⟩) xs := fun i hi => by
  refine ⟨g, 0, rfl, ?_⟩
  rw [Nat.zero_add, blk_cell h i]
  simp only [List.getElem?_toArray]
  exact nums_get hi
set_option maxRecDepth 100000 in
set_option maxHeartbeats 2000000 in
theorem wakes3_any (w : World) : Calls Try.prog 16 #[] w fun e w' => e = .returned (.bool true) ∧ Ext w w' := by
  go_enter Try.func16, Try.ntmps16
  go_wp2_with fail
  have r0 : Reads .u32 (w.alloc (.cells #[.int .u32 1, .int .u32 2, .int .u32 3, .int .u32 4, .int .u32 5, .int .u32 6] 35)) (some ⟨w.heap.size, 0, none⟩) [1, 2, 3, 4, 5, 6] := reads_blk (blk_new w _)
  refine (from_good 3 2 _ 6 [1, 2, 3, 4, 5, 6] _ (by decide) r0 (by decide)).mono ?_
  rintro e w1 ⟨bb, bp, cap, rfl, hB, hb⟩
  have hE := ((Ext.refl w).alloc _).trans hb
  clear r0
  rw [show [1, 2, 3, 4, 5, 6].map cut24 = [1, 2, 3, 4, 5, 6] by decide] at hB
  have hB0 := hB.base_le (base' := w.heap.size) (by simp)
  clear hB hb
  go_wp2_with fail
  refine (copy_good hB0 1 0 2 2 1 0 (by decide) (by decide) (by decide) (by decide) (F := ⟨0, 0, 2, 2⟩) (by decide) (by decide) (by decide)).mono ?_
  rintro e w2 ⟨rfl, hB, hg⟩
  have hpx : (blitRows 3 (Rect.w ⟨0, 0, 2, 2⟩) 1 0 (blitAt 3 2 (Rect.w ⟨0, 0, 2, 2⟩) (Rect.h ⟨0, 0, 2, 2⟩) 1 0 ⟨1, 0, 2, 2⟩) ((partRows 3 ⟨0, 0, 2, 2⟩ (List.range (Rect.h ⟨0, 0, 2, 2⟩).toNat) [1, 2, 3, 4, 5, 6]).map cut24) (List.range (blitAt 3 2 (Rect.w ⟨0, 0, 2, 2⟩) (Rect.h ⟨0, 0, 2, 2⟩) 1 0 ⟨1, 0, 2, 2⟩).h.toNat) [1, 2, 3, 4, 5, 6]) = [1, 1, 2, 4, 4, 5] := by decide
  rw [hpx] at hB
  clear hpx
  have ha := at_any hB 2 1
  simp only [show hasPx 3 2 2 1 = true by decide, show pxAt 3 [1, 1, 2, 4, 4, 5] 2 1 = 5 by decide, if_true] at ha
  go_wp2_with fail
  refine ha.mono ?_
  rintro e w3 ⟨rfl, hb3⟩
  have hB3 := hB.ext hb3
  clear ha
  go_wp2_with fail
  refine (image_any hB3).mono ?_
  rintro e w4 ⟨g, c, rfl, ho, hgb, hb4⟩
  have hE4 : Ext w w4 := Ext.trans (Ext.trans (Ext.grownRow hE hg (own_base hB0.row)) hb3) hb4
  clear hB0
  go_wp2_with fail
  have r1 : Reads .u32 (w4.alloc (.cells #[.int .u32 1, .int .u32 1, .int .u32 2, .int .u32 4, .int .u32 4, .int .u32 5] 35)) (some ⟨w4.heap.size, 0, none⟩) [1, 1, 2, 4, 4, 5] := reads_blk (blk_new w4 _)
  have ho' := ho.readsAt.ext ((Ext.refl w4).alloc (.cells #[.int .u32 1, .int .u32 1, .int .u32 2, .int .u32 4, .int .u32 4, .int .u32 5] 35))
  have hs := rsame_any 3 2 3 2 _ _ c 6 [1, 1, 2, 4, 4, 5] [1, 1, 2, 4, 4, 5] _ ho' r1 (by decide) (by decide)
  rw [show picEq 3 2 [1, 1, 2, 4, 4, 5] 3 2 [1, 1, 2, 4, 4, 5] = true by decide] at hs
  refine hs.mono ?_
  rintro e w5 ⟨rfl, hb5⟩
  go_wp2
  go_ret
  exact ⟨rfl, (hE4.alloc _).trans hb5⟩
end Go.Proofs.Ytilcggkbancniaa
