/- What only moved: plain; the program's own test of a step (scroll.Find$1). -/
import Derived.Test.YtjghghbldifhaaaPicC
import Derived.Test.YtjghghbldifhaaaRegT
import Derived.WalkMore
set_option linter.unusedVariables false
set_option linter.unusedSimpArgs false
namespace Go.Proofs.Ytjghghbldifhaaa
open Go.RowKit

def rowR (t : Rect) (j n : Nat) : List (Int × Int) := (List.range n).map fun i : Nat => (t.x + (i : Int), t.y + (j : Int))
def rowsR (t : Rect) (m : Nat) : List (Int × Int) := (List.range m).flatMap fun j => rowR t j t.w.toNat
/-- All pixels of a rectangle, row by row. -/
def cellsR (t : Rect) : List (Int × Int) := rowsR t t.h.toNat
def movedAt (W : Int) (pa pb : List Int) (dx dy : Int) (c : Int × Int) : Bool := pxAt W pb c.1 c.2 == pxAt W pa (c.1 - dx) (c.2 - dy)
def otherAt (W : Int) (pa pb : List Int) (c : Int × Int) : Bool := pxAt W pb c.1 c.2 != pxAt W pa c.1 c.2
/-- Fits a step? -/
def fitsP (W : Int) (pa pb : List Int) (t : Rect) (dx dy : Int) : Bool := (cellsR t).all (movedAt W pa pb dx dy) && (cellsR t).any (otherAt W pa pb)
theorem rowR_succ (t : Rect) (j n : Nat) : rowR t j (n + 1) = rowR t j n ++ [(t.x + (n : Int), t.y + (j : Int))] := by simp [rowR, List.range_succ]
theorem rowsR_succ (t : Rect) (m : Nat) : rowsR t (m + 1) = rowsR t m ++ rowR t m t.w.toNat := by simp [rowsR, List.range_succ]
theorem cellsR_mem {t : Rect} {i j : Nat} (hi : (i : Int) < t.w) (hj : (j : Int) < t.h) : (t.x + (i : Int), t.y + (j : Int)) ∈ cellsR t := by
  unfold cellsR rowsR
  rw [List.mem_flatMap]
  refine ⟨j, List.mem_range.2 (by omega), ?_⟩
  unfold rowR
  exact List.mem_map.2 ⟨i, List.mem_range.2 (by omega), rfl⟩
/-- All that a step's test looks at lies in the picture. -/
def StepIn (W H : Int) (t : Rect) (dx dy : Int) : Prop := (0 ≤ t.x ∧ 0 ≤ t.w ∧ t.x + t.w ≤ 256 ∧ 0 ≤ t.y ∧ 0 ≤ t.h ∧ t.y + t.h ≤ 256) ∧ ∀ c ∈ cellsR t, hasPx W H c.1 c.2 = true ∧ hasPx W H (c.1 - dx) (c.2 - dy) = true
theorem at_px {w : World} {base bb bp cap : Nat} {W H : Int} {px : List Int} (hB : BufAt 117 58 w base bb bp cap W H px) {x y v : Int} (hh : hasPx W H x y = true) (hv : pxAt W px x y = v) : Calls Try.prog 72 #[.pointer (some ⟨bb, 0, none⟩), .int .i64 x, .int .i64 y] w fun e w' => e = .returned (.tuple #[.int .u32 v, .int .i64 0]) ∧ Ext w w' := by
  have h := at_any hB x y
  rw [hh, if_pos rfl, if_pos rfl, hv] at h
  exact h
set_option maxRecDepth 100000 in
set_option maxHeartbeats 16000000 in
theorem fits1_any {w : World} {basea ba pa cpa baseb bb pb cpb Ba Bb : Nat} {W H : Int} {px qx : List Int} (hA : BufAt 117 58 w basea ba pa cpa W H px) (hB : BufAt 117 58 w baseb bb pb cpb W H qx) (ka : w.heap[Ba]? = some (.cells #[.pointer (some ⟨ba, 0, none⟩)] 60 (0, 0))) (kb : w.heap[Bb]? = some (.cells #[.pointer (some ⟨bb, 0, none⟩)] 60 (0, 0))) (t : Rect) (dx dy : Int) (hin : StepIn W H t dx dy) :
    Calls Try.prog 101 #[.agg #[.int .i64 t.x, .int .i64 t.y, .int .i64 t.w, .int .i64 t.h], .int .i64 dx, .int .i64 dy, .pointer (some ⟨Bb, 0, none⟩), .pointer (some ⟨Ba, 0, none⟩)] w fun e w' => e = .returned (.bool (fitsP W px qx t dx dy)) ∧ Ext w w' := by
  obtain ⟨⟨t1, t2, t3, t4, t5, t6⟩, hin⟩ := hin
  have HA := Lib.hid hA
  have HB := Lib.hid hB
  have HIN := Lib.hid hin
  have b1 := hA.w1
  have b2 := hA.w2
  have b3 := hA.h1
  have b4 := hA.h2
  clear hA hB hin
  obtain ⟨Wt, hWt⟩ : ∃ n : Nat, t.w.toNat = n := ⟨_, rfl⟩
  obtain ⟨Ht, hHt⟩ : ∃ n : Nat, t.h.toNat = n := ⟨_, rfl⟩
  have hfit : fitsP W px qx t dx dy = ((rowsR t Ht).all (movedAt W px qx dx dy) && (rowsR t Ht).any (otherAt W px qx)) := by unfold fitsP cellsR; rw [hHt]
  have HFIT := Lib.hid hfit
  have hWt2 : t.w = (Wt : Int) := by omega
  have hHt2 : t.h = (Ht : Int) := by omega
  have hrs : ∀ m, rowsR t (m + 1) = rowsR t m ++ rowR t m Wt := fun m => by rw [← hWt]; exact rowsR_succ t m
  have HRS := Lib.hid hrs
  have HMEM : Hid (∀ i j : Nat, i < Wt → j < Ht → (t.x + (i : Int), t.y + (j : Int)) ∈ cellsR t) := Lib.hid fun i j hi hj => cellsR_mem (by omega) (by omega)
  obtain ⟨X, hX⟩ : ∃ X, t.x = X := ⟨_, rfl⟩
  obtain ⟨Y, hY⟩ : ∃ Y, t.y = Y := ⟨_, rfl⟩
  simp only [hX, hY] at HMEM t1 t3 t4 t6
  rw [hWt2] at t3
  rw [hHt2] at t6
  simp only [hX, hY, hWt2, hHt2]
  have HXY := Lib.hid (And.intro hX hY)
  clear hWt hHt hfit hWt2 hHt2 hrs hX hY t2 t5
  go_enter Try.func101, Try.ntmps101
  go_wp2_with fail
  obtain ⟨w0, hw0⟩ : ∃ w0, w.alloc (.cells #[.int .i64 X, .int .i64 Y, .int .i64 Wt, .int .i64 Ht] 26) = w0 := ⟨_, rfl⟩
  have kt : w0.heap[w.heap.size]? = some (.cells #[.int .i64 X, .int .i64 Y, .int .i64 Wt, .int .i64 Ht] 26 (0, 0)) := by rw [← hw0]; exact blk_new w _
  have hE0 : Ext w w0 := by rw [← hw0]; exact (Ext.refl w).alloc _
  rw [hw0]
  clear hw0
  obtain ⟨ct0, ft0⟩ := blk_rules kt
  go_step3
  go_wp2_with fail
  go_step3
  go_wp2_with fail
  clear ct0 ft0
  go_loopw [9, 10, 11] (fun uv mv yv wr => ∃ j : Nat, j ≤ Ht ∧ yv = .int .i64 (Y + (j : Int)) ∧ mv = .bool true ∧ uv = .bool ((rowsR t j).any (otherAt W px qx)) ∧ (rowsR t j).all (movedAt W px qx dx dy) = true ∧ Ext w0 wr) (fun _ _ yv _ => Ht - (intOf yv - Y).toNat)
  case atStart => exact ⟨0, Nat.zero_le _, by simp, rfl, by simp [rowsR], by simp [rowsR], Ext.refl _⟩
  case round =>
    obtain ⟨j, hj, rfl, rfl, rfl, hall, hEj⟩ := hrel
    have HALL := Lib.hid hall
    clear hall
    obtain ⟨ct, ft⟩ := blk_rules (hEj.keep kt)
    by_cases hlt : j < Ht
    · obtain ⟨u0, hu0⟩ : ∃ u0, (rowsR t j).any (otherAt W px qx) = u0 := ⟨_, rfl⟩
      simp only [hu0]
      have HU0 := Lib.hid hu0
      clear hu0
      go_wp2_with fail
      generalize wr = wo at *
      clear ct ft
      go_loopw [9, 10, 12] (fun uv mv xv wq => ∃ i : Nat, i ≤ Wt ∧ xv = .int .i64 (X + (i : Int)) ∧ mv = .bool true ∧ uv = .bool (u0 || (rowR t j i).any (otherAt W px qx)) ∧ (rowR t j i).all (movedAt W px qx dx dy) = true ∧ Ext w0 wq) (fun _ _ xv _ => Wt - (intOf xv - X).toNat)
      case atStart => exact ⟨0, Nat.zero_le _, by simp, rfl, by simp [rowR], by simp [rowR], hEj⟩
      case round =>
        obtain ⟨i, hi, rfl, rfl, rfl, hall2, hEi⟩ := hrel
        have HALL2 := Lib.hid hall2
        clear hall2
        obtain ⟨ct, ft⟩ := blk_rules (hEi.keep kt)
        obtain ⟨ca, fa⟩ := blk_rules ((hE0.trans hEi).keep ka)
        obtain ⟨cb, fb⟩ := blk_rules ((hE0.trans hEi).keep kb)
        obtain ⟨u1, hu1⟩ : ∃ u1, (u0 || (rowR t j i).any (otherAt W px qx)) = u1 := ⟨_, rfl⟩
        simp only [hu1]
        have HU1 := Lib.hid hu1
        clear hu1
        by_cases hli : i < Wt
        · obtain ⟨hp1, hp2⟩ := HIN.out _ (HMEM.out i j hli hlt)
          dsimp only at hp1 hp2
          obtain ⟨q1, q2, q3, q4⟩ := (hasPx_iff b1 b2 b3 b4).1 hp2
          obtain ⟨vb, hvb⟩ : ∃ v, pxAt W qx (X + (i : Int)) (Y + (j : Int)) = v := ⟨_, rfl⟩
          obtain ⟨va, hva⟩ : ∃ v, pxAt W px (X + (i : Int)) (Y + (j : Int)) = v := ⟨_, rfl⟩
          obtain ⟨vf, hvf⟩ : ∃ v, pxAt W px (X + (i : Int) - dx) (Y + (j : Int) - dy) = v := ⟨_, rfl⟩
          have cB := fun w' (h : Ext w w') => at_px (HB.out.ext h) hp1 hvb
          have cA := fun w' (h : Ext w w') => at_px (HA.out.ext h) hp1 hva
          have cF := fun w' (h : Ext w w') => at_px (HA.out.ext h) hp2 hvf
          have s1 : IntKind.i64.wrap (X + (i : Int) - dx) = X + (i : Int) - dx := IntWalk.i64_in _ (by omega)
          have s2 : IntKind.i64.wrap (Y + (j : Int) - dy) = Y + (j : Int) - dy := IntWalk.i64_in _ (by omega)
          have hmv : movedAt W px qx dx dy (X + (i : Int), Y + (j : Int)) = (vb == vf) := by unfold movedAt; dsimp only; rw [hvb, hvf]
          have hot : otherAt W px qx (X + (i : Int), Y + (j : Int)) = (vb != va) := by unfold otherAt; dsimp only; rw [hvb, hva]
          have hsn : rowR t j (i + 1) = rowR t j i ++ [(X + (i : Int), Y + (j : Int))] := by rw [rowR_succ, HXY.out.1, HXY.out.2]
          have HMV := Lib.hid hmv
          have HOT := Lib.hid hot
          have HSN := Lib.hid hsn
          clear hp1 hp2 hvb hva hvf hmv hot hsn
          have hEw := hE0.trans hEi
          go_wp2_with fail
          refine (cB _ hEw).mono ?_
          rintro e w1 ⟨rfl, E⟩
          replace hEw := hEw.trans E
          replace hEi := hEi.trans E
          clear E ca fa cb fb ct ft
          obtain ⟨ca, fa⟩ := blk_rules (hEw.keep ka)
          go_wp2_with fail
          refine (cA _ hEw).mono ?_
          rintro e w2 ⟨rfl, E⟩
          replace hEw := hEw.trans E
          replace hEi := hEi.trans E
          clear E ca fa
          obtain ⟨ca, fa⟩ := blk_rules (hEw.keep ka)
          go_wp2_with fail
          refine (cF _ hEw).mono ?_
          rintro e w3 ⟨rfl, E⟩
          replace hEw := hEw.trans E
          replace hEi := hEi.trans E
          clear E ca fa cA cB cF
          cases hvv : (vb == vf)
          · have hno : fitsP W px qx t dx dy = false := by
              unfold fitsP
              have : (cellsR t).all (movedAt W px qx dx dy) = false := by
                rw [List.all_eq_false]
                refine ⟨_, HMEM.out i j hli hlt, ?_⟩
                rw [HMV.out, hvv]
                simp
              rw [this]
              rfl
            have HNO := Lib.hid hno
            clear hno
            go_wp2_with fail
            simp only [Exit.inBlock, Exit.then, Exit.noGoto_ret]
            go_ret
            exact ⟨by rw [HNO.out]; rfl, hEw⟩
          · have hall3 : (rowR t j (i + 1)).all (movedAt W px qx dx dy) = true := by
              rw [HSN.out, List.all_append, HALL2.out]
              simp [HMV.out, hvv]
            have hany3 : (u0 || (rowR t j (i + 1)).any (otherAt W px qx)) = (u1 || (vb != va)) := by
              rw [HSN.out, List.any_append, ← Bool.or_assoc, HU1.out]
              simp [HOT.out]
            have H3 := Lib.hid hall3
            have H4 := Lib.hid hany3
            clear hall3 hany3
            cases u1
            · go_wp2_with fail
              exact ⟨⟨i + 1, by omega, by go_num, rfl, by rw [H4.out]; simp, H3.out, hEi⟩, by simp [intOf]; omega⟩
            · go_wp2_with fail
              exact ⟨⟨i + 1, by omega, by go_num, rfl, by rw [H4.out]; simp, H3.out, hEi⟩, by simp [intOf]; omega⟩
        · obtain rfl : i = Wt := by omega
          have hall3 : (rowsR t (j + 1)).all (movedAt W px qx dx dy) = true := by rw [HRS.out, List.all_append, HALL.out, HALL2.out]; rfl
          have hany3 : (rowsR t (j + 1)).any (otherAt W px qx) = u1 := by rw [HRS.out, List.any_append, HU0.out, HU1.out]
          have H3 := Lib.hid hall3
          have H4 := Lib.hid hany3
          clear hall3 hany3
          go_wp2_with fail
          exact ⟨⟨j + 1, by omega, by go_num, rfl, by rw [H4.out], H3.out, hEi⟩, by simp [intOf]; omega⟩
    · obtain rfl : j = Ht := by omega
      have hf := HFIT.out
      rw [HALL.out, Bool.true_and] at hf
      have HF := Lib.hid hf
      clear hf
      obtain ⟨u0, hu0⟩ : ∃ u0, (rowsR t j).any (otherAt W px qx) = u0 := ⟨_, rfl⟩
      simp only [hu0]
      have HU0 := Lib.hid hu0
      clear hu0
      cases u0
      · go_wp2_with fail
        simp only [Exit.inBlock, Exit.then, Exit.noGoto_ret]
        go_ret
        exact ⟨by rw [HF.out, HU0.out]; rfl, hE0.trans hEj⟩
      · go_wp2_with fail
        simp only [Exit.inBlock, Exit.then, Exit.noGoto_ret]
        go_ret
        exact ⟨by rw [HF.out, HU0.out]; rfl, hE0.trans hEj⟩
end Go.Proofs.Ytjghghbldifhaaa
