/- One round of scroll.Find. Printed by gen_scrj.py. -/
import Derived.Test.YtjghghbldifhaaaBoxS
import Derived.Test.YtjghghbldifhaaaScrA
import Derived.Laws.EntriesVeiled
set_option linter.unusedVariables false
set_option linter.unusedSimpArgs false
namespace Go.Proofs.Ytjghghbldifhaaa
open Go.RowKit Go.Shelf
attribute [local go_sem] Oper.semAt_some
/-- The body of the first range over a function. -/
def findRangeBody : Code → Option Code
  | .block _ c => findRangeBody c
  | .seq a b => match findRangeBody a with
    | some x => some x
    | none => findRangeBody b
  | .scope c => findRangeBody c
  | .cond _ a b => match findRangeBody a with
    | some x => some x
    | none => findRangeBody b
  | .rangeFunc _ _ _ b => some b
  | _ => none
noncomputable def roundC : Code := (Try.f52.body.bind findRangeBody).getD .skip
/-- What holds while nothing is found. -/
def GoesI {N : Nat} (W : Int) (px qx : List Int) (box : Rect) (w7 : World) (pre : List (Fin N)) (W1 : World) : Prop := (∀ i ∈ pre, tryAt W px qx box i.val = false) ∧ Ext w7 W1
/-- What holds when the last step was found. -/
def GoesX {N : Nat} (W : Int) (px qx : List Int) (box : Rect) (w : World) (P6 P7 : Nat) (c : Code) (pre : List (Fin N)) (W1 : World) : Prop := c = .ret ∧ ∃ (p : List (Fin N)) (x : Fin N) (t : Rect) (dx dy : Int), pre = p ++ [x] ∧ (∀ i ∈ p, tryAt W px qx box i.val = false) ∧ tryAt W px qx box x.val = true ∧ stepAt x.val = (dx, dy) ∧ toQ box dx dy = t ∧ W1.heap[P6]? = some (.cells #[.int .i64 t.x, .int .i64 t.y, .int .i64 t.w, .int .i64 t.h, .int .i64 dx, .int .i64 dy] 54 (0, 0)) ∧ W1.heap[P7]? = some (.cells #[.bool true] 4 (0, 0)) ∧ Ext w W1
set_option maxRecDepth 100000 in
set_option maxHeartbeats 64000000 in
theorem scroll_round (c0 c1 c2 c3 c4 c5 c8 c9 c10 c11 c16 c17 c18 c19 c20 c21 c22 c23 c24 c25 c26 c27 c28 c29 c30 c31 c32 c33 c34 c35 c36 c37 c38 c39 c40 c41 c42 c43 c44 c45 c46 c47 c48 c49 c50 c51 c52 c53 c54 c55 c56 c57 c58 c59 c60 c61 c62 c63 c64 c65 c66 c67 c68 c69 c70 c71 c72 c73 c74 c75 c76 c77 c78 c79 c80 c81 c82 c83 c84 c85 c86 c87 c88 c89 : Value) (lp nn : Nat) (w w7 W1 : World) (P6 P7 P8 P10 P12 P13 Y base0 b0 p0 q0 base1 b1 p1 q1 : Nat) (W H : Int) (px qx : List Int) (box : Rect) (N : Nat) (pre : List (Fin N)) (x : Fin N) (dx dy : Int) (hst : stepAt x.val = (dx, dy)) (HIN : Hid (∀ dx dy : Int, StepIn W H (toQ box dx dy) dx dy)) (hI : GoesI W px qx box w7 pre W1) (hP67 : P6 ≠ P7) (hP6 : w.heap.size ≤ P6) (hP7 : w.heap.size ≤ P7)
    (k6 : w7.heap[P6]? = some (.cells #[.int .i64 0, .int .i64 0, .int .i64 0, .int .i64 0, .int .i64 0, .int .i64 0] 54 (0, 0))) (k7 : w7.heap[P7]? = some (.cells #[.bool false] 4 (0, 0)))
    (kk0 : w7.heap[P8]? = some (.cells #[.pointer (some ⟨b0, 0, none⟩)] 60 (0, 0))) (kk1 : w7.heap[P10]? = some (.cells #[.pointer (some ⟨b1, 0, none⟩)] 60 (0, 0)))
    (kbx : w7.heap[P12]? = some (.cells #[.int .i64 box.x, .int .i64 box.y, .int .i64 box.w, .int .i64 box.h] 26 (0, 0)))
    (k13 : w7.heap[P13]? = some (.cells #[.func (.func 101) #[] #[.pointer (some ⟨P10, 0, none⟩), .pointer (some ⟨P8, 0, none⟩)]] 37 (0, 0)))
    (hB0 : Hid (BufAt 117 58 w7 base0 b0 p0 q0 W H px)) (hB1 : Hid (BufAt 117 58 w7 base1 b1 p1 q1 W H qx)) (hE0 : Ext w w7) :
    Code.wpIn (Fence.wide.inRound lp) nn Try.prog roundC (ownPostK (KeptP fun k => k = Y) (GoesI W px qx box w7) (GoesX W px qx box w P6 P7) (pre ++ [x]) W1) { tmps := #[c0, c1, c2, c3, c4, c5, .pointer (some ⟨P6, 0, none⟩), .pointer (some ⟨P7, 0, none⟩), c8, c9, c10, c11, .pointer (some ⟨P12, 0, none⟩), .pointer (some ⟨P13, 0, none⟩), .int .i64 dx, .int .i64 dy, c16, c17, c18, c19, c20, c21, c22, c23, c24, c25, c26, c27, c28, c29, c30, c31, c32, c33, c34, c35, c36, c37, c38, c39, c40, c41, c42, c43, c44, c45, c46, c47, c48, c49, c50, c51, c52, c53, c54, c55, c56, c57, c58, c59, c60, c61, c62, c63, c64, c65, c66, c67, c68, c69, c70, c71, c72, c73, c74, c75, c76, c77, c78, c79, c80, c81, c82, c83, c84, c85, c86, c87, c88, c89], defers := [] } W1 := by
  conv => arg 4; whnf
  obtain ⟨hno, hE⟩ := hI
  have HNO := Lib.hid hno
  obtain ⟨t, ht⟩ : ∃ t, toQ box dx dy = t := ⟨_, rfl⟩
  have htry : tryAt W px qx box x.val = (decide (box.area ≤ t.area * 2) && fitsP W px qx t dx dy) := by
    unfold tryAt tryP
    rw [hst]
    dsimp only
    rw [ht]
  have hfit := HIN.out dx dy
  rw [ht] at hfit
  have HFIT := Lib.hid hfit
  have HST := Lib.hid hst
  have HT := Lib.hid ht
  have HTRY := Lib.hid htry
  have hla := Rect.area_bd t
  have hlb := Rect.area_bd box
  clear hno hst ht htry hfit
  gi_wp2
  refine toP _ _ _ _ _ _ _ _ _ _ _ _ _ _ _ _ _ _ _ _ _ _ _ _ _ _ _ _ _ _ _ _ _ _ _ _ _ _ _ _ _ _ _ _ _ _ _ _ _ _ _ _ _ _ _ _ _ _ _ _ _ _ _ _ _ _ _ _ _ _ _ _ _ _ _ _ _ _ _ _ _ _ _ _ _ _ _ W1 P12 lp _ box dx dy t HT.out _ _ (hE.keep kbx) ?_
  intro _ _ _ _ _ _ P16 W2 k16 _ E12
  have hE2 := hE.trans E12
  have kb2 := hE2.keep kbx
  have k132 := hE2.keep k13
  have cA := fun w => area_any t.x t.y t.w t.h w
  have cB := fun w => area_any box.x box.y box.w box.h w
  have cF := fun w (h : Ext w7 w) => fits1_any (hB0.out.ext h) (hB1.out.ext h) (h.keep kk0) (h.keep kk1) t dx dy HFIT.out
  simp only [show Rect.mk t.x t.y t.w t.h = t from rfl] at cA
  simp only [show Rect.mk box.x box.y box.w box.h = box from rfl] at cB
  obtain ⟨at_, hat⟩ : ∃ a, t.area = a := ⟨_, rfl⟩
  obtain ⟨ab, hab⟩ : ∃ a, box.area = a := ⟨_, rfl⟩
  rw [hat] at hla HTRY
  rw [hab] at hlb HTRY
  simp only [hat] at cA
  simp only [hab] at cB
  clear hat hab
  have s1 : IntKind.i64.wrap (2 * at_) = 2 * at_ := IntWalk.i64_in _ (by omega)
  have j0 := After.blk k16
  have j1 := After.blk kb2
  have j2 := After.blk k132
  by_cases hle : ab ≤ 2 * at_
  · have hd : decide (ab ≤ 2 * at_) = true := decide_eq_true hle
    have htry := HTRY.out
    rw [decide_eq_true (show ab ≤ at_ * 2 by omega), Bool.true_and] at htry
    clear HTRY
    cases hv : fitsP W px qx t dx dy
    · rw [hv] at htry
      simp only [hv] at cF
      have HTR := Lib.hid htry
      clear htry hv
      gi_wp2
      refine round_after (by kernel_rfl) (by kernel_rfl) (by kernel_rfl) ?_
      repeat (go_big_quiet_step (first | with_reducible exact Calls.after (cA _) | with_reducible exact Calls.after (cB _) | with_reducible exact Calls.after (cF _ (hE2.trans (After.ext _)))))
      refine wpQuiet_nil ?_
      intro _ hw'
      obtain ⟨z, rfl⟩ := hw'
      have E := hE2.trans z.ext
      have E13 := E12.trans z.ext
      generalize z.now = W3 at *
      clear z j0 j1 j2 cA cB cF
      gi_wp2
      exact ⟨KeepsOthers.of_ext E13, KeptP.of_ext E13, fun i hi => (by
        rcases List.mem_append.1 hi with h | h
        · exact HNO.out i h
        · obtain rfl : i = x := by simpa using h
          exact HTR.out), E⟩
    · rw [hv] at htry
      simp only [hv] at cF
      have HTR := Lib.hid htry
      clear htry hv
      gi_wp2
      refine round_after (by kernel_rfl) (by kernel_rfl) (by kernel_rfl) ?_
      repeat (go_big_quiet_step (first | with_reducible exact Calls.after (cA _) | with_reducible exact Calls.after (cB _) | with_reducible exact Calls.after (cF _ (hE2.trans (After.ext _)))))
      refine wpQuiet_nil ?_
      intro _ hw'
      obtain ⟨z, rfl⟩ := hw'
      have E := hE2.trans z.ext
      have E13 := E12.trans z.ext
      have k163 := z.ext.keep k16
      generalize z.now = W3 at *
      clear z j0 j1 j2 cA cB cF
      have k63 := E.keep k6
      have k73 := E.keep k7
      obtain ⟨c6, f6⟩ := blk_rules k63
      obtain ⟨c7, f7⟩ := blk_rules k73
      obtain ⟨c16, f16⟩ := blk_rules k163
      have l6 := blk_lt k63
      have l7 := blk_lt k73
      gi_wp2
      have m6 := blk_set (blk_set (blk_set (blk_set (blk_set (blk_set k63 0 (.int .i64 t.x)) 1 (.int .i64 t.y)) 2 (.int .i64 t.w)) 3 (.int .i64 t.h)) 4 (.int .i64 dx)) 5 (.int .i64 dy)
      have m7 := blk_set (blk_set_ne (blk_set_ne (blk_set_ne (blk_set_ne (blk_set_ne (blk_set_ne k73 hP67.symm 0 (.int .i64 t.x)) hP67.symm 1 (.int .i64 t.y)) hP67.symm 2 (.int .i64 t.w)) hP67.symm 3 (.int .i64 t.h)) hP67.symm 4 (.int .i64 dx)) hP67.symm 5 (.int .i64 dy)) 0 (.bool true)
      refine ⟨?_, rfl, pre, x, t, dx, dy, rfl, HNO.out, HTR.out, HST.out, HT.out, ?_, ?_, ?_⟩
      · repeat' (first | with_reducible exact KeepsOthers.of_ext E13 | with_reducible refine KeepsOthers.trans ?_ (KeepsOthers.setCell _ _ _))
      · simpa using blk_set_ne m6 hP67 0 (.bool true)
      · simpa using m7
      · have hEw := hE0.trans E
        repeat' (first | with_reducible exact hEw | with_reducible refine Ext.set ?_ ?_ _ | (dsimp only; omega) | (simp; done))
  · have hd : decide (ab ≤ 2 * at_) = false := decide_eq_false hle
    have htry := HTRY.out
    rw [decide_eq_false (show ¬ ab ≤ at_ * 2 by omega), Bool.false_and] at htry
    have HTR := Lib.hid htry
    clear htry HTRY
    gi_wp2
    refine round_after (by kernel_rfl) (by kernel_rfl) (by kernel_rfl) ?_
    repeat (go_big_quiet_step (first | with_reducible exact Calls.after (cA _) | with_reducible exact Calls.after (cB _)))
    refine wpQuiet_nil ?_
    intro _ hw'
    obtain ⟨z, rfl⟩ := hw'
    have E := hE2.trans z.ext
    have E13 := E12.trans z.ext
    generalize z.now = W3 at *
    clear z j0 j1 j2 cA cB cF
    gi_wp2
    exact ⟨KeepsOthers.of_ext E13, KeptP.of_ext E13, fun i hi => (by
      rcases List.mem_append.1 hi with h | h
      · exact HNO.out i h
      · obtain rfl : i = x := by simpa using h
        exact HTR.out), E⟩
end Go.Proofs.Ytjghghbldifhaaa
