/- One round of scroll.Find. Printed by gen_scrj.py. -/
/- scroll.Find of two pictures of one size. Printed by gen_scri.py. -/
import Derived.Test.YtjghghbldifhaaaBoxS
import Derived.Test.YtjghghbldifhaaaScrA
import Derived.Laws.EntriesVeiled
import Derived.Test.YtjghghbldifhaaaScrH
import Derived.Test.YtjghghbldifhaaaScrE
import Derived.Test.YtjghghbldifhaaaScrF
set_option linter.unusedVariables false
set_option linter.unusedSimpArgs false
namespace Go.Proofs.Ytjghghbldifhaaa
open Go.RowKit Go.Shelf
attribute [local go_sem] Oper.semAt_some
/-- The body of the first range over a function. -/
def findRangeBody : Code → Option Code
  | .block _ c => findRangeBody c
  | .seq a b => match findRangeBody a with
    | some x => some x
    | none => findRangeBody b
  | .scope c => findRangeBody c
  | .cond _ a b => match findRangeBody a with
    | some x => some x
    | none => findRangeBody b
  | .rangeFunc _ _ _ b => some b
  | _ => none
noncomputable def roundC : Code := (Try.f52.body.bind findRangeBody).getD .skip
/-- What holds while nothing is found. -/
def GoesI {N : Nat} (W : Int) (px qx : List Int) (box : Rect) (w7 : World) (pre : List (Fin N)) (W1 : World) : Prop := (∀ i ∈ pre, tryAt W px qx box i.val = false) ∧ Ext w7 W1
/-- What holds when the last step was found. -/
def GoesX {N : Nat} (W : Int) (px qx : List Int) (box : Rect) (w : World) (P6 P7 : Nat) (c : Code) (pre : List (Fin N)) (W1 : World) : Prop := c = .ret ∧ ∃ (p : List (Fin N)) (x : Fin N) (t : Rect) (dx dy : Int), pre = p ++ [x] ∧ (∀ i ∈ p, tryAt W px qx box i.val = false) ∧ tryAt W px qx box x.val = true ∧ stepAt x.val = (dx, dy) ∧ toQ box dx dy = t ∧ W1.heap[P6]? = some (.cells #[.int .i64 t.x, .int .i64 t.y, .int .i64 t.w, .int .i64 t.h, .int .i64 dx, .int .i64 dy] 54 (0, 0)) ∧ W1.heap[P7]? = some (.cells #[.bool true] 4 (0, 0)) ∧ Ext w W1
set_option maxRecDepth 100000 in
set_option maxHeartbeats 64000000 in
theorem scroll_round (c0 c1 c2 c3 c4 c5 c8 c9 c10 c11 c16 c17 c18 c19 c20 c21 c22 c23 c24 c25 c26 c27 c28 c29 c30 c31 c32 c33 c34 c35 c36 c37 c38 c39 c40 c41 c42 c43 c44 c45 c46 c47 c48 c49 c50 c51 c52 c53 c54 c55 c56 c57 c58 c59 c60 c61 c62 c63 c64 c65 c66 c67 c68 c69 c70 c71 c72 c73 c74 c75 c76 c77 c78 c79 c80 c81 c82 c83 c84 c85 c86 c87 c88 c89 : Value) (lp nn : Nat) (w w7 W1 : World) (P6 P7 P8 P10 P12 P13 Y base0 b0 p0 q0 base1 b1 p1 q1 : Nat) (W H : Int) (px qx : List Int) (box : Rect) (N : Nat) (pre : List (Fin N)) (x : Fin N) (dx dy : Int) (hst : stepAt x.val = (dx, dy)) (HIN : Hid (∀ dx dy : Int, StepIn W H (toQ box dx dy) dx dy)) (hI : GoesI W px qx box w7 pre W1) (hP67 : P6 ≠ P7) (hP6 : w.heap.size ≤ P6) (hP7 : w.heap.size ≤ P7)
    (k6 : w7.heap[P6]? = some (.cells #[.int .i64 0, .int .i64 0, .int .i64 0, .int .i64 0, .int .i64 0, .int .i64 0] 54 (0, 0))) (k7 : w7.heap[P7]? = some (.cells #[.bool false] 4 (0, 0)))
    (kk0 : w7.heap[P8]? = some (.cells #[.pointer (some ⟨b0, 0, none⟩)] 60 (0, 0))) (kk1 : w7.heap[P10]? = some (.cells #[.pointer (some ⟨b1, 0, none⟩)] 60 (0, 0)))
    (kbx : w7.heap[P12]? = some (.cells #[.int .i64 box.x, .int .i64 box.y, .int .i64 box.w, .int .i64 box.h] 26 (0, 0)))
    (k13 : w7.heap[P13]? = some (.cells #[.func (.func 101) #[] #[.pointer (some ⟨P10, 0, none⟩), .pointer (some ⟨P8, 0, none⟩)]] 37 (0, 0)))
    (hB0 : Hid (BufAt 117 58 w7 base0 b0 p0 q0 W H px)) (hB1 : Hid (BufAt 117 58 w7 base1 b1 p1 q1 W H qx)) (hE0 : Ext w w7) :
    Code.wpIn (Fence.wide.inRound lp) nn Try.prog roundC (ownPostK (KeptP fun k => k = Y) (GoesI W px qx box w7) (GoesX W px qx box w P6 P7) (pre ++ [x]) W1) { tmps := #[c0, c1, c2, c3, c4, c5, .pointer (some ⟨P6, 0, none⟩), .pointer (some ⟨P7, 0, none⟩), c8, c9, c10, c11, .pointer (some ⟨P12, 0, none⟩), .pointer (some ⟨P13, 0, none⟩), .int .i64 dx, .int .i64 dy, c16, c17, c18, c19, c20, c21, c22, c23, c24, c25, c26, c27, c28, c29, c30, c31, c32, c33, c34, c35, c36, c37, c38, c39, c40, c41, c42, c43, c44, c45, c46, c47, c48, c49, c50, c51, c52, c53, c54, c55, c56, c57, c58, c59, c60, c61, c62, c63, c64, c65, c66, c67, c68, c69, c70, c71, c72, c73, c74, c75, c76, c77, c78, c79, c80, c81, c82, c83, c84, c85, c86, c87, c88, c89], defers := [] } W1 := by
  conv => arg 4; whnf
  obtain ⟨hno, hE⟩ := hI
  have HNO := Lib.hid hno
  obtain ⟨t, ht⟩ : ∃ t, toQ box dx dy = t := ⟨_, rfl⟩
  have htry : tryAt W px qx box x.val = (decide (box.area ≤ t.area * 2) && fitsP W px qx t dx dy) := by
    unfold tryAt tryP
    rw [hst]
    dsimp only
    rw [ht]
  have hfit := HIN.out dx dy
  rw [ht] at hfit
  have HFIT := Lib.hid hfit
  have HST := Lib.hid hst
  have HT := Lib.hid ht
  have HTRY := Lib.hid htry
  have hla := Rect.area_bd t
  have hlb := Rect.area_bd box
  clear hno hst ht htry hfit
  gi_wp2
  refine toP _ _ _ _ _ _ _ _ _ _ _ _ _ _ _ _ _ _ _ _ _ _ _ _ _ _ _ _ _ _ _ _ _ _ _ _ _ _ _ _ _ _ _ _ _ _ _ _ _ _ _ _ _ _ _ _ _ _ _ _ _ _ _ _ _ _ _ _ _ _ _ _ _ _ _ _ _ _ _ _ _ _ _ _ _ _ _ W1 P12 lp _ box dx dy t HT.out _ _ (hE.keep kbx) ?_
  intro _ _ _ _ _ _ P16 W2 k16 _ E12
  have hE2 := hE.trans E12
  have kb2 := hE2.keep kbx
  have k132 := hE2.keep k13
  have cA := fun w => area_any t.x t.y t.w t.h w
  have cB := fun w => area_any box.x box.y box.w box.h w
  have cF := fun w (h : Ext w7 w) => fits1_any (hB0.out.ext h) (hB1.out.ext h) (h.keep kk0) (h.keep kk1) t dx dy HFIT.out
  simp only [show Rect.mk t.x t.y t.w t.h = t from rfl] at cA
  simp only [show Rect.mk box.x box.y box.w box.h = box from rfl] at cB
  obtain ⟨at_, hat⟩ : ∃ a, t.area = a := ⟨_, rfl⟩
  obtain ⟨ab, hab⟩ : ∃ a, box.area = a := ⟨_, rfl⟩
  rw [hat] at hla HTRY
  rw [hab] at hlb HTRY
  simp only [hat] at cA
  simp only [hab] at cB
  clear hat hab
  have s1 : IntKind.i64.wrap (2 * at_) = 2 * at_ := IntWalk.i64_in _ (by omega)
  have j0 := After.blk k16
  have j1 := After.blk kb2
  have j2 := After.blk k132
  by_cases hle : ab ≤ 2 * at_
  · have hd : decide (ab ≤ 2 * at_) = true := decide_eq_true hle
    have htry := HTRY.out
    rw [decide_eq_true (show ab ≤ at_ * 2 by omega), Bool.true_and] at htry
    clear HTRY
    cases hv : fitsP W px qx t dx dy
    · rw [hv] at htry
      simp only [hv] at cF
      have HTR := Lib.hid htry
      clear htry hv
      gi_wp2
      refine round_after (by kernel_rfl) (by kernel_rfl) (by kernel_rfl) ?_
      repeat (go_big_quiet_step (first | with_reducible exact Calls.after (cA _) | with_reducible exact Calls.after (cB _) | with_reducible exact Calls.after (cF _ (hE2.trans (After.ext _)))))
      refine wpQuiet_nil ?_
      intro _ hw'
      obtain ⟨z, rfl⟩ := hw'
      have E := hE2.trans z.ext
      have E13 := E12.trans z.ext
      generalize z.now = W3 at *
      clear z j0 j1 j2 cA cB cF
      gi_wp2
      exact ⟨KeepsOthers.of_ext E13, KeptP.of_ext E13, fun i hi => (by
        rcases List.mem_append.1 hi with h | h
        · exact HNO.out i h
        · obtain rfl : i = x := by simpa using h
          exact HTR.out), E⟩
    · rw [hv] at htry
      simp only [hv] at cF
      have HTR := Lib.hid htry
      clear htry hv
      gi_wp2
      refine round_after (by kernel_rfl) (by kernel_rfl) (by kernel_rfl) ?_
      repeat (go_big_quiet_step (first | with_reducible exact Calls.after (cA _) | with_reducible exact Calls.after (cB _) | with_reducible exact Calls.after (cF _ (hE2.trans (After.ext _)))))
      refine wpQuiet_nil ?_
      intro _ hw'
      obtain ⟨z, rfl⟩ := hw'
      have E := hE2.trans z.ext
      have E13 := E12.trans z.ext
      have k163 := z.ext.keep k16
      generalize z.now = W3 at *
      clear z j0 j1 j2 cA cB cF
      have k63 := E.keep k6
      have k73 := E.keep k7
      obtain ⟨c6, f6⟩ := blk_rules k63
      obtain ⟨c7, f7⟩ := blk_rules k73
      obtain ⟨c16, f16⟩ := blk_rules k163
      have l6 := blk_lt k63
      have l7 := blk_lt k73
      gi_wp2
      have m6 := blk_set (blk_set (blk_set (blk_set (blk_set (blk_set k63 0 (.int .i64 t.x)) 1 (.int .i64 t.y)) 2 (.int .i64 t.w)) 3 (.int .i64 t.h)) 4 (.int .i64 dx)) 5 (.int .i64 dy)
      have m7 := blk_set (blk_set_ne (blk_set_ne (blk_set_ne (blk_set_ne (blk_set_ne (blk_set_ne k73 hP67.symm 0 (.int .i64 t.x)) hP67.symm 1 (.int .i64 t.y)) hP67.symm 2 (.int .i64 t.w)) hP67.symm 3 (.int .i64 t.h)) hP67.symm 4 (.int .i64 dx)) hP67.symm 5 (.int .i64 dy)) 0 (.bool true)
      refine ⟨?_, rfl, pre, x, t, dx, dy, rfl, HNO.out, HTR.out, HST.out, HT.out, ?_, ?_, ?_⟩
      · repeat' (first | with_reducible exact KeepsOthers.of_ext E13 | with_reducible refine KeepsOthers.trans ?_ (KeepsOthers.setCell _ _ _))
      · simpa using blk_set_ne m6 hP67 0 (.bool true)
      · simpa using m7
      · have hEw := hE0.trans E
        repeat' (first | with_reducible exact hEw | with_reducible refine Ext.set ?_ ?_ _ | (dsimp only; omega) | (simp; done))
  · have hd : decide (ab ≤ 2 * at_) = false := decide_eq_false hle
    have htry := HTRY.out
    rw [decide_eq_false (show ¬ ab ≤ at_ * 2 by omega), Bool.false_and] at htry
    have HTR := Lib.hid htry
    clear htry HTRY
    gi_wp2
    refine round_after (by kernel_rfl) (by kernel_rfl) (by kernel_rfl) ?_
    repeat (go_big_quiet_step (first | with_reducible exact Calls.after (cA _) | with_reducible exact Calls.after (cB _)))
    refine wpQuiet_nil ?_
    intro _ hw'
    obtain ⟨z, rfl⟩ := hw'
    have E := hE2.trans z.ext
    have E13 := E12.trans z.ext
    generalize z.now = W3 at *
    clear z j0 j1 j2 cA cB cF
    gi_wp2
    exact ⟨KeepsOthers.of_ext E13, KeptP.of_ext E13, fun i hi => (by
      rcases List.mem_append.1 hi with h | h
      · exact HNO.out i h
      · obtain rfl : i = x := by simpa using h
        exact HTR.out), E⟩
end Go.Proofs.Ytjghghbldifhaaa
set_option linter.unusedVariables false
set_option linter.unusedSimpArgs false
namespace Go.Proofs.Ytjghghbldifhaaa
open Go.RowKit Go.Shelf
attribute [local go_sem] Oper.semAt_some
theorem steps_stops (n : Nat) (hn : 1 ≤ n) (Y S N : Nat) (hS1 : 1 ≤ S) (hS : S ≤ 256) (hN : N = 4 * (S - 1)) (W0 : World) (kY : W0.heap[Y]? = some (.cells #[.int .i64 S] 3 (0, 0))) :
    SeqStopsK Fence.wide n Try.prog 125 #[.pointer (some ⟨Y, 0, none⟩)] (fun i : Fin N => stepArgs i.val) (KeptP (fun k => k = Y)) (fun zs => zs.map Fin.val = List.range N) (fun zs => zs.map Fin.val = List.range zs.length) N W0 := by
  intro l J Jx W1 hW hJ _ hY h0
  refine (steps1_in n hn l Y S N hS1 hS hN J (fun pre W => Jx pre W ∧ pre.map Fin.val = List.range pre.length) W1 (fun k => k = Y) rfl ?_ (Ext.keep hW kY) h0).mono ?_
  · intro pre i W2 hJ2 hpre
    have hlen : pre.length = i.val := by simpa using congrArg List.length hpre
    refine (hY pre i W2 hJ2 (by have := i.isLt; omega)).mono ?_
    rintro e W3 (h | ⟨h1, h2⟩)
    · exact .inl h
    · exact .inr ⟨h1, h2, by rw [List.map_append, hpre, List.length_append, hlen, List.map_singleton, List.length_singleton, List.range_succ]⟩
  · rintro e W' ⟨he, ⟨zs, h1, h2⟩ | ⟨pre, h2, h3⟩⟩
    · exact ⟨he, .inl ⟨zs, h1, h2⟩⟩
    · exact ⟨he, .inr ⟨pre, h3, h2⟩⟩
theorem steps_first {N : Nat} {p : List (Fin N)} {x : Fin N} (h : (p ++ [x]).map Fin.val = List.range (p ++ [x]).length) {P : Nat → Bool} (hp : ∀ i ∈ p, P i.val = false) : ∀ i < x.val, P i = false := by
  rw [List.length_append, List.length_singleton, List.range_succ, List.map_append, List.map_singleton] at h
  obtain ⟨h1, h2⟩ := List.append_inj' h rfl
  have hx : x.val = p.length := by simpa using h2
  intro i hi
  have : i ∈ p.map Fin.val := by rw [h1]; exact List.mem_range.2 (by omega)
  obtain ⟨j, hj, rfl⟩ := List.mem_map.1 this
  exact hp j hj
theorem steps_all {N : Nat} {p : List (Fin N)} (h : p.map Fin.val = List.range N) {P : Nat → Bool} (hp : ∀ i ∈ p, P i.val = false) : ∀ i < N, P i = false := by
  intro i hi
  have : i ∈ p.map Fin.val := by rw [h]; exact List.mem_range.2 hi
  obtain ⟨j, hj, rfl⟩ := List.mem_map.1 this
  exact hp j hj
set_option maxRecDepth 100000 in
set_option maxHeartbeats 64000000 in
theorem scroll_good (A A' lA : Option Addr) (ca cb lc : Nat) (W H : Int) (xs ys : List Int) (l : List Rect) (w : World) (hp : isPic W H xs.length = true) (hq : isPic W H ys.length = true) (rx : Reads .u32 w A xs) (ry : Reads .u32 w A' ys) (hx : ∀ x ∈ xs, 0 ≤ x ∧ x ≤ 4294967295) (hy : ∀ x ∈ ys, 0 ≤ x ∧ x ≤ 4294967295) (rl : RectsAt w lA l) (hl : l.length ≤ 100000) :
    Calls Try.prog 52 #[.agg #[.int .i64 W, .int .i64 H, .slice A xs.length ca], .agg #[.int .i64 W, .int .i64 H, .slice A' ys.length cb], .slice lA l.length lc] w (GivesC (boxOf W H l) (foundP W H (xs.map cut24) (ys.map cut24) (boxOf W H l)) w) := by
  obtain ⟨b1, b2, b3, b4, hxl⟩ := isPic_form hp
  obtain ⟨_, _, _, _, hyl⟩ := isPic_form hq
  have hm := mul_bd b1 b2 b3 b4
  have dW : (W != W) = false := by simp
  have dH : (H != H) = false := by simp
  have RX := Lib.hid rx
  have RY := Lib.hid ry
  have HX := Lib.hid hx
  have HY := Lib.hid hy
  have RL := Lib.hid rl
  have hin0 := boxOf_in b1 b2 b3 b4 l
  have hZl : (listOf 2 l [⟨0, 0, W, H⟩]).length ≤ 1000000 := by
    have h1 := cut_length l ⟨0, 0, W, H⟩
    have h2 : Rect.area ⟨0, 0, W, H⟩ = W * H := area_full (Rect.empty_iff.2 (by dsimp only; omega))
    omega
  obtain ⟨Z, hZ⟩ : ∃ Z, listOf 2 l [⟨0, 0, W, H⟩] = Z := ⟨_, rfl⟩
  have hbx : boundsL Z = boxOf W H l := by rw [← hZ]; rfl
  rw [hZ] at hZl
  obtain ⟨box, hbox⟩ : ∃ b, boxOf W H l = b := ⟨_, rfl⟩
  rw [hbox] at hbx hin0 ⊢
  have HBX := Lib.hid hbx
  have HZ := Lib.hid hZ
  have HZL := Lib.hid hZl
  have HIN := Lib.hid (step_in b1 b2 b3 b4 hin0)
  obtain ⟨px, hpx⟩ : ∃ px, xs.map cut24 = px := ⟨_, rfl⟩
  obtain ⟨qx, hqx⟩ : ∃ qx, ys.map cut24 = qx := ⟨_, rfl⟩
  rw [hpx, hqx]
  have HPX := Lib.hid hpx
  have HQX := Lib.hid hqx
  obtain ⟨S, hS⟩ : ∃ S, S = (max W H).toNat := ⟨_, rfl⟩
  have HS1 := Lib.hid (show 1 ≤ S by omega)
  have HS2 := Lib.hid (show S ≤ 256 by omega)
  have HSM := Lib.hid (show (S : Int) = max W H by omega)
  have hmany : manyOf W H = 4 * (S - 1) := by unfold manyOf; rw [hS]
  obtain ⟨N, hN⟩ : ∃ N, N = 4 * (S - 1) := ⟨_, rfl⟩
  have HN := Lib.hid hN
  unfold GivesC
  obtain ⟨o, ho⟩ : ∃ o, foundP W H px qx box = o := ⟨_, rfl⟩
  have HFP : Hid ((List.range N).find? (tryAt W px qx box) = o) := Lib.hid (by rw [← ho]; unfold foundP; rw [hmany, hN])
  rw [ho]
  clear ho
  obtain ⟨cv, hcv⟩ : ∃ cv, copyV box o = cv := ⟨_, rfl⟩
  obtain ⟨is, his⟩ : ∃ is, o.isSome = is := ⟨_, rfl⟩
  rw [hcv, his]
  have HCV := Lib.hid hcv
  have HIS := Lib.hid his
  clear hcv his
  clear rx ry hx hy rl hbx hbox hZ hin0 hpx hqx hxl hyl hZl hN hmany hS hm
  refine (callsIn_wide (n := 5)).1 ?_
  refine callsIn_of_wp_marks Try.func52 rfl trivial ?_ rfl
  simp only [Try.ntmps52, List.size_toArray, List.length_cons, List.length_nil, Nat.reduceAdd, Nat.reduceSub, Array.replicate_succ, Array.replicate_zero, List.push_toArray, List.append_toArray, List.nil_append, List.cons_append]
  refine wpIn_wide.2 ?_
  go_wp2_with fail
  obtain ⟨w0, hw0⟩ : ∃ x, x = (((w.alloc (.cells #[.int .i64 W, .int .i64 H, .slice A xs.length ca] 43)).alloc (.cells #[.int .i64 W, .int .i64 H, .slice A' ys.length cb] 43)).alloc (.cells #[.int .i64 0, .int .i64 0, .int .i64 0, .int .i64 0, .int .i64 0, .int .i64 0] 54)).alloc (.cells #[.bool false] 4) := ⟨_, rfl⟩
  have k3 : w0.heap[w.heap.size]? = some (.cells #[.int .i64 W, .int .i64 H, .slice A xs.length ca] 43 (0, 0)) := by rw [hw0]; exact blk_old (blk_old (blk_old (blk_new w _) _) _) _
  have k4 : w0.heap[w.heap.size + 1]? = some (.cells #[.int .i64 W, .int .i64 H, .slice A' ys.length cb] 43 (0, 0)) := by rw [hw0]; exact blk_old (blk_old (blk_new1 w _ _) _) _
  have k6 : w0.heap[w.heap.size + 1 + 1]? = some (.cells #[.int .i64 0, .int .i64 0, .int .i64 0, .int .i64 0, .int .i64 0, .int .i64 0] 54 (0, 0)) := by rw [hw0]; exact blk_old (blk_new2 w _ _ _) _
  have k7 : w0.heap[w.heap.size + 1 + 1 + 1]? = some (.cells #[.bool false] 4 (0, 0)) := by rw [hw0]; exact blk_new3 w _ _ _ _
  have hE0 : Ext w w0 := by rw [hw0]; exact ((((Ext.refl w).alloc _).alloc _).alloc _).alloc _
  rw [← hw0]
  clear hw0
  refine (from_good W H A ca xs _ hp (RX.out.ext hE0) HX.out).mono ?_
  rintro e w1 ⟨b0, p0, q0, rfl, hB0, E⟩
  replace k3 := E.keep k3
  replace k4 := E.keep k4
  replace k6 := E.keep k6
  replace k7 := E.keep k7
  replace hE0 := hE0.trans E

  clear E
  obtain ⟨c4, f4⟩ := blk_rules k4
  have l4 := blk_lt k4
  go_wp2_with fail
  clear c4 f4 l4
  have kk0 : (w1.alloc (.cells #[.pointer (some ⟨b0, 0, none⟩)] 60)).heap[w1.heap.size]? = some (.cells #[.pointer (some ⟨b0, 0, none⟩)] 60 (0, 0)) := blk_new w1 _
  have E : Ext w1 (w1.alloc (.cells #[.pointer (some ⟨b0, 0, none⟩)] 60)) := (Ext.refl _).alloc _
  replace k3 := E.keep k3
  replace k4 := E.keep k4
  replace k6 := E.keep k6
  replace k7 := E.keep k7
  replace hE0 := hE0.trans E
  replace hB0 := hB0.ext E

  clear E
  generalize w1.alloc (.cells #[.pointer (some ⟨b0, 0, none⟩)] 60) = v1 at *
  obtain ⟨P8, hP8⟩ : ∃ x, w1.heap.size = x := ⟨_, rfl⟩
  simp only [hP8] at kk0 ⊢
  clear hP8
  refine (from_good W H A' cb ys _ hq (RY.out.ext hE0) HY.out).mono ?_
  rintro e w2 ⟨b1, p1, q1, rfl, hB1, E⟩
  replace k3 := E.keep k3
  replace k4 := E.keep k4
  replace k6 := E.keep k6
  replace k7 := E.keep k7
  replace hE0 := hE0.trans E
  replace hB0 := hB0.ext E
  replace kk0 := E.keep kk0
  clear E
  obtain ⟨c4, f4⟩ := blk_rules k4
  have l4 := blk_lt k4
  go_wp2_with fail
  clear c4 f4 l4
  have kk1 : (w2.alloc (.cells #[.pointer (some ⟨b1, 0, none⟩)] 60)).heap[w2.heap.size]? = some (.cells #[.pointer (some ⟨b1, 0, none⟩)] 60 (0, 0)) := blk_new w2 _
  have E : Ext w2 (w2.alloc (.cells #[.pointer (some ⟨b1, 0, none⟩)] 60)) := (Ext.refl _).alloc _
  replace k3 := E.keep k3
  replace k4 := E.keep k4
  replace k6 := E.keep k6
  replace k7 := E.keep k7
  replace hE0 := hE0.trans E
  replace hB1 := hB1.ext E
  replace hB0 := hB0.ext E
  replace kk0 := E.keep kk0
  clear E
  generalize w2.alloc (.cells #[.pointer (some ⟨b1, 0, none⟩)] 60) = v2 at *
  obtain ⟨P10, hP10⟩ : ∃ x, w2.heap.size = x := ⟨_, rfl⟩
  simp only [hP10] at kk1 ⊢
  clear hP10
  have j0 := After.blk kk0
  have j1 := After.blk kk1
  refine wp_region_after (by kernel_rfl) (by kernel_rfl) ?_
  repeat (go_big_quiet_step (first | with_reducible exact Calls.after_same (w_any (hB0.ext (After.ext _))) | with_reducible exact Calls.after_same (h_any (hB0.ext (After.ext _))) | with_reducible exact Calls.after_same (w_any (hB1.ext (After.ext _))) | with_reducible exact Calls.after_same (h_any (hB1.ext (After.ext _)))))
  refine wpQuiet_nil ?_
  intro _ hw'
  obtain ⟨z, rfl⟩ := hw'
  clear k3 k4 j0 j1
  rw [HPX.out] at hB0
  rw [HQX.out] at hB1
  have E := z.ext
  generalize z.now = w3 at *
  clear z
  replace k6 := E.keep k6
  replace k7 := E.keep k7
  replace kk0 := E.keep kk0
  replace kk1 := E.keep kk1
  replace hB0 := Lib.hid (hB0.ext E)
  replace hB1 := Lib.hid (hB1.ext E)
  replace hE0 := hE0.trans E
  clear E
  go_upto_region 5 with fail
  refine boxS _ _ _ _ _ _ _ _ _ _ _ _ _ _ _ _ _ _ _ _ _ _ _ _ _ _ _ _ _ _ _ _ _ _ _ _ _ _ _ _ _ _ _ _ _ _ _ _ _ _ _ _ _ _ _ _ _ _ _ _ _ _ _ _ _ _ _ _ _ _ _ _ _ _ _ _ _ _ _ _ _ _ _ _ _ _ _ _ w3 P8 _ b0 p0 q0 W H px lA lc l Z box HZ.out HBX.out HZL.out hl hB0 (Lib.hid (RL.out.ext hE0)) _ _ kk0 ?_
  intro _ _ _ _ _ _ _ _ _ P12 w4 kbx _ E
  replace k6 := E.keep k6
  replace k7 := E.keep k7
  replace kk0 := E.keep kk0
  replace kk1 := E.keep kk1
  replace hB0 := Lib.hid (hB0.out.ext E)
  replace hB1 := Lib.hid (hB1.out.ext E)
  replace hE0 := hE0.trans E
  clear E RL HZ HBX HZL HX HY RX RY HPX HQX
  go_wp2_with fail
  obtain ⟨w5, hw5⟩ : ∃ x, x = w4.alloc (.cells #[.func (.func 101) #[] #[.pointer (some ⟨P10, 0, none⟩), .pointer (some ⟨P8, 0, none⟩)]] 37) := ⟨_, rfl⟩
  obtain ⟨P13, hP13⟩ : ∃ g, g = w4.heap.size := ⟨_, rfl⟩
  have k13 : w5.heap[P13]? = some (.cells #[.func (.func 101) #[] #[.pointer (some ⟨P10, 0, none⟩), .pointer (some ⟨P8, 0, none⟩)]] 37 (0, 0)) := by rw [hw5, hP13]; exact blk_new w4 _
  have E : Ext w4 w5 := by rw [hw5]; exact (Ext.refl w4).alloc _
  rw [← hw5, ← hP13]
  clear hw5 hP13
  replace k6 := E.keep k6
  replace k7 := E.keep k7
  replace kk0 := E.keep kk0
  replace kk1 := E.keep kk1
  replace kbx := E.keep kbx
  replace hB0 := Lib.hid (hB0.out.ext E)
  replace hB1 := Lib.hid (hB1.out.ext E)
  replace hE0 := hE0.trans E
  clear E
  have j0 := After.blk kk0
  refine wp_region_sched (fun w' => ∃ x : After w5, w' = x.now) (by kernel_rfl) ?_
  refine held_take [0, 2] _ _ 4 rfl (by kernel_rfl) rfl (by kernel_rfl) ⟨⟨w5.drew, (Ext.refl w5).drew⟩, rfl⟩ ?_
  simp only [List.filterMap_cons, List.filterMap_nil, List.getElem?_toArray, List.getElem?_cons_succ, List.getElem?_cons_zero]
  repeat (quiet_step (fail))
  refine wpQuiet_nil ?_
  clear j0
  change wpAnyH _ _ _ _ _ _ _ _ w5.drew
  have E : Ext w5 w5.drew := (Ext.refl w5).drew
  generalize w5.drew = w6 at *
  refine held_step (k := 1) rfl (by kernel_rfl) ?_
  go_wp2_with fail
  refine (w_any (hB0.out.ext E)).mono ?_
  rintro e _ ⟨rfl, rfl⟩
  go_wp2_with fail
  refine ⟨⟨⟨w6, E⟩, rfl⟩, ?_⟩
  refine held_step (k := 3) rfl (by kernel_rfl) ?_
  go_wp2_with fail
  refine (h_any (hB0.out.ext E)).mono ?_
  rintro e _ ⟨rfl, rfl⟩
  go_wp2_with fail
  refine ⟨⟨⟨w6, E⟩, rfl⟩, ?_⟩
  refine held_step (k := 4) rfl (by kernel_rfl) ?_
  go_wp2_with fail
  refine ⟨⟨⟨w6, E⟩, rfl⟩, ?_⟩
  refine held_step (k := 5) rfl (by kernel_rfl) ?_
  go_wp2_with fail
  refine (steps_any _ _).mono ?_
  rintro e w7 ⟨rfl, hw7⟩
  have kY : w7.heap[w6.heap.size]? = some (.cells #[.int .i64 S] 3 (0, 0)) := by
    rw [hw7, HSM.out]
    exact blk_new w6 _
  have E2 : Ext w5 w7 := by rw [hw7]; exact E.alloc _
  clear hw7
  go_wp2_with fail
  refine ⟨⟨⟨w7, E2⟩, rfl⟩, ?_⟩
  refine held_done (by kernel_rfl) ?_
  obtain ⟨Y, hY⟩ : ∃ x, w6.heap.size = x := ⟨_, rfl⟩
  simp only [hY] at kY ⊢
  clear hY E
  replace k6 := E2.keep k6
  replace k7 := E2.keep k7
  replace kk0 := E2.keep kk0
  replace kk1 := E2.keep kk1
  replace kbx := E2.keep kbx
  replace k13 := E2.keep k13
  replace hB0 := Lib.hid (hB0.out.ext E2)
  replace hB1 := Lib.hid (hB1.out.ext E2)
  replace hE0 := hE0.trans E2
  clear E2
  go_wp2_with fail
  refine (wpIn_wide (n := 5)).1 ?_
  refine wpIn_rangeFunc_ownF (F := Fence.wide) (n := 5) (α := Fin N) rfl (by decide) (gf := 125) (lb := #[.pointer (some ⟨Y, 0, none⟩)]) rfl trivial (enters_of Try.func125 (by kernel_rfl) rfl)
    (steps_stops 4 (by decide) Y S N HS1.out HS2.out HN.out w7 kY) KeptP.trans (fun W l o o' _ h ho _ => keptP_b _ W l o o' h ho) (Below.refl _ _) (fun _ => rfl)
    (GoesI W px qx box w7)
    (GoesX W px qx box w (w.heap.size + 1 + 1) (w.heap.size + 1 + 1 + 1))
    (fun s A B row hs hg hr => ⟨hs.1, Below.grown hs.2 hg hs.2.size (fun r e => (hr r e).1)⟩)
    (fun c s A B row hs hg hr => by
      obtain ⟨rfl, p, x, t, dx, dy, e, h1, h2, g1, g2, h3, h4, h5⟩ := hs
      exact ⟨rfl, p, x, t, dx, dy, e, h1, h2, g1, g2, heap_turn hg (fun r e => (hr r e).2) h3, heap_turn hg (fun r e => (hr r e).2) h4, Below.grown h5 hg h5.size (fun r e => Nat.le_trans hE0.size (hr r e).1)⟩)
    ⟨fun i hi => absurd hi (by simp), Ext.refl _⟩
    ?fr ?assign ?body ?done ?stop
  case assign =>
    intro l x W1 K hK
    dsimp only [stepArgs]
    gi_wp2
    exact hK
  case body =>
    rintro lp pre x W1 hI hlt
    obtain ⟨⟨dx, dy⟩, hst⟩ : ∃ s, stepAt x.val = s := ⟨_, rfl⟩
    simp only [hst]
    exact scroll_round _ _ _ _ _ _ _ _ _ _ _ _ _ _ _ _ _ _ _ _ _ _ _ _ _ _ _ _ _ _ _ _ _ _ _ _ _ _ _ _ _ _ _ _ _ _ _ _ _ _ _ _ _ _ _ _ _ _ _ _ _ _ _ _ _ _ _ _ _ _ _ _ _ _ _ _ _ _ _ _ _ _ _ _ lp _ w w7 W1 (w.heap.size + 1 + 1) (w.heap.size + 1 + 1 + 1) P8 P10 P12 P13 Y _ b0 p0 q0 _ b1 p1 q1 W H px qx box N pre x dx dy hst HIN hI (by omega) (by omega) (by omega) k6 k7 kk0 kk1 kbx k13 hB0 hB1 hE0
  case done =>
    rintro D zs W1 hD hzs ⟨hno, hE⟩ hK
    have hfp := HFP.out
    rw [find_miss (steps_all hzs hno)] at hfp
    have hcv := HCV.out
    have his := HIS.out
    rw [← hfp] at hcv his
    have HF := Lib.hid hcv
    have HF2 := Lib.hid his
    clear hfp hcv his hno
    have k61 := hE.keep k6
    have k71 := hE.keep k7
    obtain ⟨c6, f6⟩ := blk_rules k61
    obtain ⟨c7, f7⟩ := blk_rules k71
    have l6 := blk_lt k61
    have l7 := blk_lt k71
    go_wp2_with fail
    have hD6 := blk_lt k6
    have hD7 := blk_lt k7
    have m6 := (blk_set (blk_set (blk_set (blk_set (blk_set (blk_set k61 0 (.int .i64 0)) 1 (.int .i64 0)) 2 (.int .i64 0)) 3 (.int .i64 0)) 4 (.int .i64 0)) 5 (.int .i64 0))
    have m7 := (blk_set_ne (blk_set_ne (blk_set_ne (blk_set_ne (blk_set_ne (blk_set_ne k71 (show w.heap.size + 1 + 1 + 1 ≠ w.heap.size + 1 + 1 by omega) 0 (.int .i64 0)) (show w.heap.size + 1 + 1 + 1 ≠ w.heap.size + 1 + 1 by omega) 1 (.int .i64 0)) (show w.heap.size + 1 + 1 + 1 ≠ w.heap.size + 1 + 1 by omega) 2 (.int .i64 0)) (show w.heap.size + 1 + 1 + 1 ≠ w.heap.size + 1 + 1 by omega) 3 (.int .i64 0)) (show w.heap.size + 1 + 1 + 1 ≠ w.heap.size + 1 + 1 by omega) 4 (.int .i64 0)) (show w.heap.size + 1 + 1 + 1 ≠ w.heap.size + 1 + 1 by omega) 5 (.int .i64 0))
    have md := (blk_set_ne (blk_set_ne (blk_set_ne (blk_set_ne (blk_set_ne (blk_set_ne hK (show D ≠ w.heap.size + 1 + 1 by omega) 0 (.int .i64 0)) (show D ≠ w.heap.size + 1 + 1 by omega) 1 (.int .i64 0)) (show D ≠ w.heap.size + 1 + 1 by omega) 2 (.int .i64 0)) (show D ≠ w.heap.size + 1 + 1 by omega) 3 (.int .i64 0)) (show D ≠ w.heap.size + 1 + 1 by omega) 4 (.int .i64 0)) (show D ≠ w.heap.size + 1 + 1 by omega) 5 (.int .i64 0))
    obtain ⟨wf, hwf⟩ : ∃ x, x = (((((((W1.setCell ⟨w.heap.size + 1 + 1, 0, none⟩ (.int .i64 0)).setCell ⟨w.heap.size + 1 + 1, 1, none⟩ (.int .i64 0)).setCell ⟨w.heap.size + 1 + 1, 2, none⟩ (.int .i64 0)).setCell ⟨w.heap.size + 1 + 1, 3, none⟩ (.int .i64 0)).setCell ⟨w.heap.size + 1 + 1, 4, none⟩ (.int .i64 0)).setCell ⟨w.heap.size + 1 + 1, 5, none⟩ (.int .i64 0)).setCell ⟨w.heap.size + 1 + 1 + 1, 0, none⟩ (.bool false)) := ⟨_, rfl⟩
    have k6f : wf.heap[w.heap.size + 1 + 1]? = some (.cells #[.int .i64 0, .int .i64 0, .int .i64 0, .int .i64 0, .int .i64 0, .int .i64 0] 54 (0, 0)) := by rw [hwf]; simpa using blk_set_ne m6 (show w.heap.size + 1 + 1 ≠ w.heap.size + 1 + 1 + 1 by omega) 0 (.bool false)
    have k7f : wf.heap[w.heap.size + 1 + 1 + 1]? = some (.cells #[.bool false] 4 (0, 0)) := by rw [hwf]; simpa using blk_set m7 0 (.bool false)
    have kD : wf.heap[D]? = some (.deferred (some [])) := by rw [hwf]; exact blk_set_ne md (show D ≠ w.heap.size + 1 + 1 + 1 by omega) 0 (.bool false)
    have hEf : Ext w wf := by
      have hEw := hE0.trans hE
      rw [hwf]
      repeat' (first | with_reducible exact hEw | with_reducible refine Ext.set ?_ ?_ _ | (dsimp only; omega) | (simp; done))
    rw [← hwf]
    clear hwf m6 m7 md c6 f6 c7 f7 k61 k71
    have hg := grownBy_putObj' wf D (.deferred none)
    have hr : ∀ r, some D = some r → ∃ o : Obj, wf.heap[r]? = some o ∧ o.isCells = false := fun r e => by cases e; exact ⟨_, kD, rfl⟩
    have k6g := heap_turn hg hr k6f
    have k7g := heap_turn hg hr k7f
    have hsz := hE0.size
    have hEg : Ext w (wf.putObj D (.deferred none)) := Below.grown hEf hg hEf.size (fun r e => by cases e; omega)
    refine ⟨by simp, .inl ⟨_, _, rfl, run_takeDeferred kD, ?_⟩⟩
    generalize wf.putObj D (.deferred none) = wg at *
    obtain ⟨c6, f6⟩ := blk_rules k6g
    obtain ⟨c7, f7⟩ := blk_rules k7g
    refine ⟨.tuple #[.agg #[.int .i64 0, .int .i64 0, .int .i64 0, .int .i64 0, .int .i64 0, .int .i64 0], .bool false], by simp only [results, Try.results52]; go_simp; done, ?_, hEg⟩
    rw [← HF.out, ← HF2.out]
    rfl
  case stop =>
    rintro D c pre W1 hD hSp ⟨rfl, p, x, t, dx, dy, rfl, h1, h2, g1, g2, h3, h4, h5⟩ hK
    have hfp := HFP.out
    rw [find_hit (steps_first hSp h1) h2 _ x.isLt] at hfp
    have hcv := HCV.out
    have his := HIS.out
    rw [← hfp] at hcv his
    have HF := Lib.hid hcv
    have HF2 := Lib.hid his
    clear hfp hcv his hSp
    refine wpIn_wide.2 ?_
    go_wp2_with fail
    obtain ⟨wf, hwf⟩ : ∃ x, x = W1 := ⟨_, rfl⟩
    rw [← hwf] at h3 h4 h5 hK ⊢
    clear hwf
    have k6f := h3
    have k7f := h4
    have kD := hK
    have hEf := h5
    have hg := grownBy_putObj' wf D (.deferred none)
    have hr : ∀ r, some D = some r → ∃ o : Obj, wf.heap[r]? = some o ∧ o.isCells = false := fun r e => by cases e; exact ⟨_, kD, rfl⟩
    have k6g := heap_turn hg hr k6f
    have k7g := heap_turn hg hr k7f
    have hsz := hE0.size
    have hEg : Ext w (wf.putObj D (.deferred none)) := Below.grown hEf hg hEf.size (fun r e => by cases e; omega)
    refine ⟨by simp, .inl ⟨_, _, rfl, run_takeDeferred kD, ?_⟩⟩
    generalize wf.putObj D (.deferred none) = wg at *
    obtain ⟨c6, f6⟩ := blk_rules k6g
    obtain ⟨c7, f7⟩ := blk_rules k7g
    refine ⟨.tuple #[.agg #[.int .i64 t.x, .int .i64 t.y, .int .i64 t.w, .int .i64 t.h, .int .i64 dx, .int .i64 dy], .bool true], by simp only [results, Try.results52]; go_simp; done, ?_, hEg⟩
    rw [← HF.out, ← HF2.out]
    unfold copyV cpTo cpBy
    dsimp only
    rw [g1]
    dsimp only
    rw [g2]
    rfl
end Go.Proofs.Ytjghghbldifhaaa
