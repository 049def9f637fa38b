/- The steps, one behind the other: scroll.steps. Printed by gen_scrf.py. -/
import Derived.Test.YtjghghbldifhaaaScrC
import Derived.Test.YtjghghbldifhaaaTileA
set_option linter.unusedVariables false
set_option linter.unusedSimpArgs false
namespace Go.Proofs.Ytjghghbldifhaaa
open Go.RowKit Go.Shelf
theorem steps_any (s : Int) (W : World) : Calls Try.prog 102 #[.int .i64 s] W fun e W' =>
    e = .returned (.func (.func 125) #[] #[.pointer (some ⟨W.heap.size, 0, none⟩)]) ∧ W' = W.alloc (.cells #[.int .i64 s] 3) := by
  go_enter Try.func102, Try.ntmps102
  go_wp2_with fail
  go_ret
  exact ⟨by simp, rfl⟩
/-- A step that the iterator hands on. -/
def stepArgs (i : Nat) : Array Value := #[.int .i64 (stepAt i).1, .int .i64 (stepAt i).2]
set_option maxRecDepth 100000 in
set_option maxHeartbeats 8000000 in
theorem steps1_in (n : Nat) (hn : 1 ≤ n) (l Y : Nat) (S N : Nat) (hS1 : 1 ≤ S) (hS : S ≤ 256) (hN : N = 4 * (S - 1)) (J Jx : List (Fin N) → World → Prop) (W : World) (p : Nat → Prop) (hp1 : p Y)
    (hY : ∀ (pre : List (Fin N)) (i : Fin N) (W1 : World), J pre W1 → pre.map Fin.val = List.range i.val → YieldAt Fence.wide (n - 1) Try.prog l (stepArgs i.val) W1 fun e W' =>
      (e = .returned (.bool true) ∧ J (pre ++ [i]) W' ∧ KeptP p W1 W') ∨ (e = .returned (.bool false) ∧ Jx (pre ++ [i]) W'))
    (kY : W.heap[Y]? = some (.cells #[.int .i64 S] 3 (0, 0)))
    (h0 : J [] W) :
    CallsIn Fence.wide n Try.prog 125 #[.func (.yield l) #[] #[], .pointer (some ⟨Y, 0, none⟩)] W fun e W' => (∃ v, e = .returned v) ∧
      ((∃ zs : List (Fin N), zs.map Fin.val = List.range N ∧ J zs W') ∨ (∃ pre : List (Fin N), Jx pre W')) := by
  refine callsIn_of_wp Try.func125 rfl trivial ?_ rfl
  simp only [Try.ntmps125, List.size_toArray, List.length_cons, List.length_nil, Nat.reduceAdd, Nat.reduceSub, Array.replicate_succ, Array.replicate_zero, List.push_toArray, List.append_toArray, List.nil_append, List.cons_append]
  obtain ⟨cY, fY⟩ := blk_rules kY
  have HYL := Lib.hid hY
  have hN2 : ∀ d : Nat, d + 1 < S ↔ 4 * d + 3 < N := fun d => by omega
  have HN := Lib.hid hN2
  have HN3 := Lib.hid (show N = 4 * (S - 1) from hN)
  clear hY hN hN2
  gi_wp2
  gi_loopw [3] (fun dv wr => ∃ (d : Nat) (pre : List (Fin N)), d + 1 ≤ S ∧ dv = .int .i64 ((d : Int) + 1) ∧ pre.map Fin.val = List.range (4 * d) ∧ J pre wr ∧ wr.heap[Y]? = some (.cells #[.int .i64 S] 3 (0, 0))) (fun dv _ => S - (intOf dv).toNat)
  case atStart => exact ⟨0, [], by omega, rfl, rfl, h0, kY⟩
  case round =>
    clear h0 kY cY fY
    obtain ⟨d, pre, hd, rfl, hpre, hJs, kY⟩ := hrel
    obtain ⟨cY, fY⟩ := blk_rules kY
    have Hpre := Lib.hid hpre
    have HJS := Lib.hid hJs
    clear hpre hJs
    have hneg : IntKind.i64.wrap (-((d : Int) + 1)) = -((d : Int) + 1) := IntWalk.i64_in _ (by omega)
    have hinc : IntKind.i64.wrap ((d : Int) + 1 + 1) = (d : Int) + 1 + 1 := IntWalk.i64_in _ (by omega)
    by_cases hlt : d + 1 < S
    · have hlt2 : (d : Int) + 1 < S := by omega
      have h4 := (HN.out d).1 hlt
      have hst0 : stepAt (4 * d + 0) = (0, (d : Int) + 1) := by rw [show 4 * d + 0 = 4 * d from rfl, stepAt0]; simp
      obtain ⟨fn0, tmps0, assign0, body0, hy0, hRd0⟩ := HYL.out pre ⟨4 * d + 0, by omega⟩ wr HJS.out Hpre.out
      dsimp only [stepArgs] at hy0
      rw [hst0] at hy0
      dsimp only at hy0
      have HP0 : Hid ((pre ++ [(⟨4 * d + 0, by omega⟩ : Fin N)]).map Fin.val = List.range (4 * d + (0 + 1))) := Lib.hid (by rw [List.map_append, Hpre.out, show 4 * d + (0 + 1) = (4 * d + 0) + 1 from rfl, List.range_succ (n := 4 * d + 0)]; rfl)
      clear hst0
      gi_wp2
      refine hRd0.mono ?_
      rintro e w1 (⟨rfl, hJ1, hk1⟩ | ⟨rfl, hJx⟩)
      rotate_left
      · clear kY cY fY hy0
        go_simp
        repeat (first | gi_guarded | gi_step | gi_upon)
        refine ⟨fun _ _ => trivial, ?_⟩
        repeat (first | gi_guarded | gi_step | gi_upon)
        refine ⟨fun _ _ => trivial, ?_⟩
        repeat (first | gi_guarded | gi_step | gi_upon)
        refine ⟨fun _ _ => trivial, ?_⟩
        repeat (first | gi_guarded | gi_step | gi_upon)
        gi_wp2
        refine bodyPost_ret (results_none rfl _ _ _) rfl ?_
        exact ⟨⟨_, rfl⟩, .inr ⟨_, hJx⟩⟩
      have kY1 := hk1 _ _ _ _ hp1 kY
      have HJ1 := Lib.hid hJ1
      clear hJ1 hk1 hy0 cY fY kY
      have hst1 : stepAt (4 * d + 1) = (0, -((d : Int) + 1)) := by rw [stepAt1]; simp
      obtain ⟨fn1, tmps1, assign1, body1, hy1, hRd1⟩ := HYL.out (pre ++ [(⟨4 * d + 0, by omega⟩ : Fin N)]) ⟨4 * d + 1, by omega⟩ w1 HJ1.out HP0.out
      dsimp only [stepArgs] at hy1
      rw [hst1] at hy1
      dsimp only at hy1
      have HP1 : Hid (((pre ++ [(⟨4 * d + 0, by omega⟩ : Fin N)]) ++ [(⟨4 * d + 1, by omega⟩ : Fin N)]).map Fin.val = List.range (4 * d + (1 + 1))) := Lib.hid (by rw [List.map_append, HP0.out, show 4 * d + (1 + 1) = (4 * d + 1) + 1 from rfl, List.range_succ (n := 4 * d + 1)]; rfl)
      clear hst1
      gi_wp2
      refine hRd1.mono ?_
      rintro e w2 (⟨rfl, hJ2, hk2⟩ | ⟨rfl, hJx⟩)
      rotate_left
      · clear  hy1
        go_simp
        repeat (first | gi_guarded | gi_step | gi_upon)
        refine ⟨fun _ _ => trivial, ?_⟩
        repeat (first | gi_guarded | gi_step | gi_upon)
        refine ⟨fun _ _ => trivial, ?_⟩
        repeat (first | gi_guarded | gi_step | gi_upon)
        gi_wp2
        refine bodyPost_ret (results_none rfl _ _ _) rfl ?_
        exact ⟨⟨_, rfl⟩, .inr ⟨_, hJx⟩⟩
      have kY2 := hk2 _ _ _ _ hp1 kY1
      have HJ2 := Lib.hid hJ2
      clear hJ2 hk2 hy1 kY1
      have hst2 : stepAt (4 * d + 2) = ((d : Int) + 1, 0) := by rw [stepAt2]; simp
      obtain ⟨fn2, tmps2, assign2, body2, hy2, hRd2⟩ := HYL.out ((pre ++ [(⟨4 * d + 0, by omega⟩ : Fin N)]) ++ [(⟨4 * d + 1, by omega⟩ : Fin N)]) ⟨4 * d + 2, by omega⟩ w2 HJ2.out HP1.out
      dsimp only [stepArgs] at hy2
      rw [hst2] at hy2
      dsimp only at hy2
      have HP2 : Hid ((((pre ++ [(⟨4 * d + 0, by omega⟩ : Fin N)]) ++ [(⟨4 * d + 1, by omega⟩ : Fin N)]) ++ [(⟨4 * d + 2, by omega⟩ : Fin N)]).map Fin.val = List.range (4 * d + (2 + 1))) := Lib.hid (by rw [List.map_append, HP1.out, show 4 * d + (2 + 1) = (4 * d + 2) + 1 from rfl, List.range_succ (n := 4 * d + 2)]; rfl)
      clear hst2
      gi_wp2
      refine hRd2.mono ?_
      rintro e w3 (⟨rfl, hJ3, hk3⟩ | ⟨rfl, hJx⟩)
      rotate_left
      · clear  hy2
        go_simp
        repeat (first | gi_guarded | gi_step | gi_upon)
        refine ⟨fun _ _ => trivial, ?_⟩
        repeat (first | gi_guarded | gi_step | gi_upon)
        gi_wp2
        refine bodyPost_ret (results_none rfl _ _ _) rfl ?_
        exact ⟨⟨_, rfl⟩, .inr ⟨_, hJx⟩⟩
      have kY3 := hk3 _ _ _ _ hp1 kY2
      have HJ3 := Lib.hid hJ3
      clear hJ3 hk3 hy2 kY2
      have hst3 : stepAt (4 * d + 3) = (-((d : Int) + 1), 0) := by rw [stepAt3]; simp
      obtain ⟨fn3, tmps3, assign3, body3, hy3, hRd3⟩ := HYL.out (((pre ++ [(⟨4 * d + 0, by omega⟩ : Fin N)]) ++ [(⟨4 * d + 1, by omega⟩ : Fin N)]) ++ [(⟨4 * d + 2, by omega⟩ : Fin N)]) ⟨4 * d + 3, by omega⟩ w3 HJ3.out HP2.out
      dsimp only [stepArgs] at hy3
      rw [hst3] at hy3
      dsimp only at hy3
      have HP3 : Hid (((((pre ++ [(⟨4 * d + 0, by omega⟩ : Fin N)]) ++ [(⟨4 * d + 1, by omega⟩ : Fin N)]) ++ [(⟨4 * d + 2, by omega⟩ : Fin N)]) ++ [(⟨4 * d + 3, by omega⟩ : Fin N)]).map Fin.val = List.range (4 * d + (3 + 1))) := Lib.hid (by rw [List.map_append, HP2.out, show 4 * d + (3 + 1) = (4 * d + 3) + 1 from rfl, List.range_succ (n := 4 * d + 3)]; rfl)
      clear hst3
      gi_wp2
      refine hRd3.mono ?_
      rintro e w4 (⟨rfl, hJ4, hk4⟩ | ⟨rfl, hJx⟩)
      rotate_left
      · clear  hy3
        go_simp
        repeat (first | gi_guarded | gi_step | gi_upon)
        gi_wp2
        refine bodyPost_ret (results_none rfl _ _ _) rfl ?_
        exact ⟨⟨_, rfl⟩, .inr ⟨_, hJx⟩⟩
      have kY4 := hk4 _ _ _ _ hp1 kY3
      have HJ4 := Lib.hid hJ4
      clear hJ4 hk4 hy3 kY3
      gi_wp2
      go_roundw
      case rel => exact ⟨d + 1, _, by omega, by go_num, (by rw [HP3.out, show 4 * d + (3 + 1) = 4 * (d + 1) by omega]), HJ4.out, kY4⟩
      case measure => simp [intOf]; omega
    · obtain rfl : S = d + 1 := by omega
      have hN4 : N = 4 * d := by rw [HN3.out]; omega
      gi_wp2
      go_end0
      exact ⟨⟨_, rfl⟩, .inl ⟨pre, by rw [Hpre.out, hN4], HJS.out⟩⟩
end Go.Proofs.Ytjghghbldifhaaa
