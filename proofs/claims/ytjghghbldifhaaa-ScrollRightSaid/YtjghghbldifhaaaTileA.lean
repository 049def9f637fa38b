/- The tiles of a size: the iterator tiles.each. -/
import Derived.Test.YtjghghbldifhaaaRegX
set_option linter.unusedVariables false
set_option linter.unusedSimpArgs false
namespace Go.Proofs.Ytjghghbldifhaaa

/-- How many tiles a length has. -/
def tilesIn (n : Int) : Nat := ((n + 15) / 16).toNat
def sizeOk (w h : Int) : Bool := decide (1 ≤ w) && decide (w ≤ 256) && decide (1 ≤ h) && decide (h ≤ 256)
def tileN (w h : Int) : Nat := if sizeOk w h then tilesIn w * tilesIn h else 0
def tileRaw (w : Int) (i : Nat) : Rect := ⟨((i % tilesIn w : Nat) : Int) * 16, ((i / tilesIn w : Nat) : Int) * 16, 16, 16⟩
def tileR (w h : Int) (i : Nat) : Rect := (tileRaw w i).and ⟨0, 0, w, h⟩
def gridOf (w h : Int) : List Rect := (List.range (tileN w h)).map (tileR w h)
theorem sizeOk_iff {w h : Int} : sizeOk w h = true ↔ (1 ≤ w ∧ w ≤ 256) ∧ (1 ≤ h ∧ h ≤ 256) := by
  simp only [sizeOk, Bool.and_eq_true, decide_eq_true_eq]
  omega
theorem tilesIn_bd {n : Int} (h1 : 1 ≤ n) (h2 : n ≤ 256) : 1 ≤ tilesIn n ∧ tilesIn n ≤ 16 ∧ (n + 16 - 1).tdiv 16 = tilesIn n := by
  unfold tilesIn
  rw [Int.tdiv_eq_ediv_of_nonneg (by omega)]
  omega
end Go.Proofs.Ytjghghbldifhaaa
namespace Go.Proofs.Ytjghghbldifhaaa
open Go.RowKit Go.Shelf

theorem each_any (w h : Int) (W : World) : Calls Try.prog 93 #[.int .i64 w, .int .i64 h] W fun e W' =>
    e = .returned (.func (.func 121) #[] #[.pointer (some ⟨W.heap.size, 0, none⟩), .pointer (some ⟨W.heap.size + 1, 0, none⟩)]) ∧ W' = (W.alloc (.cells #[.int .i64 w] 3)).alloc (.cells #[.int .i64 h] 3) := by
  go_enter Try.func93, Try.ntmps93
  go_wp2_with fail
  go_ret
  exact ⟨by simp, rfl⟩

/-- A tile that the iterator hands on: its number, and where it is. -/
def tileArgs (w h : Int) (i : Nat) : Array Value := #[.int .i64 i, .agg #[.int .i64 (tileR w h i).x, .int .i64 (tileR w h i).y, .int .i64 (tileR w h i).w, .int .i64 (tileR w h i).h]]
set_option maxRecDepth 100000 in
set_option maxHeartbeats 2000000 in
theorem each1_in (n : Nat) (hn : 1 ≤ n) (l Y Z : Nat) (w h : Int) (N : Nat) (hN : N = tileN w h) (J Jx : List (Fin N) → World → Prop) (W : World) (p : Nat → Prop) (hp1 : p Y) (hp2 : p Z)
    (hJ : AbidesFrom W.heap.size J)
    (hY : ∀ (pre : List (Fin N)) (i : Fin N) (W1 : World), J pre W1 → pre.length < N → YieldAt Fence.wide (n - 1) Try.prog l (tileArgs w h i.val) W1 fun e W' =>
      (e = .returned (.bool true) ∧ J (pre ++ [i]) W' ∧ KeptP p W1 W') ∨ (e = .returned (.bool false) ∧ Jx (pre ++ [i]) W'))
    (kY : W.heap[Y]? = some (.cells #[.int .i64 w] 3 (0, 0))) (kZ : W.heap[Z]? = some (.cells #[.int .i64 h] 3 (0, 0)))
    (h0 : J [] W) :
    CallsIn Fence.wide n Try.prog 121 #[.func (.yield l) #[] #[], .pointer (some ⟨Y, 0, none⟩), .pointer (some ⟨Z, 0, none⟩)] W fun e W' => (∃ v, e = .returned v) ∧
      ((∃ zs : List (Fin N), zs.map Fin.val = List.range N ∧ J zs W') ∨ (∃ pre : List (Fin N), Jx pre W')) := by
  refine callsIn_of_wp Try.func121 rfl trivial ?_ rfl
  simp only [Try.ntmps121, List.size_toArray, List.length_cons, List.length_nil, Nat.reduceAdd, Nat.reduceSub, Array.replicate_succ, Array.replicate_zero, List.push_toArray, List.append_toArray, List.nil_append, List.cons_append]
  obtain ⟨cY, fY⟩ := blk_rules kY
  obtain ⟨cZ, fZ⟩ := blk_rules kZ
  cases hok : sizeOk w h
  · have hN0 : N = 0 := by rw [hN]; unfold tileN; rw [hok]; rfl
    have hbad : w < 1 ∨ ¬ w < 1 ∧ 256 < w ∨ ¬ w < 1 ∧ ¬ 256 < w ∧ h < 1 ∨ ¬ w < 1 ∧ ¬ 256 < w ∧ ¬ h < 1 ∧ 256 < h := by
      have hno : ¬ (sizeOk w h = true) := by rw [hok]; simp
      rw [sizeOk_iff] at hno
      omega
    have HR : Hid (∃ zs : List (Fin N), zs.map Fin.val = List.range N ∧ J zs W) := Lib.hid ⟨[], by rw [hN0]; rfl, h0⟩
    clear hN0 hN hok h0 hY
    rcases hbad with h1 | ⟨h1, h2⟩ | ⟨h1, h2, h3⟩ | ⟨h1, h2, h3, h4⟩
    · gi_wp2
      refine bodyPost_ret (results_none rfl _ _ _) rfl ?_
      exact ⟨⟨_, rfl⟩, .inl HR.out⟩
    · gi_wp2
      refine bodyPost_ret (results_none rfl _ _ _) rfl ?_
      exact ⟨⟨_, rfl⟩, .inl HR.out⟩
    · gi_wp2
      refine bodyPost_ret (results_none rfl _ _ _) rfl ?_
      exact ⟨⟨_, rfl⟩, .inl HR.out⟩
    · gi_wp2
      refine bodyPost_ret (results_none rfl _ _ _) rfl ?_
      exact ⟨⟨_, rfl⟩, .inl HR.out⟩
  · obtain ⟨⟨w1, w2⟩, w3, w4⟩ := sizeOk_iff.1 hok
    have hNe : N = tilesIn w * tilesIn h := by rw [hN]; unfold tileN; rw [hok]; rfl
    obtain ⟨a1, a2, a3⟩ := tilesIn_bd w1 w2
    obtain ⟨b1, b2, b3⟩ := tilesIn_bd w3 w4
    have hkn : ∀ k, k < N → k % tilesIn w < 16 ∧ k / tilesIn w < 16 := fun k hk => by
      have := Nat.mod_lt k (show 0 < tilesIn w by omega)
      refine ⟨by omega, ?_⟩
      rw [hNe] at hk
      have := Nat.div_lt_of_lt_mul hk
      omega
    have hRaw : ∀ k, tileRaw w k = ⟨((k % tilesIn w : Nat) : Int) * 16, ((k / tilesIn w : Nat) : Int) * 16, 16, 16⟩ := fun k => rfl
    have hTile : ∀ k, tileR w h k = (tileRaw w k).and ⟨0, 0, w, h⟩ := fun k => rfl
    have hNb : N ≤ 256 := by rw [hNe]; exact Nat.mul_le_mul a2 b2
    have hmul : wrap64 ((tilesIn w : Int) * (tilesIn h : Int)) = N := by rw [← Int.natCast_mul, ← hNe]; exact IntWalk.wrap64_in _ (by omega)
    obtain ⟨A, hA⟩ : ∃ A, tilesIn w = A := ⟨_, rfl⟩
    obtain ⟨B, hB⟩ : ∃ B, tilesIn h = B := ⟨_, rfl⟩
    rw [hA] at a1 a2 a3 hmul
    rw [hB] at b1 b2 b3 hmul
    simp only [hA] at hkn hRaw
    have HKN := Lib.hid hkn
    have HRAW := Lib.hid hRaw
    have HTILE := Lib.hid hTile
    have HYL := Lib.hid hY
    clear hN hok hNe hA hB hkn hRaw hTile hY
    gi_wp2
    simp only [hmul]
    clear hmul
    gi_loopw [33] (fun iv wr => ∃ (k : Nat) (pre : List (Fin N)), k ≤ N ∧ iv = .int .i64 k ∧ pre.map Fin.val = List.range k ∧ J pre wr ∧ wr.heap[Y]? = some (.cells #[.int .i64 w] 3 (0, 0)) ∧ wr.heap[Z]? = some (.cells #[.int .i64 h] 3 (0, 0))) (fun iv _ => N - (intOf iv).toNat)
    case atStart => exact ⟨0, [], Nat.zero_le _, rfl, rfl, h0, kY, kZ⟩
    case round =>
      clear h0 kY kZ cY fY cZ fZ a3 b3
      obtain ⟨k, pre, hk, rfl, hpre, hJs, kY, kZ⟩ := hrel
      obtain ⟨cY, fY⟩ := blk_rules kY
      obtain ⟨cZ, fZ⟩ := blk_rules kZ
      have zY := blk_lt kY
      have zZ := blk_lt kZ
      have Hpre := Lib.hid hpre
      have HJS := Lib.hid hJs
      clear hpre hJs
      by_cases hlt : k < N
      · have e1 : ((k : Int)).tmod (A : Int) = ((k % A : Nat) : Int) := by rw [Int.tmod_eq_emod_of_nonneg (by omega)]; rfl
        have e2 : ((k : Int)).tdiv (A : Int) = ((k / A : Nat) : Int) := by rw [Int.tdiv_eq_ediv_of_nonneg (by omega)]; rfl
        have e3 : ((A : Int) == 0) = false := by simp; omega
        have hraw := HRAW.out k
        obtain ⟨m1, m2⟩ := HKN.out k hlt
        obtain ⟨P, hP⟩ : ∃ P, k % A = P := ⟨_, rfl⟩
        obtain ⟨Q, hQ⟩ : ∃ Q, k / A = Q := ⟨_, rfl⟩
        rw [hP] at e1 m1 hraw
        rw [hQ] at e2 m2 hraw
        have e4 : IntKind.i64.wrap ((P : Int) * 16) = (P : Int) * 16 := IntWalk.i64_in _ (by omega)
        have e5 : IntKind.i64.wrap ((Q : Int) * 16) = (Q : Int) * 16 := IntWalk.i64_in _ (by omega)
        have e6 : IntKind.i64.wrap (P : Int) = P := IntWalk.i64_in _ (by omega)
        have e7 : IntKind.i64.wrap (Q : Int) = Q := IntWalk.i64_in _ (by omega)
        obtain ⟨q, hq⟩ : ∃ q, tileR w h k = q := ⟨_, rfl⟩
        have hand := fun W => and_any ((P : Int) * 16) ((Q : Int) * 16) 16 16 0 0 w h W
        have hq2 := HTILE.out k
        rw [hraw, hq] at hq2
        simp only [← hq2] at hand
        have HQ := Lib.hid hq
        clear hP hQ hraw hq hq2
        gi_wp2
        gi_region
        all_goals gi_wp2
        refine ⟨trivial, (callsIn_wide.2 (hand _)).mono ?_⟩
        rintro e W2 ⟨rfl, E2⟩
        have hE2 : Ext wr W2 := (((Ext.refl wr).alloc _).drew).trans E2
        have hJ2 : J pre W2 := abides_ext hJ HJS.out hE2
        replace kY := hE2.keep kY
        replace kZ := hE2.keep kZ
        obtain ⟨fn, tmps, assign, body, hy, hRd⟩ := HYL.out pre ⟨k, hlt⟩ W2 hJ2 (by have := congrArg List.length Hpre.out; simp at this; omega)
        dsimp only [tileArgs] at hy
        rw [HQ.out] at hy
        clear hand cY fY cZ fZ zY zZ e1 e2 e3 e4 e5 e6 e7
        gi_wp2
        refine hRd.mono ?_
        rintro e W3 (⟨rfl, hJ3, hk3⟩ | ⟨rfl, hJx3⟩)
        · have kY' := hk3 _ _ _ _ hp1 kY
          have kZ' := hk3 _ _ _ _ hp2 kZ
          clear kY kZ
          gi_wp2
          go_roundw
          case rel => exact ⟨k + 1, pre ++ [⟨k, hlt⟩], by omega, by go_num, by rw [List.map_append, Hpre.out, List.range_succ]; rfl, hJ3, kY', kZ'⟩
          case measure => simp [intOf]; omega
        · clear kY kZ
          gi_wp2
          refine bodyPost_ret (results_none rfl _ _ _) rfl ?_
          exact ⟨⟨_, rfl⟩, .inr ⟨_, hJx3⟩⟩
      · obtain rfl : k = N := by omega
        gi_wp2
        go_end0
        exact ⟨⟨_, rfl⟩, .inl ⟨pre, Hpre.out, HJS.out⟩⟩
end Go.Proofs.Ytjghghbldifhaaa
