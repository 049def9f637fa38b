/- The walks of package vignetteref03: Part. -/
import Derived.Test.YtilcggkbancniaaRefG
set_option linter.unusedVariables false
set_option linter.unusedSimpArgs false
namespace Go.Proofs.Ytilcggkbancniaa
open Go.RowKit

set_option maxHeartbeats 4000000 in
theorem rpart_bad (W H : Int) (A : Option Addr) (d n : Nat) (x y a b : Int) (w : World) (h : Rect.empty ⟨x, y, a, b⟩ = true ∨ Rect.empty ⟨x, y, a, b⟩ = false ∧ Rect.within ⟨x, y, a, b⟩ ⟨0, 0, W, H⟩ = false) :
    Calls Try.prog 32 #[.agg #[.int .i64 W, .int .i64 H, .slice A n d], .agg #[.int .i64 x, .int .i64 y, .int .i64 a, .int .i64 b]] w fun e w' => e = .returned (.tuple #[.agg #[.int .i64 0, .int .i64 0, .slice none 0 0], .int .i64 5]) ∧ Ext w w' := by
  have he := fun w => rempty_any x y a b w
  have hi := fun w => rin_any x y a b 0 0 W H w
  rcases h with h1 | ⟨h1, h2⟩
  all_goals simp only [h1] at he
  all_goals try simp only [h2] at hi
  all_goals
    go_enter Try.func32, Try.ntmps32
    go_wp2_with fail
    refine (he _).mono ?_
    rintro e w1 ⟨rfl, hb⟩
    obtain ⟨k0, k1, k2, hE⟩ := ext3 hb
    obtain ⟨c0, f0⟩ := blk_rules k0
    obtain ⟨c1, f1⟩ := blk_rules k1
    obtain ⟨c2, f2⟩ := blk_rules k2
    clear hb he
    go_wp2_with fail
    first
      | skip
        refine (hi _).mono ?_
        rintro e w2 ⟨rfl, hb⟩
        replace k2 := hb.keep k2
        replace hE := hE.trans hb
        clear c0 f0 c1 f1 c2 f2 hi hb
        obtain ⟨c2, f2⟩ := blk_rules k2
        go_wp2_with fail
      | skip
    refine bodyPost_ret (v := .tuple #[.agg #[.int .i64 0, .int .i64 0, .slice none 0 0], .int .i64 5]) (by simp only [results, Try.results32]; go_simp; done) rfl ⟨rfl, ?_⟩
    repeat' (first | exact hE | refine Ext.set ?_ ?_ _)
    all_goals (simp; omega)

theorem shows_cut {w : World} {ab ao lo m : Nat} {xs : List Int} (h : ∀ i, i < xs.length → w.cell? ⟨ab, ao + i, none⟩ = some (.int .u32 (xs.getD i 0))) (hf : lo + m ≤ xs.length) : Shows w (some ⟨ab, ao + lo, none⟩) (nums .u32 ((xs.drop lo).take m)) := by
  intro _
  refine ⟨_, rfl, fun j u hu => ?_⟩
  have hl : ((xs.drop lo).take m).length = m := by simp; omega
  have hj : j < m := by
    rcases Nat.lt_or_ge j m with h1 | h1
    · exact h1
    · rw [List.getElem?_eq_none (by rw [nums_length, hl]; exact h1)] at hu; cases hu
  rw [nums_get (by rw [hl]; exact hj)] at hu
  injection hu with hu
  rw [add_plain, Nat.add_assoc, h (lo + j) (by omega), ← hu]
  simp [List.getD_eq_getElem?_getD, List.getElem?_take, hj, List.getElem?_drop]

set_option maxRecDepth 100000 in
set_option maxHeartbeats 8000000 in
theorem rpart_good (W H : Int) (A : Option Addr) (d : Nat) (xs : List Int) (x y a b : Int) (w : World) (hr : Reads .u32 w A xs) (hd : xs.length ≤ d) (hd2 : d ≤ 9223372036854775807) (hp : isPic W H xs.length = true) (h1 : Rect.empty ⟨x, y, a, b⟩ = false) (h2 : Rect.within ⟨x, y, a, b⟩ ⟨0, 0, W, H⟩ = true) :
    Calls Try.prog 32 #[.agg #[.int .i64 W, .int .i64 H, .slice A xs.length d], .agg #[.int .i64 x, .int .i64 y, .int .i64 a, .int .i64 b]] w fun e w' => ∃ B d', e = .returned (.tuple #[.agg #[.int .i64 a, .int .i64 b, .slice B (partRows W ⟨x, y, a, b⟩ (List.range b.toNat) xs).length d'], .int .i64 0]) ∧ Own .u32 35 w' w.heap.size (.slice B (partRows W ⟨x, y, a, b⟩ (List.range b.toNat) xs).length d') (partRows W ⟨x, y, a, b⟩ (List.range b.toNat) xs) ∧ Ext w w' := by
  have hp' : 1 ≤ W ∧ W ≤ 256 ∧ 1 ≤ H ∧ H ≤ 256 ∧ (xs.length : Int) = W * H := by simpa [isPic, and_assoc] using hp
  obtain ⟨W1, W2, H1, H2, hlen⟩ := hp'
  obtain ⟨m1, m2⟩ := mul_bd W1 W2 H1 H2
  have hn : xs.length ≤ 65536 := by omega
  obtain ⟨r1, r2, r3, r4, r5, r6⟩ := Rect.inside h1 h2 W1 W2 H1 H2
  dsimp only at r1 r2 r3 r4 r5 r6
  obtain ⟨N, rfl⟩ : ∃ N : Nat, (N : Int) = b := ⟨b.toNat, by omega⟩
  obtain ⟨aN, rfl⟩ : ∃ aN : Nat, (aN : Int) = a := ⟨a.toNat, by omega⟩
  rw [Int.toNat_natCast]
  have hfits : ∀ i, i < N → rowAt W ⟨x, y, aN, N⟩ i + aN ≤ xs.length := fun i hi => by
    have := rowAt_fits (R := ⟨x, y, aN, N⟩) W1 W2 H1 H2 hlen r1 r2 r3 r4 r6 (i := i) (by dsimp only; omega)
    simpa using this
  have hrow : ∀ i : Nat, i < N → (y + i) * W + x = (rowAt W ⟨x, y, aN, N⟩ i : Nat) ∧ 0 ≤ (y + i) * W ∧ (y + i) * W ≤ 65536 := fun i hi => by
    obtain ⟨q1, q2, q3⟩ := place_bd W1 W2 H1 H2 (x := x) (y := y + i) (by omega) (by omega) (by omega) (by omega)
    unfold rowAt
    dsimp only
    omega
  have HF := Lib.hid hfits
  have HR := Lib.hid hrow
  obtain ⟨PR, hPR⟩ : ∃ PR : Nat → List Int, (fun n => partRows W ⟨x, y, aN, N⟩ (List.range n) xs) = PR := ⟨_, rfl⟩
  have hPR0 : PR 0 = [] := by rw [← hPR]; rfl
  have hPRN : partRows W ⟨x, y, aN, N⟩ (List.range N) xs = PR N := by rw [← hPR]
  have hPRs : ∀ i, i < N → PR (i + 1) = PR i ++ (xs.drop (rowAt W ⟨x, y, aN, N⟩ i)).take aN := fun i hi => by
    rw [← hPR]
    dsimp only
    rw [List.range_succ, partRows_snoc]
    simp
  have hPRl : ∀ i, i ≤ N → (PR i).length = i * aN := fun i hi => by
    rw [← hPR]
    dsimp only
    rw [partRows_length (fun j hj => by have := hfits j (by have := List.mem_range.1 hj; omega); simpa using this), List.length_range]
    simp
  rw [hPRN]
  have HP := Lib.hid hPRs
  have HL := Lib.hid hPRl
  have H0 := Lib.hid hPR0
  clear hfits hrow hPR hPR0 hPRN hPRs hPRl hp hlen m1 m2
  have he := fun w => rempty_any x y aN N w
  simp only [h1] at he
  have hi := fun w => rin_any x y aN N 0 0 W H w
  simp only [h2] at hi
  clear h1 h2
  go_enter Try.func32, Try.ntmps32
  go_wp2_with fail
  refine (he _).mono ?_
  rintro e w1 ⟨rfl, hb⟩
  obtain ⟨k0, k1, k2, hE⟩ := ext3 hb
  obtain ⟨c0, f0⟩ := blk_rules k0
  obtain ⟨c1, f1⟩ := blk_rules k1
  clear hb he
  go_wp2_with fail
  refine (hi _).mono ?_
  rintro e w2 ⟨rfl, hb⟩
  replace k0 := hb.keep k0
  replace k1 := hb.keep k1
  replace k2 := hb.keep k2
  replace hE := hE.trans hb
  clear c0 f0 c1 f1 hi hb
  obtain ⟨c1, f1⟩ := blk_rules k1
  have z1 := blk_lt k1
  go_wp2_with fail
  clear z1 c1 f1
  have hg2 := blk_lt k2
  have ko := blk_new w2 (.cells #[.int .i64 aN, .int .i64 N, .slice none 0 0] 24)
  replace k0 := blk_old k0 (.cells #[.int .i64 aN, .int .i64 N, .slice none 0 0] 24)
  replace k1 := blk_old k1 (.cells #[.int .i64 aN, .int .i64 N, .slice none 0 0] 24)
  replace k2 := blk_old k2 (.cells #[.int .i64 aN, .int .i64 N, .slice none 0 0] 24)
  have hE1 := hE.size
  replace hE := hE.alloc (.cells #[.int .i64 aN, .int .i64 N, .slice none 0 0] 24)
  obtain ⟨g, hg⟩ : ∃ g, w2.heap.size = g := ⟨_, rfl⟩
  rw [hg] at ko hE1 hg2 ⊢
  generalize w2.alloc (.cells #[.int .i64 aN, .int .i64 N, .slice none 0 0] 24) = w3 at *
  clear hg
  go_loopw [7] (fun iv wr => ∃ (i : Nat) (B : Option Addr) (dB : Nat), i ≤ N ∧ iv = .int .i64 (y + i) ∧ Ext w wr ∧ wr.heap[w.heap.size]? = some (.cells #[.int .i64 W, .int .i64 H, .slice A xs.length d] 24 (0, 0)) ∧ wr.heap[w.heap.size + 1]? = some (.cells #[.int .i64 x, .int .i64 y, .int .i64 aN, .int .i64 N] 38 (0, 0)) ∧ wr.heap[w.heap.size + 1 + 1]? = some (.cells #[.int .i64 0, .int .i64 0, .slice none 0 0] 24 (0, 0)) ∧ wr.heap[g]? = some (.cells #[.int .i64 aN, .int .i64 N, .slice B (PR i).length dB] 24 (0, 0)) ∧ Own .u32 35 wr w.heap.size (.slice B (PR i).length dB) (PR i)) (fun iv _ => (y + N - intOf iv).toNat)
  case atStart => exact ⟨0, none, 0, Nat.zero_le _, by simp, hE, k0, k1, k2, by rw [H0.out]; exact ko, by rw [H0.out]; exact World.ownsRow_nil _ _ _ _⟩
  case round =>
    clear hE k0 k1 k2 ko
    obtain ⟨i, B, dB, hk, rfl, hE, k0, k1, k2, ko, hown⟩ := hrel
    obtain ⟨c1, f1⟩ := blk_rules k1
    obtain ⟨co, fo⟩ := blk_rules ko
    by_cases hlt : i < N
    · obtain ⟨e1, e2, e3⟩ := HR.out i hlt
      have e4 := HF.out i hlt
      have hl1 : (PR i).length ≤ 65536 := by
        rw [HL.out i hk]
        have h1 : i * aN ≤ 256 * aN := Nat.mul_le_mul_right _ (by omega)
        have h2 : 256 * aN ≤ 256 * 256 := Nat.mul_le_mul_left _ (by omega)
        omega
      obtain ⟨lo, hlo⟩ : ∃ lo, rowAt W ⟨x, y, aN, N⟩ i = lo := ⟨_, rfl⟩
      have hP := HP.out i hlt
      rw [hlo] at e1 e4 hP
      clear hlo
      obtain ⟨ab, ao, rfl, har⟩ := (hr.ext hE).form (by omega)
      obtain ⟨c0, f0⟩ := blk_rules k0
      obtain ⟨YW, hYW⟩ : ∃ YW, (y + (i : Int)) * W = YW := ⟨_, rfl⟩
      rw [hYW] at e1 e2 e3
      have v1 : IntKind.i64.wrap ((y + (i : Int)) * W) = YW := by rw [hYW]; exact IntWalk.i64_in _ (by omega)
      have v2 : IntKind.i64.wrap (YW + x) = (lo : Int) := by rw [e1]; exact IntWalk.i64_in _ (by omega)
      have v3 : IntKind.i64.wrap ((lo : Int) + aN) = (lo : Int) + aN := IntWalk.i64_in _ (by omega)
      have hsh := shows_cut (lo := lo) (m := aN) har (by omega)
      have hPl : ((xs.drop lo).take aN).length = aN := by simp; omega
      have hdl : ¬ (d = lo) := by omega
      have t1 : (lo : Int) ≤ (lo : Int) + aN := by omega
      have t2 : (lo : Int) + aN ≤ d := by omega
      have t3 : ((lo : Int) + aN).toNat = lo + aN := by omega
      clear hYW e1
      go_wp2_with fail
      go_still_tail 22, (by kernel_rfl)
      change wpList _ _ _ _ _ wr.drew
      have hown0 : wr.drew.ownsRow w.heap.size 35 1 (.slice B (PR i).length dB) (PR i).length (nums .u32 (PR i)) := World.ownsRow.drew hown
      have hE0 : Ext w wr.drew := hE.drew
      refine wpList_app w.heap.size rfl (.tmp 38) (.tmp 58) 22 35 (.int .u32 0) 1 4 rfl Try.underlying22 info_u32 rfl (by decide) (by decide) (.slice B (PR i).length dB) (PR i).length (nums .u32 (PR i)) rfl hown0 (some ⟨ab, ao + lo, none⟩) aN (d - lo) (nums .u32 ((xs.drop lo).take aN)) rfl (fun h => by cases h) (by rw [nums_length, hPl]; simp) hsh nums_one (by omega) hE0.size (fun v' w' hown' hg => ?_)
      obtain ⟨B', d', rfl⟩ := row_slice hown'
      have hl2 : (PR i).length + aN = (PR (i + 1)).length := by rw [hP, List.length_append, hPl]
      have hn2 : nums .u32 (PR i) ++ nums .u32 ((xs.drop lo).take aN) = nums .u32 (PR (i + 1)) := by rw [hP]; simp [nums]
      rw [hl2, hn2] at hown'
      rw [hl2]
      have k0' := row_far hown0 hg (show wr.drew.heap[_]? = _ from k0) (by decide)
      have k1' := row_far hown0 hg (show wr.drew.heap[_]? = _ from k1) (by decide)
      have k2' := row_far hown0 hg (show wr.drew.heap[_]? = _ from k2) (by decide)
      have ko' := row_far hown0 hg (show wr.drew.heap[_]? = _ from ko) (by decide)
      have hE' := row_ext hown0 hE0 hg
      clear c0 f0 c1 f1 co fo k0 k1 k2 ko hE hE0 hown hown0 hg hl2 hn2 hP hPl hsh
      obtain ⟨co, fo⟩ := blk_rules ko'
      have hgl : w.heap.size + 1 + 1 ≠ g := by omega
      go_wp2_with fail
      have v4 : IntKind.i64.wrap (y + (i : Int) + 1) = y + ((i + 1 : Nat) : Int) := by rw [IntWalk.i64_in _ (by omega)]; omega
      go_roundw
      case rel =>
        exact ⟨i + 1, B', d', by omega, by go_num, hE'.set (by simpa using hE1) _, blk_set_ne k0' (by omega) _ _, blk_set_ne k1' (by omega) _ _, blk_set_ne k2' hgl _ _, blk_set ko' 2 _, row_set hown' ko' (by decide) 2 _⟩
      case measure => simp [intOf]; omega
    · obtain rfl : i = N := by omega
      have HT := Lib.hid hown
      obtain ⟨c2, f2⟩ := blk_rules k2
      clear hown
      go_wp2_with fail
      refine bodyPost_ret (v := .tuple #[.agg #[.int .i64 aN, .int .i64 i, .slice B (PR i).length dB], .int .i64 0]) (by simp only [results, Try.results32]; go_simp; done) rfl ⟨_, _, rfl, ?_, ?_⟩
      · exact row_set (row_set (row_set HT.out k2 (by decide) 0 (.int .i64 aN)) (blk_set k2 0 (.int .i64 aN)) (by decide) 1 (.int .i64 i)) (blk_set (blk_set k2 0 (.int .i64 aN)) 1 (.int .i64 i)) (by decide) 2 (.slice B (PR i).length dB)
      · repeat' (first | exact hE | refine Ext.set ?_ ?_ _)
        all_goals (simp; omega)
end Go.Proofs.Ytilcggkbancniaa
