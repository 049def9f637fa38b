/- The walks of package pixbuf, the first part: New, From. -/
import Derived.Test.YtilcggkbancniaaRectD
import Derived.Test.YtilcggkbancniaaMem
set_option linter.unusedVariables false
set_option linter.unusedSimpArgs false
namespace Go.Proofs.Ytilcggkbancniaa
open Go.RowKit
set_option maxHeartbeats 1000000 in
theorem new_bad (W H : Int) (w : World) (h : okSize W H = false) :
    Calls Try.prog 72 #[.int .i64 W, .int .i64 H] w fun e w' => e = .returned (.tuple #[.pointer none, .int .i64 1]) ∧ w = w' := by
  have hh : W < 1 ∨ 1 ≤ W ∧ 256 < W ∨ 1 ≤ W ∧ W ≤ 256 ∧ H < 1 ∨ 1 ≤ W ∧ W ≤ 256 ∧ 1 ≤ H ∧ 256 < H := by
    have : ¬ (okSize W H = true) := by rw [h]; simp
    rw [okSize_iff] at this; omega
  rcases hh with h1 | ⟨h1, h2⟩ | ⟨h1, h2, h3⟩ | ⟨h1, h2, h3, h4⟩
  all_goals
    go_enter Try.func72, Try.ntmps72
    go_wp2
    go_ret2
    exact ⟨rfl, rfl⟩
theorem info_u32 : (Try.prog.info? 35).map (fun i => (i.zero, i.size, i.bytes)) = some (some (.int .u32 0), 1, 4) := by kernel_rfl
set_option maxHeartbeats 1000000 in
theorem new_good (W H : Int) (w : World) (h1 : 1 ≤ W) (h2 : W ≤ 256) (h3 : 1 ≤ H) (h4 : H ≤ 256) :
    Calls Try.prog 72 #[.int .i64 W, .int .i64 H] w fun e w' => e = .returned (.tuple #[.pointer (some ⟨w.heap.size + 1, 0, none⟩), .int .i64 0]) ∧ BufAt 90 35 w' w.heap.size (w.heap.size + 1) w.heap.size (W * H).toNat W H (List.replicate (W * H).toNat 0) ∧ Ext w w' := by
  obtain ⟨m1, m2⟩ := mul_bd h1 h2 h3 h4
  obtain ⟨n, hn⟩ : ∃ n : Nat, W * H = n := ⟨(W * H).toNat, by omega⟩
  rw [hn] at m1 m2 ⊢
  rw [Int.toNat_natCast]
  have hm := run_make_row' 22 35 (.int .u32 0) 4 Try.underlying22 info_u32 rfl .i64 .i64 n (by omega) (by omega)
  go_enter Try.func72, Try.ntmps72
  go_wp2
  go_ret2
  refine ⟨rfl, ?_, ((Ext.refl _).alloc _).alloc _⟩
  have hl : (List.replicate n (0 : Int)).length = n := by simp
  refine ⟨?_, ?_, by omega, by omega, h1, h2, h3, h4, by rw [hl, hn], fun p hp => by rw [(List.mem_replicate.1 hp).2]; omega⟩
  · rw [hl]; exact blk_new1 w _ _
  · have := (own_made w w.heap.size 35 .u32 n (Nat.le_refl _) (by omega)).alloc (.cells #[.int .i64 W, .int .i64 H, .slice (some ⟨w.heap.size, 0, none⟩) n n] 90)
    unfold Own
    rw [hl]
    exact this

/-- What From has copied behind k rounds. -/
def copied (xs : List Int) (k : Nat) : List Int := (xs.take k).map cut24 ++ List.replicate (xs.length - k) 0
theorem copied_length (xs : List Int) (k : Nat) (h : k ≤ xs.length) : (copied xs k).length = xs.length := by simp [copied]; omega
theorem copied_zero (xs : List Int) : copied xs 0 = List.replicate xs.length 0 := by simp [copied]
theorem copied_all (xs : List Int) : copied xs xs.length = xs.map cut24 := by simp [copied]
theorem copied_succ (xs : List Int) (k : Nat) (h : k < xs.length) : (copied xs k).set k (cut24 (xs.getD k 0)) = copied xs (k + 1) := by
  unfold copied
  rw [List.set_append_right _ _ (by simp; omega)]
  have e1 : xs.length - k = (xs.length - (k + 1)) + 1 := by omega
  rw [show k - ((xs.take k).map cut24).length = 0 from by simp; omega, e1, List.replicate_succ, List.set_cons_zero, List.take_succ_eq_append_getElem h, List.map_append, List.append_assoc]
  simp only [List.getD_eq_getElem?_getD, List.getElem?_eq_getElem h, Option.getD_some, List.map_cons, List.map_nil, List.cons_append, List.nil_append]
set_option maxHeartbeats 1000000 in
theorem from_bad (W H : Int) (A : Option Addr) (c : Nat) (xs : List Int) (w : World) (h : isPic W H xs.length = false) :
    Calls Try.prog 17 #[.agg #[.int .i64 W, .int .i64 H, .slice A xs.length c]] w fun e w' => e = .returned (.tuple #[.pointer none, .int .i64 1]) ∧ Ext w w' := by
  cases hs : okSize W H
  · go_enter Try.func17, Try.ntmps17
    go_wp2_with fail
    refine (new_bad _ _ _ hs).mono ?_
    rintro e w' ⟨rfl, rfl⟩
    go_wp2_with fail
    go_quiet (fail)
    go_wp2
    go_ret2
    exact ⟨rfl, ((Ext.refl _).alloc _).drewN _⟩
  · obtain ⟨h1, h2, h3, h4⟩ := okSize_iff.1 hs
    have hne : xs.length ≠ (W * H).toNat := fun e => by
      have : isPic W H xs.length = true := by
        obtain ⟨m1, m2⟩ := mul_bd h1 h2 h3 h4
        simp [isPic, h1, h2, h3, h4, e]; omega
      rw [h] at this; cases this
    have hneB : (((xs.length : Nat) : Int) != ((W * H).toNat : Nat)) = true := by rw [bne_iff_ne]; omega
    have hneC : (xs.length == (W * H).toNat) = false := by simpa using hne
    go_enter Try.func17, Try.ntmps17
    go_wp2_with fail
    refine (new_good _ _ _ h1 h2 h3 h4).mono ?_
    rintro e w1 ⟨rfl, hB, hb⟩
    obtain ⟨k0, hE⟩ := ext1 hb
    obtain ⟨c0, f0⟩ := blk_rules k0
    have hh := hB.head
    rw [List.length_replicate] at hh
    simp only [World.size_alloc] at hh
    obtain ⟨c1, f1⟩ := blk_rules hh
    clear hb hB hh k0
    go_wp2_with fail
    go_quiet (fail)
    go_wp2
    go_ret2
    exact ⟨rfl, hE.drewN _⟩

set_option maxHeartbeats 2000000 in
theorem from_good (W H : Int) (A : Option Addr) (c : Nat) (xs : List Int) (w : World) (h : isPic W H xs.length = true) (hr : Reads .u32 w A xs) (hx : ∀ x ∈ xs, 0 ≤ x ∧ x ≤ 4294967295) :
    Calls Try.prog 17 #[.agg #[.int .i64 W, .int .i64 H, .slice A xs.length c]] w fun e w' => ∃ bb bp cap, e = .returned (.tuple #[.pointer (some ⟨bb, 0, none⟩), .int .i64 0]) ∧ BufAt 90 35 w' w.heap.size bb bp cap W H (xs.map cut24) ∧ Ext w w' := by
  have hp : 1 ≤ W ∧ W ≤ 256 ∧ 1 ≤ H ∧ H ≤ 256 ∧ (xs.length : Int) = W * H := by simpa [isPic, and_assoc] using h
  obtain ⟨h1, h2, h3, h4, h5⟩ := hp
  obtain ⟨m1, m2⟩ := mul_bd h1 h2 h3 h4
  have hn0 : 0 < xs.length := by omega
  have hn1 : xs.length ≤ 65536 := by omega
  have hn : (W * H).toNat = xs.length := by omega
  have H5 := Lib.hid h5; clear h5
  obtain ⟨b, off, rfl, hrr⟩ := hr.form hn0
  go_enter Try.func17, Try.ntmps17
  go_wp2_with fail
  refine (new_good _ _ _ h1 h2 h3 h4).mono ?_
  rw [hn]
  rintro e w1 ⟨rfl, hB, hb⟩
  obtain ⟨k0, hE⟩ := ext1 hb
  obtain ⟨c0, f0⟩ := blk_rules k0
  have hh := hB.head
  have hrow := hB.row
  rw [List.length_replicate] at hh
  unfold Own at hrow
  rw [List.length_replicate] at hrow
  have hne := hB.ne
  have hbase := hB.hb
  simp only [World.size_alloc] at hh hrow hne hbase ⊢
  obtain ⟨c1, f1⟩ := blk_rules hh
  clear hb hB hn m1 m2 h
  go_wp2_with fail
  go_quiet (fail)
  go_wp2_with fail
  replace hE : Ext w (w1.drewN nq) := hE.drewN nq
  replace k0 : (w1.drewN nq).heap[w.heap.size]? = _ := k0
  replace hh : (w1.drewN nq).heap[w.heap.size + 1 + 1]? = _ := hh
  replace hrow : (w1.drewN nq).ownsRow _ _ _ _ _ _ := hrow
  clear c0 c1 f0 f1
  generalize w1.drewN nq = w2 at *
  rw [← copied_zero] at hrow
  go_loopw [32] (fun i wr => ∃ k : Nat, k ≤ xs.length ∧ i = .int .i64 k ∧ Ext w wr ∧ wr.heap[w.heap.size]? = some (.cells #[.int .i64 W, .int .i64 H, .slice (some ⟨b, off, none⟩) xs.length c] 24 (0, 0)) ∧ wr.heap[w.heap.size + 1 + 1]? = some (.cells #[.int .i64 W, .int .i64 H, .slice (some ⟨w.heap.size + 1, 0, none⟩) xs.length xs.length] 90 (0, 0)) ∧ wr.ownsRow (w.heap.size + 1) 35 1 (.slice (some ⟨w.heap.size + 1, 0, none⟩) xs.length xs.length) xs.length (nums .u32 (copied xs k))) (fun i _ => xs.length - (intOf i).toNat)
  case atStart => exact ⟨0, Nat.zero_le _, rfl, hE, k0, hh, hrow⟩
  case round =>
    clear hE k0 hh hrow
    obtain ⟨k, hk, rfl, hE, k0, hh, hrow⟩ := hrel
    obtain ⟨c0, f0⟩ := blk_rules k0
    obtain ⟨c1, f1⟩ := blk_rules hh
    by_cases hlt : k < xs.length
    · have hx2 := hE.cellOf (hrr k hlt)
      have hrc := hrow.cellAt k (by omega)
      rw [nums_get (by rw [copied_length _ _ hk]; exact hlt)] at hrc
      have hrf := fun j => hrow.frozenAt j
      have hv := hx _ (List.getElem_mem hlt)
      have hs := hrow.stored k (.int .u32 (bits BinOp.and IntKind.u32 xs[k] 16777215))
      have hset : (nums .u32 (copied xs k)).set k (.int .u32 (bits BinOp.and IntKind.u32 xs[k] 16777215)) = nums .u32 (copied xs (k + 1)) := by
        rw [← copied_succ xs k hlt, and_cut hv.1 (by omega)]
        simp [nums, List.map_set, List.getD_eq_getElem?_getD, List.getElem?_eq_getElem hlt]
      have Hs := Lib.hid (hset ▸ hs.1)
      clear hs hset hv
      go_wp2_with fail
      go_roundw
      case rel => exact ⟨k + 1, by omega, by go_num, hE.set (by simp) _, blk_set_ne k0 (by omega) _ _, blk_set_ne hh (by omega) _ _, Hs.out⟩
      case measure => simp [intOf]; omega
    · obtain rfl : k = xs.length := by omega
      go_wp2_with fail
      go_ret2
      rw [copied_all] at hrow
      refine ⟨_, w.heap.size + 1, xs.length, rfl, ⟨by simpa using hh, ?_, by omega, by omega, h1, h2, h3, h4, by simpa using H5.out, ?_⟩, hE⟩
      · unfold Own
        have := World.ownsRow.base_le hrow (Nat.le_succ _)
        simpa using this
      · intro p hp
        obtain ⟨x, _, rfl⟩ := List.mem_map.1 hp
        exact cut24_bd x
end Go.Proofs.Ytilcggkbancniaa
