/- The walks of package pixbuf, the third part: Clone, Image. -/
import Derived.Test.YtilcggkbancniaaPixB
import Derived.Test.YtilcggkbancniaaApp
import Derived.Lib.SliceRun
import Derived.Deep.RegionHeld3
set_option linter.unusedVariables false
set_option linter.unusedSimpArgs false
namespace Go.Proofs.Ytilcggkbancniaa
open Go.RowKit

set_option maxHeartbeats 1000000 in
theorem sclone_any (b off c : Nat) (xs : List Int) (w : World) (hr : Reads .u32 w (some ⟨b, off, none⟩) xs) (hn : xs.length ≤ 65536) (hp : 0 < xs.length) :
    Calls Try.prog 81 #[.slice (some ⟨b, off, none⟩) xs.length c] w fun e w' => ∃ g c', e = .returned (.slice (some ⟨g, 0, none⟩) xs.length c') ∧ Own .u32 35 w' w.heap.size (.slice (some ⟨g, 0, none⟩) xs.length c') xs ∧ w.heap.size ≤ g ∧ Ext w w' := by
  have hnil := fun w : World => Lib.run_eql_slice_nil (P := Try.prog) w 22 35 (some ⟨b, off, none⟩) xs.length c 0 0 Try.underlying22
  go_enter Try.func81, Try.ntmps81
  have hnil' : (some (⟨b, off, none⟩ : Addr)).isNone = false := rfl
  have hs : ∀ o : Obj, Shows (w.alloc o) (some ⟨b, off, none⟩) (nums .u32 xs) := fun o => (hr.ext ((Ext.refl w).alloc o)).shows
  go_wp2_with (at_builtin; refine wpList_app w.heap.size rfl (.tmp 5) (.tmp 6) 22 35 (.int .u32 0) 1 4 rfl Try.underlying22 info_u32 rfl (by decide) (by decide) (.slice (some ⟨w.heap.size, 0, none⟩) 0 0) 0 [] rfl (World.ownsRow_lit w #[] 0 (Nat.le_refl _) (by decide) rfl) _ xs.length _ (nums .u32 xs) rfl (fun h => by cases h) (by simp [nums]) (hs _) nums_one (by omega) (by simp) ?_; rintro v w1 hown hg)
  simp only [Nat.zero_add, List.nil_append] at hown
  obtain ⟨g, c', rfl, hgb, hgl⟩ := hown.form hp
  go_wp2
  go_ret
  refine ⟨_, _, rfl, hown, hgb, ?_⟩
  exact Below.grown ((Ext.refl w).alloc _) hg (by simp) (by simp [Value.ownBlock])

theorem own_set_ne {e : TypeId} {w : World} {base g n c : Nat} {xs : List Value} (h : w.ownsRow base e 1 (.slice (some ⟨g, 0, none⟩) n c) n xs) {b : Nat} (hne : g ≠ b) (o : Nat) (v : Value) : (w.setCell ⟨b, o, none⟩ v).ownsRow base e 1 (.slice (some ⟨g, 0, none⟩) n c) n xs :=
  World.ownsRow.kept h (row := some b) ⟨rfl, rfl, rfl, by simp [World.setCell], fun k _ hk => Below.heap_setCell w ⟨b, o, none⟩ v k (fun e => hk (by rw [e]))⟩ (.inr (by simp [Value.ownBlock]; exact hne))

set_option maxHeartbeats 1000000 in
theorem image_any {w : World} {base bb bp cap : Nat} {W H : Int} {px : List Int} (hB : BufAt 90 35 w base bb bp cap W H px) :
    Calls Try.prog 34 #[.pointer (some ⟨bb, 0, none⟩)] w fun e w' => ∃ g c, e = .returned (.agg #[.int .i64 W, .int .i64 H, .slice (some ⟨g, 0, none⟩) px.length c]) ∧ Own .u32 35 w' w.heap.size (.slice (some ⟨g, 0, none⟩) px.length c) px ∧ w.heap.size ≤ g ∧ Ext w w' := by
  have hE := (Ext.refl w).alloc (.cells #[.int .i64 0, .int .i64 0, .slice none 0 0] 24)
  have hB1 := hB.ext hE
  have hn : px.length ≤ 65536 := by have := hB.len; have := (mul_bd hB.w1 hB.w2 hB.h1 hB.h2).2; omega
  have hp : 0 < px.length := by have := hB.len; have := (mul_bd hB.w1 hB.w2 hB.h1 hB.h2).1; omega
  have hlt := blk_lt hB.head
  have hne1 : ¬ w.heap.size = bb := by omega
  have hne2 : ¬ bb = w.heap.size := by omega
  have k1 := hB1.head
  obtain ⟨c1, f1⟩ := blk_rules k1
  obtain ⟨A, c, hv, hr, _⟩ := hB1.row.reads
  injection hv with hv1 hv2 hv3
  subst hv1
  clear hB hv2 hv3
  go_enter Try.func34, Try.ntmps34
  go_wp2_with fail
  go_region_held3 (fun w' => w'.cell? ⟨bb, 0, none⟩ = some (.int .i64 W) ∧ w'.cell? ⟨bb, 1, none⟩ = some (.int .i64 H) ∧ w'.cell? ⟨bb, 2, none⟩ = some (.slice (some ⟨bp, 0, none⟩) px.length cap)) (first | exact ⟨d1 0, d1 1, d1 2⟩ | go_keep) (first | (go_at_call 81; refine (sclone_any _ _ _ _ _ (hr.ext ((Ext.refl _).drew)) hn hp).mono ?_; rintro e w' ⟨g, c', rfl, ho, hg, hb⟩; obtain ⟨d1, g1⟩ := blk_rules (hb.keep k1); obtain ⟨d0, g0⟩ := blk_rules (hb.keep (blk_new w _))))
  have hg' : w.heap.size < g := by simp at hg; omega
  have hE2 : Ext w w' := Ext.trans (hE.drew) hb
  go_wp2
  refine bodyPost_ret (v := .agg #[.int .i64 W, .int .i64 H, .slice (some ⟨g, 0, none⟩) px.length c']) (by simp only [results, Try.results34]; go_simp; done) rfl ⟨_, _, rfl, ?_, by omega, ?_⟩
  · refine own_set_ne (own_set_ne (own_set_ne (World.ownsRow.base_le ho (by simp)) (by omega) _ _) (by omega) _ _) (by omega) _ _
  · repeat' (first | exact hE2 | refine Ext.set ?_ ?_ _)
    all_goals (simp; done)

set_option maxHeartbeats 1000000 in
theorem clone_any {w : World} {base bb bp cap : Nat} {W H : Int} {px : List Int} (hB : BufAt 90 35 w base bb bp cap W H px) :
    Calls Try.prog 35 #[.pointer (some ⟨bb, 0, none⟩)] w fun e w' => ∃ b2 p2 c2, e = .returned (.pointer (some ⟨b2, 0, none⟩)) ∧ BufAt 90 35 w' w.heap.size b2 p2 c2 W H px ∧ w.heap.size ≤ p2 ∧ Ext w w' := by
  have hn : px.length ≤ 65536 := by have := hB.len; have := (mul_bd hB.w1 hB.w2 hB.h1 hB.h2).2; omega
  have hp : 0 < px.length := by have := hB.len; have := (mul_bd hB.w1 hB.w2 hB.h1 hB.h2).1; omega
  have k1 := hB.head
  obtain ⟨c1, f1⟩ := blk_rules k1
  obtain ⟨A, c, hv, hr, _⟩ := hB.row.reads
  injection hv with hv1 hv2 hv3
  subst hv1
  have HB := Lib.hid hB
  clear hB hv2 hv3
  go_enter Try.func35, Try.ntmps35
  go_wp2_with fail
  go_region_held3 (fun w' => w'.cell? ⟨bb, 0, none⟩ = some (.int .i64 W) ∧ w'.cell? ⟨bb, 1, none⟩ = some (.int .i64 H) ∧ w'.cell? ⟨bb, 2, none⟩ = some (.slice (some ⟨bp, 0, none⟩) px.length cap)) (first | exact ⟨d1 0, d1 1, d1 2⟩ | go_keep) (first | (go_at_call 81; refine (sclone_any _ _ _ _ _ (hr.ext ((Ext.refl _).drew)) hn hp).mono ?_; rintro e w' ⟨g, c', rfl, ho, hg, hb⟩; obtain ⟨d1, g1⟩ := blk_rules (hb.keep k1); have z1 := blk_lt (hb.keep k1)))
  have hE2 : Ext w w' := Ext.trans ((Ext.refl w).drew) hb
  have hB := HB.out
  have hgl := (World.ownsRow.lt ho g (by simp [Value.ownBlock])).2
  clear d1 g1 c1 f1
  go_wp2
  go_ret
  refine ⟨_, g, c', rfl, ⟨blk_new _ _, ?_, by omega, hE2.size, hB.w1, hB.w2, hB.h1, hB.h2, hB.len, hB.pix⟩, by simpa using hg, hE2.alloc _⟩
  exact Own.ext (World.ownsRow.base_le ho (by simp)) ((Ext.refl _).alloc _)

/-- slices.Equal of two rows of pixels. -/
def eqL (xs ys : List Int) : Bool := decide (xs = ys)
set_option maxHeartbeats 1000000 in
theorem sequal_any (A B : Option Addr) (c d : Nat) (xs ys : List Int) (w : World) (hx : Reads .u32 w A xs) (hy : Reads .u32 w B ys) (hn : xs.length ≤ 65536) (hm : ys.length ≤ 65536) :
    Calls Try.prog 83 #[.slice A xs.length c, .slice B ys.length d] w fun e w' => e = .returned (.bool (eqL xs ys)) ∧ Ext w w' := by
  by_cases hl : xs.length = ys.length
  · have hl1 : ((xs.length : Nat) != ys.length) = false := by simp [hl]
    go_enter Try.func83, Try.ntmps83
    have Hl := Lib.hid hl
    clear hl
    go_wp2_with fail
    go_loopw [13] (fun i wr => ∃ k : Nat, k ≤ xs.length ∧ i = .int .i64 k ∧ xs.take k = ys.take k ∧ Ext w wr) (fun i _ => xs.length - (intOf i).toNat)
    case atStart => exact ⟨0, Nat.zero_le _, rfl, by simp, Ext.refl _⟩
    case round =>
      obtain ⟨k, hk, rfl, ht, hE⟩ := hrel
      have Ht := Lib.hid ht
      clear ht
      by_cases hlt : k < xs.length
      · have hlt2 : k < ys.length := by have := Hl.out; omega
        obtain ⟨b1, o1, rfl, h1⟩ := (hx.ext hE).form (by omega)
        obtain ⟨b2, o2, rfl, h2⟩ := (hy.ext hE).form (by omega)
        have h1 := h1 k hlt
        have h2 := h2 k hlt2
        have t1 := List.take_succ_eq_append_getElem hlt
        have t2 := List.take_succ_eq_append_getElem hlt2
        have Ht2 : Hid (xs[k] = ys[k] → xs.take (k + 1) = ys.take (k + 1)) := fun e => by rw [t1, t2, Ht.out, e]
        have Ht3 : Hid (xs[k] ≠ ys[k] → eqL xs ys = false) := fun e => by
          simp only [eqL, decide_eq_false_iff_not]
          intro e2
          subst e2
          exact e rfl
        simp only [List.getD_eq_getElem?_getD, List.getElem?_eq_getElem hlt, List.getElem?_eq_getElem hlt2, Option.getD_some] at h1 h2
        clear t1 t2
        generalize xs[k] = p at *
        generalize ys[k] = q at *
        go_wp2_with fail
        go_quiet (fail)
        go_wp2_with fail
        · go_ret
          have hne : p ≠ q := by first | assumption | (intro e; simp_all)
          exact ⟨by rw [Ht3.out hne]; rfl, hE.drewN _⟩
        · have he : p = q := by first | assumption | (simp_all; done)
          exact ⟨⟨k + 1, by omega, by go_num, Ht2.out he, hE.drewN _⟩, by simp [intOf]; omega⟩
      · have he : eqL xs ys = true := by
          have := Ht.out
          have h2 := Hl.out
          rw [List.take_of_length_le (by omega), List.take_of_length_le (by omega)] at this
          simpa [eqL] using this
        have He := Lib.hid he
        clear he
        go_wp2_with fail
        go_ret
        exact ⟨by rw [He.out]; rfl, hE⟩
  · have hl1 : ((xs.length : Nat) != ys.length) = true := by simpa using hl
    have he : eqL xs ys = false := by simp only [eqL, decide_eq_false_iff_not]; intro e; exact hl (by rw [e])
    rw [he]
    go_enter Try.func83, Try.ntmps83
    go_wp2_with fail
    go_ret
    exact ⟨rfl, Ext.refl _⟩

set_option maxHeartbeats 2000000 in
theorem same_any {w : World} {base bb bp cap base' b2 p2 c2 : Nat} {W H W' H' : Int} {px px' : List Int} (hB : BufAt 90 35 w base bb bp cap W H px) (hC : BufAt 90 35 w base' b2 p2 c2 W' H' px') :
    Calls Try.prog 38 #[.pointer (some ⟨bb, 0, none⟩), .pointer (some ⟨b2, 0, none⟩)] w fun e w' => e = .returned (.bool (W == W' && (H == H' && eqL px px'))) ∧ Ext w w' := by
  have hn : px.length ≤ 65536 := by have := hB.len; have := (mul_bd hB.w1 hB.w2 hB.h1 hB.h2).2; omega
  have hn' : px'.length ≤ 65536 := by have := hC.len; have := (mul_bd hC.w1 hC.w2 hC.h1 hC.h2).2; omega
  have j1 := After.blk hB.head
  have j2 := After.blk hC.head
  obtain ⟨A, c, hv, hr, _⟩ := hB.row.reads
  obtain ⟨A', c', hv', hr', _⟩ := hC.row.reads
  injection hv with hv1 hv2 hv3
  injection hv' with hv1' hv2' hv3'
  subst hv1
  subst hv1'
  have heq : ∀ x : After w, Calls Try.prog 83 #[.slice (some ⟨bp, 0, none⟩) px.length cap, .slice (some ⟨p2, 0, none⟩) px'.length c2] x.now fun e w' => e = .returned (.bool (eqL px px')) ∧ Ext x.now w' :=
    fun x => sequal_any _ _ _ _ _ _ _ (hr.ext x.ext) (hr'.ext x.ext) hn hn'
  clear hB hC hv2 hv3 hv2' hv3' hr hr' hn hn'
  cases h1 : (W == W')
  · go_enter Try.func38, Try.ntmps38
    go_wp2_with fail
    refine wp_region_after (by kernel_rfl) (by kernel_rfl) ?_
    repeat (go_big_quiet_step (fail))
    refine wpQuiet_nil ?_
    intro _ hw'
    obtain ⟨x, rfl⟩ := hw'
    go_wp2
    go_ret
    exact ⟨rfl, x.ext⟩
  · cases h2 : (H == H')
    · go_enter Try.func38, Try.ntmps38
      go_wp2_with fail
      refine wp_region_after (by kernel_rfl) (by kernel_rfl) ?_
      repeat (go_big_quiet_step (fail))
      refine wpQuiet_nil ?_
      intro _ hw'
      obtain ⟨x, rfl⟩ := hw'
      go_wp2
      go_ret
      exact ⟨rfl, x.ext⟩
    · go_enter Try.func38, Try.ntmps38
      go_wp2_with fail
      refine wp_region_after (by kernel_rfl) (by kernel_rfl) ?_
      repeat (go_big_quiet_step (exact Calls.after (heq _)))
      refine wpQuiet_nil ?_
      intro _ hw'
      obtain ⟨x, rfl⟩ := hw'
      go_wp2
      go_ret
      exact ⟨by simp, x.ext⟩
end Go.Proofs.Ytilcggkbancniaa
