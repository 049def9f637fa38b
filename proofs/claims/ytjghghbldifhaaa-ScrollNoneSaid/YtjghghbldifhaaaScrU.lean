/- The law ScrollNone. Printed by gen_scru.py. -/
import Derived.Test.YtjghghbldifhaaaScrT
import Derived.Test.YtjghghbldifhaaaScrN
set_option linter.unusedVariables false
set_option linter.unusedSimpArgs false
namespace Go.Proofs.Ytjghghbldifhaaa
open Go.RowKit
attribute [local go_sem ↓] eq_copy neq_copy
theorem GivesC.non {box : Rect} {o : Option Nat} {w : World} {e : Ending} {w' : World} (h : GivesC box o w e w') (ho : o = none) : e = .returned (.tuple #[.agg #[.int .i64 0, .int .i64 0, .int .i64 0, .int .i64 0, .int .i64 0, .int .i64 0], .bool false]) ∧ Ext w w' := by
  subst ho
  exact h
theorem from_some (W H : Int) (A : Option Addr) (c : Nat) (xs : List Int) (w : World) (hr : Reads .u32 w A xs) (hx : ∀ x ∈ xs, 0 ≤ x ∧ x ≤ 4294967295) :
    Calls Try.prog 54 #[.agg #[.int .i64 W, .int .i64 H, .slice A xs.length c]] w fun e w' => ∃ v code, e = .returned (.tuple #[v, .int .i64 code]) ∧ Ext w w' := by
  cases h : isPic W H xs.length
  · exact (from_bad W H A c xs w h).mono fun e w' h => ⟨_, _, h.1, h.2⟩
  · exact (from_good W H A c xs w h hr hx).mono fun e w' ⟨bb, bp, cap, he, _, hE⟩ => ⟨_, _, he, hE⟩
theorem mapAt_const (f : Int → Int) (xs : List Int) : mapAt (fun _ x => f x) xs = xs.map f := by
  unfold mapAt
  refine List.ext_getElem (by simp) fun i h1 h2 => ?_
  simp only [List.length_map, List.length_range] at h1
  simp [List.getD_eq_getElem?_getD, List.getElem?_eq_getElem h1]
theorem rects_nil (w : World) : RectsAt w none [] := fun i r h => by cases h
set_option maxRecDepth 100000 in
set_option maxHeartbeats 32000000 in
theorem none18_true (W H : Int) (A : Option Addr) (ca : Nat) (xs : List Int) (W' H' : Int) (A' : Option Addr) (cb : Nat) (ys : List Int) (lA : Option Addr) (lc : Nat) (l : List Rect) (by_ : Int) (w : World) (rx : Reads .u32 w A xs) (ry : Reads .u32 w A' ys) (hx : ∀ x ∈ xs, 0 ≤ x ∧ x ≤ 4294967295) (hy : ∀ x ∈ ys, 0 ≤ x ∧ x ≤ 4294967295) (rl : RectsAt w lA l) (hnil : A = none → ca = 0) (hby : 0 ≤ by_ ∧ by_ ≤ 255) (hxl : xs.length ≤ 400) (d1 : ((400 : Int) < xs.length) = False) (d2 : ((400 : Int) < ys.length) = False) (hl : l.length ≤ 16) (his : (scrollOf W H xs W' H' ys l).isSome = true) :
    Calls Try.prog 10 #[.agg #[.int .i64 W, .int .i64 H, .slice A xs.length ca], .agg #[.int .i64 W', .int .i64 H', .slice A' ys.length cb], .slice lA l.length lc, .int .u8 by_] w fun e w' => e = .returned (.bool true) ∧ Ext w w' := by
  have d3 : ((16 : Int) < l.length) = False := by simp; omega
  have hXB := Lib.hid hx
  have RX := Lib.hid rx
  have RY := Lib.hid ry
  have HX := Lib.hid hx
  have HY := Lib.hid hy
  obtain ⟨nn, hnn⟩ : ∃ n, scrollOf W H xs W' H' ys l = some n := by
    cases h : scrollOf W H xs W' H' ys l
    · rw [h] at his; cases his
    · exact ⟨_, rfl⟩
  obtain ⟨g1, g2, g3, g4, g5⟩ := scroll_some hnn
  subst g3
  subst g4
  clear g5 hnn nn
  have dW : (W != W) = false := by simp
  have dH : (H != H) = false := by simp
  obtain ⟨t, ht⟩ : ∃ t, cpTo (boxOf W H l) (scrollOf W H xs W H ys l) = t := ⟨_, rfl⟩
  obtain ⟨⟨dx, dy⟩, hs⟩ : ∃ s, cpBy (scrollOf W H xs W H ys l) = s := ⟨_, rfl⟩
  have C1 := Lib.hid fun (w1 : World) (E : Ext w w1) => (scroll_any A A' lA ca cb lc W H W H xs ys l w1 (rx.ext E) (ry.ext E) hx hy (rl.ext E) (by omega)).mono fun e w' h => GivesC.form h ht hs his
  have C2 := Lib.hid fun (w1 : World) (E : Ext w w1) => (scroll_any A A lA ca ca lc W H W H xs xs l w1 (rx.ext E) (rx.ext E) hx hx (rl.ext E) (by omega)).mono fun e w' h => GivesC.non h (scroll_same ..)
  have C3 := Lib.hid fun (w1 : World) (E : Ext w w1) => (scroll_any A A' none ca cb 0 W H W H xs ys [] w1 (rx.ext E) (ry.ext E) hx hy (rects_nil _) (by simp)).mono fun e w' h => GivesC.non h (scroll_nil ..)
  have C4 := Lib.hid fun (w1 : World) (E : Ext w w1) (m : Int) (hm : 0 ≤ m ∧ m ≤ 4294967295 ∧ m % 16777216 = 0) (B : Option Addr) (d : Nat) (hr : Reads .u32 w1 B (xs.map (topX m))) => (scroll_any B A' lA d cb lc W H W H (xs.map (topX m)) ys l w1 hr (ry.ext E) (fun x hx2 => by
    obtain ⟨v, hv, rfl⟩ := List.mem_map.1 hx2
    exact (cut_top (hx v hv).1 (hx v hv).2 hm.1 hm.2.1 hm.2.2).2) hy (rl.ext E) (by omega)).mono fun e w' h => by
      rw [scroll_top hm.1 hm.2.1 hm.2.2 W H hx] at h
      exact GivesC.form h ht hs his
  simp only [List.length_map] at C4
  clear ht hs his rx ry rl hx hy hl
  obtain ⟨x, y, a, b⟩ := t
  dsimp only at C1 C4
  have e1 : Rect.eqB ⟨x, y, a, b⟩ ⟨x, y, a, b⟩ = true := Rect.eqB_iff.2 rfl
  go_enter Try.func10, Try.ntmps10
  go_upto_region 1 with fail
  obtain ⟨w0, hw0⟩ : ∃ zz, zz = (w.alloc (.cells #[.int .i64 W, .int .i64 H, .slice A xs.length ca] 43)).alloc (.cells #[.int .i64 W, .int .i64 H, .slice A' ys.length cb] 43) := ⟨_, rfl⟩
  have k0 : w0.heap[w.heap.size]? = some (.cells #[.int .i64 W, .int .i64 H, .slice A xs.length ca] 43 (0, 0)) := by rw [hw0]; exact blk_old (blk_new w _) _
  have k1 : w0.heap[w.heap.size + 1]? = some (.cells #[.int .i64 W, .int .i64 H, .slice A' ys.length cb] 43 (0, 0)) := by rw [hw0]; exact blk_new1 w _ _
  have hE : Ext w w0 := by rw [hw0]; exact ((Ext.refl w).alloc _).alloc _
  rw [← hw0]
  clear hw0
  obtain ⟨c0, f0⟩ := blk_rules k0
  obtain ⟨c1, f1⟩ := blk_rules k1
  go_wp2_with fail
  clear c0 f0 c1 f1
  refine (C1.out _ hE).mono ?_
  rintro e w1 ⟨rfl, E⟩
  replace k0 := E.keep k0
  replace k1 := E.keep k1
  replace hE := hE.trans E
  clear E
  obtain ⟨c0, f0⟩ := blk_rules k0
  have l0 := blk_lt k0
  obtain ⟨c1, f1⟩ := blk_rules k1
  have l1 := blk_lt k1
  go_wp2_with fail
  clear c0 f0 l0
  clear c1 f1 l1
  obtain ⟨v1, hv1⟩ : ∃ zz, zz = w1.alloc (.cells #[.int .i64 x, .int .i64 y, .int .i64 a, .int .i64 b, .int .i64 dx, .int .i64 dy] 54) := ⟨_, rfl⟩
  have k9 : v1.heap[w1.heap.size]? = some (.cells #[.int .i64 x, .int .i64 y, .int .i64 a, .int .i64 b, .int .i64 dx, .int .i64 dy] 54 (0, 0)) := by rw [hv1]; exact blk_new _ _
  have E : Ext w1 v1 := by rw [hv1]; exact (Ext.refl _).alloc _
  rw [← hv1]
  clear hv1
  replace k0 := E.keep k0
  replace k1 := E.keep k1
  replace hE := hE.trans E
  clear E
  obtain ⟨Pk9, hPk9⟩ : ∃ zz, w1.heap.size = zz := ⟨_, rfl⟩
  simp only [hPk9] at k9 ⊢
  clear hPk9
  refine (C2.out _ hE).mono ?_
  rintro e w2 ⟨rfl, E⟩
  replace k0 := E.keep k0
  replace k1 := E.keep k1
  replace k9 := E.keep k9
  replace hE := hE.trans E
  clear E
  obtain ⟨c0, f0⟩ := blk_rules k0
  have l0 := blk_lt k0
  obtain ⟨c1, f1⟩ := blk_rules k1
  have l1 := blk_lt k1
  go_wp2_with fail
  clear c0 f0 l0
  clear c1 f1 l1
  obtain ⟨v2, hv2⟩ : ∃ zz, zz = w2.alloc (.cells #[.int .i64 0, .int .i64 0, .int .i64 0, .int .i64 0, .int .i64 0, .int .i64 0] 54) := ⟨_, rfl⟩
  have k11 : v2.heap[w2.heap.size]? = some (.cells #[.int .i64 0, .int .i64 0, .int .i64 0, .int .i64 0, .int .i64 0, .int .i64 0] 54 (0, 0)) := by rw [hv2]; exact blk_new _ _
  have E : Ext w2 v2 := by rw [hv2]; exact (Ext.refl _).alloc _
  rw [← hv2]
  clear hv2
  replace k0 := E.keep k0
  replace k1 := E.keep k1
  replace k9 := E.keep k9
  replace hE := hE.trans E
  clear E
  obtain ⟨Pk11, hPk11⟩ : ∃ zz, w2.heap.size = zz := ⟨_, rfl⟩
  simp only [hPk11] at k11 ⊢
  clear hPk11
  refine (C3.out _ hE).mono ?_
  rintro e w3 ⟨rfl, E⟩
  replace k0 := E.keep k0
  replace k1 := E.keep k1
  replace k9 := E.keep k9
  replace hE := hE.trans E
  clear E
  obtain ⟨c0, f0⟩ := blk_rules k0
  have l0 := blk_lt k0
  obtain ⟨c1, f1⟩ := blk_rules k1
  have l1 := blk_lt k1
  go_wp2_with fail
  clear c0 f0 l0
  clear c1 f1 l1
  obtain ⟨v3, hv3⟩ : ∃ zz, zz = w3.alloc (.cells #[.int .i64 0, .int .i64 0, .int .i64 0, .int .i64 0, .int .i64 0, .int .i64 0] 54) := ⟨_, rfl⟩
  have k13 : v3.heap[w3.heap.size]? = some (.cells #[.int .i64 0, .int .i64 0, .int .i64 0, .int .i64 0, .int .i64 0, .int .i64 0] 54 (0, 0)) := by rw [hv3]; exact blk_new _ _
  have E : Ext w3 v3 := by rw [hv3]; exact (Ext.refl _).alloc _
  rw [← hv3]
  clear hv3
  replace k0 := E.keep k0
  replace k1 := E.keep k1
  replace k9 := E.keep k9
  replace hE := hE.trans E
  clear E
  obtain ⟨Pk13, hPk13⟩ : ∃ zz, w3.heap.size = zz := ⟨_, rfl⟩
  simp only [hPk13] at k13 ⊢
  clear hPk13
  clear k11 k13 C1 C2 C3
  refine (from_good W H A ca xs _ g1 (RX.out.ext hE) HX.out).mono ?_
  rintro e w4 ⟨b0, p0, q0, rfl, hB0, E⟩
  replace k0 := E.keep k0
  replace k1 := E.keep k1
  replace k9 := E.keep k9
  replace hE := hE.trans E
  replace hB0 := Lib.hid hB0
  clear E
  obtain ⟨c0, f0⟩ := blk_rules k0
  obtain ⟨c1, f1⟩ := blk_rules k1
  obtain ⟨c9, f9⟩ := blk_rules k9
  go_wp2_with fail
  refine (from_good W H A' cb ys _ g2 (RY.out.ext hE) HY.out).mono ?_
  rintro e w5 ⟨b1, p1, q1, rfl, hB1, E⟩
  replace k0 := E.keep k0
  replace k1 := E.keep k1
  replace k9 := E.keep k9
  replace hE := hE.trans E
  replace hB0 := Lib.hid (hB0.out.ext E)
  clear E
  obtain ⟨c0, f0⟩ := blk_rules k0
  obtain ⟨c1, f1⟩ := blk_rules k1
  obtain ⟨c9, f9⟩ := blk_rules k9
  go_wp2_with fail
  refine (w_any hB0.out).mono ?_
  rintro e _ ⟨rfl, rfl⟩
  go_wp2_with fail
  refine (w_any hB1).mono ?_
  rintro e _ ⟨rfl, rfl⟩
  go_wp2_with fail
  refine (h_any hB0.out).mono ?_
  rintro e _ ⟨rfl, rfl⟩
  go_wp2_with fail
  refine (h_any hB1).mono ?_
  rintro e _ ⟨rfl, rfl⟩
  go_wp2_with fail
  generalize w5 = w8 at *
  clear c1 f1 c9 f9
  go_cut [19] from 107 to 114 (fun p wx => ∃ G B' d', p = .pointer (some ⟨G, 0, none⟩) ∧ wx.heap[G]? = some (.cells #[.int .i64 W, .int .i64 H, .slice B' xs.length d'] 43 (0, 0)) ∧ wx.ownsRow w8.heap.size 58 1 (.slice B' xs.length d') xs.length (nums .u32 xs) ∧ Ext w8 wx ∧ w8.heap.size ≤ G)
  case first =>
    have sx : ∀ w', Ext w8 w' → Ext w8 w' ∧ w'.cell? ⟨w.heap.size, 0, none⟩ = some (.int .i64 W) ∧ w'.cell? ⟨w.heap.size, 1, none⟩ = some (.int .i64 H) ∧ w'.cell? ⟨w.heap.size, 2, none⟩ = some (.slice A xs.length ca) := fun w' h => ⟨h, h.cellOf (c0 0), h.cellOf (c0 1), h.cellOf (c0 2)⟩
    go_region_held3 (fun w' => Ext w8 w' ∧ w'.cell? ⟨w.heap.size, 0, none⟩ = some (.int .i64 W) ∧ w'.cell? ⟨w.heap.size, 1, none⟩ = some (.int .i64 H) ∧ w'.cell? ⟨w.heap.size, 2, none⟩ = some (.slice A xs.length ca)) ((refine sx _ ?_; (repeat' (first | exact And.left (by assumption) | assumption | refine Ext.alloc ?_ _ | refine Ext.set ?_ ?_ _ | refine Ext.drew ?_ | exact Ext.refl w8 | exact Nat.le_refl _ | exact Below.size (by assumption) | (simp; done))))) (first | ((refine step_app w8.heap.size rfl (.const (.slice none 0 0)) (.tmp 112) 41 58 (.int .u32 0) 1 4 rfl Try.underlying41 info_u32 rfl (by decide) (by decide) (.slice none 0 0) 0 (nums .u32 []) rfl (World.ownsRow_nil _ _ _ _) A xs.length ca (nums .u32 xs) rfl hnil (by rw [nums_length]; simp) (Reads.shows (RX.out.ext (hE.trans (And.left (by assumption))))) nums_one (by omega) (Below.size (And.left (by assumption))) (fun B' d' w' hown' hg => ?_); have hEw : Ext w8 w' := ext_none (And.left (by assumption)) hg; (first | (have kZ := (ext_none (Ext.refl _) hg).keep (blk_new_drew _ _); obtain ⟨dz, gz⟩ := blk_rules kZ) | skip))))
    all_goals
      rw [Nat.zero_add] at hown'
      have hown1 : w'.ownsRow w8.heap.size 58 1 (.slice B' xs.length d') xs.length (nums .u32 xs) := hown'
    · go_wp2_with fail
      go_meet
      case rel => exact ⟨_, _, _, rfl, blk_new _ _, World.ownsRow.alloc hown1 _, hEw.alloc _, hEw.size⟩
    · go_wp2_with fail
      go_meet
      case rel => exact ⟨_, _, _, rfl, blk_set (blk_set (blk_set kZ 0 (.int .i64 W)) 1 (.int .i64 H)) 2 (.slice B' xs.length d'), row_set (row_set (row_set hown1 kZ (by decide) 0 (.int .i64 W)) (blk_set kZ 0 (.int .i64 W)) (by decide) 1 (.int .i64 H)) (blk_set (blk_set kZ 0 (.int .i64 W)) 1 (.int .i64 H)) (by decide) 2 (.slice B' xs.length d'), ((hEw.set (Nat.le_refl _) _).set (Nat.le_refl _) _).set (Nat.le_refl _) _, Nat.le_refl _⟩
  case rest =>
    obtain ⟨G1, B', d', rfl, kI, hownI, hEc, hG1⟩ := hcut
    clear c0 f0 k0
    go_wp2_with fail
    obtain ⟨m, hm⟩ : ∃ m, m = by_ * 16777216 := ⟨_, rfl⟩
    have hm3 : 0 ≤ m ∧ m ≤ 4294967295 ∧ m % 16777216 = 0 := by omega
    go_loopw [20] (fun iv wr => ∃ k : Nat, k ≤ xs.length ∧ iv = .int .i64 k ∧ wr.heap[G1]? = some (.cells #[.int .i64 W, .int .i64 H, .slice B' xs.length d'] 43 (0, 0)) ∧ wr.ownsRow w8.heap.size 58 1 (.slice B' xs.length d') xs.length (nums .u32 (upTo (fun _ x => topX m x) k xs)) ∧ Ext w8 wr) (fun iv _ => xs.length - (intOf iv).toNat)
    case atStart => exact ⟨0, Nat.zero_le _, rfl, kI, by rw [upTo_zero]; exact hownI, hEc⟩
    case round =>
      clear kI hownI hEc
      obtain ⟨k, hk, rfl, kI, hownI, hE3⟩ := hrel
      obtain ⟨cI, fI⟩ := blk_rules kI
      by_cases hlt : k < xs.length
      · obtain ⟨g', rfl, hgb⟩ := row_form hownI (by omega)
        have hrc := World.ownsRow.cellAt hownI k (by omega)
        rw [nums_get (by rw [upTo_length]; omega), upTo_getD _ _ _ hlt, if_neg (by omega)] at hrc
        have hrf := fun j => World.ownsRow.frozenAt hownI j
        have hst := upTo_succ (fun _ x => topX m x) k xs hlt
        obtain ⟨v, hv⟩ : ∃ v, xs.getD k 0 = v := ⟨_, rfl⟩
        rw [hv] at hrc hst
        have hs := World.ownsRow.stored hownI k (.int .u32 (bits BinOp.xor IntKind.u32 v m))
        have hset : (nums .u32 (upTo (fun _ x => topX m x) k xs)).set k (.int .u32 (bits BinOp.xor IntKind.u32 v m)) = nums .u32 (upTo (fun _ x => topX m x) (k + 1) xs) := by
          rw [← hst]
          simp [nums, List.map_set, topX]
        have Hs := Lib.hid (hset ▸ hs.1)
        have hneI : G1 ≠ g' := fun h3 => by
          obtain ⟨_, cur, hcc⟩ := row_block hownI (g := g') (by simp [Value.ownBlock])
          rw [← h3, kI] at hcc; injection hcc with hcc; injection hcc with _ hcc _; exact absurd hcc (by decide)
        have HE3 := Lib.hid hE3
        clear hs hset hst hv hE3
        go_wp2_with fail
        go_still_tail 13, (by kernel_rfl)
        change wpList _ _ _ _ _ wr.drew
        go_wp2_with fail
        rw [← hm]
        exact ⟨⟨k + 1, by omega, by go_num, blk_set_ne kI hneI _ _, Hs.out, (HE3.out.set (by simpa using hgb) _).drew⟩, by simp [intOf]; omega⟩
      · obtain rfl : k = xs.length := by omega
        rw [upTo_all] at hownI
        have k9b := hE3.keep k9
        have k1b := hE3.keep k1
        obtain ⟨c1, f1⟩ := blk_rules k1b
        obtain ⟨c9, f9⟩ := blk_rules k9b
        obtain ⟨A4, c4, ev4, rd4, cap4, _⟩ := Own.reads (show Own .u32 58 wr w8.heap.size (.slice B' xs.length d') (xs.map (topX m)) by unfold Own; rw [List.length_map]; rw [show xs.map (topX m) = mapAt (fun _ x => topX m x) xs from (mapAt_const _ _).symm]; exact hownI)
        rw [List.length_map] at ev4
        injection ev4 with e41 e42 e43
        subst e43
        rw [← e41] at rd4
        have hEE := hE.trans hE3
        have CC4 := Lib.hid (C4.out wr hEE m hm3 B' d' rd4)
        clear rd4 e41 e42 cap4 hownI
        go_wp2_with fail
        refine CC4.out.mono ?_
        rintro e w9 ⟨rfl, E⟩
        replace k9b := E.keep k9b
        replace hEE := hEE.trans E
        clear E c1 f1 c9 f9 cI fI kI
        obtain ⟨c9, f9⟩ := blk_rules k9b
        have l9 := blk_lt k9b
        go_wp2_with fail
        refine (wakes18_any _).mono ?_
        rintro e w10 ⟨rfl, E⟩
        go_wp2_with fail
        go_ret
        exact ⟨rfl, hEE.trans (Ext.of_alloc E)⟩
set_option maxRecDepth 100000 in
set_option maxHeartbeats 32000000 in
theorem none18_false (W H : Int) (A : Option Addr) (ca : Nat) (xs : List Int) (W' H' : Int) (A' : Option Addr) (cb : Nat) (ys : List Int) (lA : Option Addr) (lc : Nat) (l : List Rect) (by_ : Int) (w : World) (rx : Reads .u32 w A xs) (ry : Reads .u32 w A' ys) (hx : ∀ x ∈ xs, 0 ≤ x ∧ x ≤ 4294967295) (hy : ∀ x ∈ ys, 0 ≤ x ∧ x ≤ 4294967295) (rl : RectsAt w lA l) (hnil : A = none → ca = 0) (hby : 0 ≤ by_ ∧ by_ ≤ 255) (hxl : xs.length ≤ 400) (d1 : ((400 : Int) < xs.length) = False) (d2 : ((400 : Int) < ys.length) = False) (hl : l.length ≤ 16) (his : (scrollOf W H xs W' H' ys l).isSome = false) :
    Calls Try.prog 10 #[.agg #[.int .i64 W, .int .i64 H, .slice A xs.length ca], .agg #[.int .i64 W', .int .i64 H', .slice A' ys.length cb], .slice lA l.length lc, .int .u8 by_] w fun e w' => e = .returned (.bool true) ∧ Ext w w' := by
  have d3 : ((16 : Int) < l.length) = False := by simp; omega
  have hXB := Lib.hid hx
  have RX := Lib.hid rx
  have RY := Lib.hid ry
  have HX := Lib.hid hx
  have HY := Lib.hid hy
  have ho : scrollOf W H xs W' H' ys l = none := by
    cases h : scrollOf W H xs W' H' ys l
    · rfl
    · rw [h] at his; cases his
  have C1 := Lib.hid fun (w1 : World) (E : Ext w w1) => (scroll_any A A' lA ca cb lc W H W' H' xs ys l w1 (rx.ext E) (ry.ext E) hx hy (rl.ext E) (by omega)).mono fun e w' h => GivesC.non h ho
  have C2 := Lib.hid fun (w1 : World) (E : Ext w w1) => (scroll_any A A lA ca ca lc W H W H xs xs l w1 (rx.ext E) (rx.ext E) hx hx (rl.ext E) (by omega)).mono fun e w' h => GivesC.non h (scroll_same ..)
  have C3 := Lib.hid fun (w1 : World) (E : Ext w w1) => (scroll_any A A' none ca cb 0 W H W' H' xs ys [] w1 (rx.ext E) (ry.ext E) hx hy (rects_nil _) (by simp)).mono fun e w' h => GivesC.non h (scroll_nil ..)
  have C4 := Lib.hid fun (w1 : World) (E : Ext w w1) (m : Int) (hm : 0 ≤ m ∧ m ≤ 4294967295 ∧ m % 16777216 = 0) (B : Option Addr) (d : Nat) (hr : Reads .u32 w1 B (xs.map (topX m))) => (scroll_any B A' lA d cb lc W H W' H' (xs.map (topX m)) ys l w1 hr (ry.ext E) (fun x hx2 => by
    obtain ⟨v, hv, rfl⟩ := List.mem_map.1 hx2
    exact (cut_top (hx v hv).1 (hx v hv).2 hm.1 hm.2.1 hm.2.2).2) hy (rl.ext E) (by omega)).mono fun e w' h => by
      rw [scroll_top hm.1 hm.2.1 hm.2.2 W H hx] at h
      exact GivesC.non h ho
  simp only [List.length_map] at C4
  clear ho his rx ry rl hx hy hl
  have e1 : Rect.eqB ⟨0, 0, 0, 0⟩ ⟨0, 0, 0, 0⟩ = true := by decide
  go_enter Try.func10, Try.ntmps10
  go_upto_region 1 with fail
  obtain ⟨w0, hw0⟩ : ∃ zz, zz = (w.alloc (.cells #[.int .i64 W, .int .i64 H, .slice A xs.length ca] 43)).alloc (.cells #[.int .i64 W', .int .i64 H', .slice A' ys.length cb] 43) := ⟨_, rfl⟩
  have k0 : w0.heap[w.heap.size]? = some (.cells #[.int .i64 W, .int .i64 H, .slice A xs.length ca] 43 (0, 0)) := by rw [hw0]; exact blk_old (blk_new w _) _
  have k1 : w0.heap[w.heap.size + 1]? = some (.cells #[.int .i64 W', .int .i64 H', .slice A' ys.length cb] 43 (0, 0)) := by rw [hw0]; exact blk_new1 w _ _
  have hE : Ext w w0 := by rw [hw0]; exact ((Ext.refl w).alloc _).alloc _
  rw [← hw0]
  clear hw0
  obtain ⟨c0, f0⟩ := blk_rules k0
  obtain ⟨c1, f1⟩ := blk_rules k1
  go_wp2_with fail
  clear c0 f0 c1 f1
  refine (C1.out _ hE).mono ?_
  rintro e w1 ⟨rfl, E⟩
  replace k0 := E.keep k0
  replace k1 := E.keep k1
  replace hE := hE.trans E
  clear E
  obtain ⟨c0, f0⟩ := blk_rules k0
  have l0 := blk_lt k0
  obtain ⟨c1, f1⟩ := blk_rules k1
  have l1 := blk_lt k1
  go_wp2_with fail
  clear c0 f0 l0
  clear c1 f1 l1
  obtain ⟨v1, hv1⟩ : ∃ zz, zz = w1.alloc (.cells #[.int .i64 0, .int .i64 0, .int .i64 0, .int .i64 0, .int .i64 0, .int .i64 0] 54) := ⟨_, rfl⟩
  have k9 : v1.heap[w1.heap.size]? = some (.cells #[.int .i64 0, .int .i64 0, .int .i64 0, .int .i64 0, .int .i64 0, .int .i64 0] 54 (0, 0)) := by rw [hv1]; exact blk_new _ _
  have E : Ext w1 v1 := by rw [hv1]; exact (Ext.refl _).alloc _
  rw [← hv1]
  clear hv1
  replace k0 := E.keep k0
  replace k1 := E.keep k1
  replace hE := hE.trans E
  clear E
  obtain ⟨Pk9, hPk9⟩ : ∃ zz, w1.heap.size = zz := ⟨_, rfl⟩
  simp only [hPk9] at k9 ⊢
  clear hPk9
  refine (C2.out _ hE).mono ?_
  rintro e w2 ⟨rfl, E⟩
  replace k0 := E.keep k0
  replace k1 := E.keep k1
  replace k9 := E.keep k9
  replace hE := hE.trans E
  clear E
  obtain ⟨c0, f0⟩ := blk_rules k0
  have l0 := blk_lt k0
  obtain ⟨c1, f1⟩ := blk_rules k1
  have l1 := blk_lt k1
  go_wp2_with fail
  clear c0 f0 l0
  clear c1 f1 l1
  obtain ⟨v2, hv2⟩ : ∃ zz, zz = w2.alloc (.cells #[.int .i64 0, .int .i64 0, .int .i64 0, .int .i64 0, .int .i64 0, .int .i64 0] 54) := ⟨_, rfl⟩
  have k11 : v2.heap[w2.heap.size]? = some (.cells #[.int .i64 0, .int .i64 0, .int .i64 0, .int .i64 0, .int .i64 0, .int .i64 0] 54 (0, 0)) := by rw [hv2]; exact blk_new _ _
  have E : Ext w2 v2 := by rw [hv2]; exact (Ext.refl _).alloc _
  rw [← hv2]
  clear hv2
  replace k0 := E.keep k0
  replace k1 := E.keep k1
  replace k9 := E.keep k9
  replace hE := hE.trans E
  clear E
  obtain ⟨Pk11, hPk11⟩ : ∃ zz, w2.heap.size = zz := ⟨_, rfl⟩
  simp only [hPk11] at k11 ⊢
  clear hPk11
  refine (C3.out _ hE).mono ?_
  rintro e w3 ⟨rfl, E⟩
  replace k0 := E.keep k0
  replace k1 := E.keep k1
  replace k9 := E.keep k9
  replace hE := hE.trans E
  clear E
  obtain ⟨c0, f0⟩ := blk_rules k0
  have l0 := blk_lt k0
  obtain ⟨c1, f1⟩ := blk_rules k1
  have l1 := blk_lt k1
  go_wp2_with fail
  clear c0 f0 l0
  clear c1 f1 l1
  obtain ⟨v3, hv3⟩ : ∃ zz, zz = w3.alloc (.cells #[.int .i64 0, .int .i64 0, .int .i64 0, .int .i64 0, .int .i64 0, .int .i64 0] 54) := ⟨_, rfl⟩
  have k13 : v3.heap[w3.heap.size]? = some (.cells #[.int .i64 0, .int .i64 0, .int .i64 0, .int .i64 0, .int .i64 0, .int .i64 0] 54 (0, 0)) := by rw [hv3]; exact blk_new _ _
  have E : Ext w3 v3 := by rw [hv3]; exact (Ext.refl _).alloc _
  rw [← hv3]
  clear hv3
  replace k0 := E.keep k0
  replace k1 := E.keep k1
  replace k9 := E.keep k9
  replace hE := hE.trans E
  clear E
  obtain ⟨Pk13, hPk13⟩ : ∃ zz, w3.heap.size = zz := ⟨_, rfl⟩
  simp only [hPk13] at k13 ⊢
  clear hPk13
  clear k11 k13 C1 C2 C3
  refine (from_some W H A ca xs _ (RX.out.ext hE) HX.out).mono ?_
  rintro e w4 ⟨b0, p0, rfl, E⟩
  replace k0 := E.keep k0
  replace k1 := E.keep k1
  replace k9 := E.keep k9
  replace hE := hE.trans E
  clear E
  obtain ⟨c0, f0⟩ := blk_rules k0
  obtain ⟨c1, f1⟩ := blk_rules k1
  obtain ⟨c9, f9⟩ := blk_rules k9
  go_wp2_with fail
  refine (from_some W' H' A' cb ys _ (RY.out.ext hE) HY.out).mono ?_
  rintro e w5 ⟨b1, p1, rfl, E⟩
  replace k0 := E.keep k0
  replace k1 := E.keep k1
  replace k9 := E.keep k9
  replace hE := hE.trans E
  clear E
  obtain ⟨c0, f0⟩ := blk_rules k0
  obtain ⟨c1, f1⟩ := blk_rules k1
  obtain ⟨c9, f9⟩ := blk_rules k9
  go_wp2_with fail
  generalize w5 = w8 at *
  clear c1 f1 c9 f9
  go_cut [19] from 107 to 114 (fun p wx => ∃ G B' d', p = .pointer (some ⟨G, 0, none⟩) ∧ wx.heap[G]? = some (.cells #[.int .i64 W, .int .i64 H, .slice B' xs.length d'] 43 (0, 0)) ∧ wx.ownsRow w8.heap.size 58 1 (.slice B' xs.length d') xs.length (nums .u32 xs) ∧ Ext w8 wx ∧ w8.heap.size ≤ G)
  case first =>
    have sx : ∀ w', Ext w8 w' → Ext w8 w' ∧ w'.cell? ⟨w.heap.size, 0, none⟩ = some (.int .i64 W) ∧ w'.cell? ⟨w.heap.size, 1, none⟩ = some (.int .i64 H) ∧ w'.cell? ⟨w.heap.size, 2, none⟩ = some (.slice A xs.length ca) := fun w' h => ⟨h, h.cellOf (c0 0), h.cellOf (c0 1), h.cellOf (c0 2)⟩
    go_region_held3 (fun w' => Ext w8 w' ∧ w'.cell? ⟨w.heap.size, 0, none⟩ = some (.int .i64 W) ∧ w'.cell? ⟨w.heap.size, 1, none⟩ = some (.int .i64 H) ∧ w'.cell? ⟨w.heap.size, 2, none⟩ = some (.slice A xs.length ca)) ((refine sx _ ?_; (repeat' (first | exact And.left (by assumption) | assumption | refine Ext.alloc ?_ _ | refine Ext.set ?_ ?_ _ | refine Ext.drew ?_ | exact Ext.refl w8 | exact Nat.le_refl _ | exact Below.size (by assumption) | (simp; done))))) (first | ((refine step_app w8.heap.size rfl (.const (.slice none 0 0)) (.tmp 112) 41 58 (.int .u32 0) 1 4 rfl Try.underlying41 info_u32 rfl (by decide) (by decide) (.slice none 0 0) 0 (nums .u32 []) rfl (World.ownsRow_nil _ _ _ _) A xs.length ca (nums .u32 xs) rfl hnil (by rw [nums_length]; simp) (Reads.shows (RX.out.ext (hE.trans (And.left (by assumption))))) nums_one (by omega) (Below.size (And.left (by assumption))) (fun B' d' w' hown' hg => ?_); have hEw : Ext w8 w' := ext_none (And.left (by assumption)) hg; (first | (have kZ := (ext_none (Ext.refl _) hg).keep (blk_new_drew _ _); obtain ⟨dz, gz⟩ := blk_rules kZ) | skip))))
    all_goals
      rw [Nat.zero_add] at hown'
      have hown1 : w'.ownsRow w8.heap.size 58 1 (.slice B' xs.length d') xs.length (nums .u32 xs) := hown'
    · go_wp2_with fail
      go_meet
      case rel => exact ⟨_, _, _, rfl, blk_new _ _, World.ownsRow.alloc hown1 _, hEw.alloc _, hEw.size⟩
    · go_wp2_with fail
      go_meet
      case rel => exact ⟨_, _, _, rfl, blk_set (blk_set (blk_set kZ 0 (.int .i64 W)) 1 (.int .i64 H)) 2 (.slice B' xs.length d'), row_set (row_set (row_set hown1 kZ (by decide) 0 (.int .i64 W)) (blk_set kZ 0 (.int .i64 W)) (by decide) 1 (.int .i64 H)) (blk_set (blk_set kZ 0 (.int .i64 W)) 1 (.int .i64 H)) (by decide) 2 (.slice B' xs.length d'), ((hEw.set (Nat.le_refl _) _).set (Nat.le_refl _) _).set (Nat.le_refl _) _, Nat.le_refl _⟩
  case rest =>
    obtain ⟨G1, B', d', rfl, kI, hownI, hEc, hG1⟩ := hcut
    clear c0 f0 k0
    go_wp2_with fail
    obtain ⟨m, hm⟩ : ∃ m, m = by_ * 16777216 := ⟨_, rfl⟩
    have hm3 : 0 ≤ m ∧ m ≤ 4294967295 ∧ m % 16777216 = 0 := by omega
    go_loopw [20] (fun iv wr => ∃ k : Nat, k ≤ xs.length ∧ iv = .int .i64 k ∧ wr.heap[G1]? = some (.cells #[.int .i64 W, .int .i64 H, .slice B' xs.length d'] 43 (0, 0)) ∧ wr.ownsRow w8.heap.size 58 1 (.slice B' xs.length d') xs.length (nums .u32 (upTo (fun _ x => topX m x) k xs)) ∧ Ext w8 wr) (fun iv _ => xs.length - (intOf iv).toNat)
    case atStart => exact ⟨0, Nat.zero_le _, rfl, kI, by rw [upTo_zero]; exact hownI, hEc⟩
    case round =>
      clear kI hownI hEc
      obtain ⟨k, hk, rfl, kI, hownI, hE3⟩ := hrel
      obtain ⟨cI, fI⟩ := blk_rules kI
      by_cases hlt : k < xs.length
      · obtain ⟨g', rfl, hgb⟩ := row_form hownI (by omega)
        have hrc := World.ownsRow.cellAt hownI k (by omega)
        rw [nums_get (by rw [upTo_length]; omega), upTo_getD _ _ _ hlt, if_neg (by omega)] at hrc
        have hrf := fun j => World.ownsRow.frozenAt hownI j
        have hst := upTo_succ (fun _ x => topX m x) k xs hlt
        obtain ⟨v, hv⟩ : ∃ v, xs.getD k 0 = v := ⟨_, rfl⟩
        rw [hv] at hrc hst
        have hs := World.ownsRow.stored hownI k (.int .u32 (bits BinOp.xor IntKind.u32 v m))
        have hset : (nums .u32 (upTo (fun _ x => topX m x) k xs)).set k (.int .u32 (bits BinOp.xor IntKind.u32 v m)) = nums .u32 (upTo (fun _ x => topX m x) (k + 1) xs) := by
          rw [← hst]
          simp [nums, List.map_set, topX]
        have Hs := Lib.hid (hset ▸ hs.1)
        have hneI : G1 ≠ g' := fun h3 => by
          obtain ⟨_, cur, hcc⟩ := row_block hownI (g := g') (by simp [Value.ownBlock])
          rw [← h3, kI] at hcc; injection hcc with hcc; injection hcc with _ hcc _; exact absurd hcc (by decide)
        have HE3 := Lib.hid hE3
        clear hs hset hst hv hE3
        go_wp2_with fail
        go_still_tail 13, (by kernel_rfl)
        change wpList _ _ _ _ _ wr.drew
        go_wp2_with fail
        rw [← hm]
        exact ⟨⟨k + 1, by omega, by go_num, blk_set_ne kI hneI _ _, Hs.out, (HE3.out.set (by simpa using hgb) _).drew⟩, by simp [intOf]; omega⟩
      · obtain rfl : k = xs.length := by omega
        rw [upTo_all] at hownI
        have k9b := hE3.keep k9
        have k1b := hE3.keep k1
        obtain ⟨c1, f1⟩ := blk_rules k1b
        obtain ⟨c9, f9⟩ := blk_rules k9b
        obtain ⟨A4, c4, ev4, rd4, cap4, _⟩ := Own.reads (show Own .u32 58 wr w8.heap.size (.slice B' xs.length d') (xs.map (topX m)) by unfold Own; rw [List.length_map]; rw [show xs.map (topX m) = mapAt (fun _ x => topX m x) xs from (mapAt_const _ _).symm]; exact hownI)
        rw [List.length_map] at ev4
        injection ev4 with e41 e42 e43
        subst e43
        rw [← e41] at rd4
        have hEE := hE.trans hE3
        have CC4 := Lib.hid (C4.out wr hEE m hm3 B' d' rd4)
        clear rd4 e41 e42 cap4 hownI
        go_wp2_with fail
        refine CC4.out.mono ?_
        rintro e w9 ⟨rfl, E⟩
        replace k9b := E.keep k9b
        replace hEE := hEE.trans E
        clear E c1 f1 c9 f9 cI fI kI
        obtain ⟨c9, f9⟩ := blk_rules k9b
        have l9 := blk_lt k9b
        go_wp2_with fail
        refine (wakes18_any _).mono ?_
        rintro e w10 ⟨rfl, E⟩
        go_wp2_with fail
        go_ret
        exact ⟨rfl, hEE.trans (Ext.of_alloc E)⟩
theorem none18_any (W H : Int) (A : Option Addr) (ca : Nat) (xs : List Int) (W' H' : Int) (A' : Option Addr) (cb : Nat) (ys : List Int) (lA : Option Addr) (lc : Nat) (l : List Rect) (by_ : Int) (w : World) (rx : Reads .u32 w A xs) (ry : Reads .u32 w A' ys) (hx : ∀ x ∈ xs, 0 ≤ x ∧ x ≤ 4294967295) (hy : ∀ x ∈ ys, 0 ≤ x ∧ x ≤ 4294967295) (rl : RectsAt w lA l) (hnil : A = none → ca = 0) (hby : 0 ≤ by_ ∧ by_ ≤ 255) :
    Calls Try.prog 10 #[.agg #[.int .i64 W, .int .i64 H, .slice A xs.length ca], .agg #[.int .i64 W', .int .i64 H', .slice A' ys.length cb], .slice lA l.length lc, .int .u8 by_] w fun e w' => e = .returned (.bool true) ∧ Ext w w' := by
  by_cases h1 : xs.length ≤ 400
  · have d1 : ((400 : Int) < xs.length) = False := by simp; omega
    by_cases h2 : ys.length ≤ 400
    · have d2 : ((400 : Int) < ys.length) = False := by simp; omega
      by_cases h3 : l.length ≤ 16
      · exact by
          cases his : (scrollOf W H xs W' H' ys l).isSome
          · exact none18_false W H A ca xs W' H' A' cb ys lA lc l by_ w rx ry hx hy rl hnil hby h1 d1 d2 h3 his
          · exact none18_true W H A ca xs W' H' A' cb ys lA lc l by_ w rx ry hx hy rl hnil hby h1 d1 d2 h3 his
      · have d3 : ((16 : Int) < l.length) = True := by simp; omega
        clear rx ry rl
        go_enter Try.func10, Try.ntmps10
        go_upto_region 1 with fail
        obtain ⟨w0, hw0⟩ : ∃ zz, zz = (w.alloc (.cells #[.int .i64 W, .int .i64 H, .slice A xs.length ca] 43)).alloc (.cells #[.int .i64 W', .int .i64 H', .slice A' ys.length cb] 43) := ⟨_, rfl⟩
        have k0 : w0.heap[w.heap.size]? = some (.cells #[.int .i64 W, .int .i64 H, .slice A xs.length ca] 43 (0, 0)) := by rw [hw0]; exact blk_old (blk_new w _) _
        have k1 : w0.heap[w.heap.size + 1]? = some (.cells #[.int .i64 W', .int .i64 H', .slice A' ys.length cb] 43 (0, 0)) := by rw [hw0]; exact blk_new1 w _ _
        have hE : Ext w w0 := by rw [hw0]; exact ((Ext.refl w).alloc _).alloc _
        rw [← hw0]
        clear hw0
        obtain ⟨c0, f0⟩ := blk_rules k0
        obtain ⟨c1, f1⟩ := blk_rules k1
        go_wp2_with fail
        refine (wakes18_any _).mono ?_
        rintro e w1 ⟨rfl, E⟩
        go_wp2_with fail
        go_ret
        exact ⟨rfl, hE.trans E⟩
    · have d2 : ((400 : Int) < ys.length) = True := by simp; omega
      clear rx ry rl
      go_enter Try.func10, Try.ntmps10
      go_upto_region 1 with fail
      obtain ⟨w0, hw0⟩ : ∃ zz, zz = (w.alloc (.cells #[.int .i64 W, .int .i64 H, .slice A xs.length ca] 43)).alloc (.cells #[.int .i64 W', .int .i64 H', .slice A' ys.length cb] 43) := ⟨_, rfl⟩
      have k0 : w0.heap[w.heap.size]? = some (.cells #[.int .i64 W, .int .i64 H, .slice A xs.length ca] 43 (0, 0)) := by rw [hw0]; exact blk_old (blk_new w _) _
      have k1 : w0.heap[w.heap.size + 1]? = some (.cells #[.int .i64 W', .int .i64 H', .slice A' ys.length cb] 43 (0, 0)) := by rw [hw0]; exact blk_new1 w _ _
      have hE : Ext w w0 := by rw [hw0]; exact ((Ext.refl w).alloc _).alloc _
      rw [← hw0]
      clear hw0
      obtain ⟨c0, f0⟩ := blk_rules k0
      obtain ⟨c1, f1⟩ := blk_rules k1
      go_wp2_with fail
      refine (wakes18_any _).mono ?_
      rintro e w1 ⟨rfl, E⟩
      go_wp2_with fail
      go_ret
      exact ⟨rfl, hE.trans E⟩
  · have d1 : ((400 : Int) < xs.length) = True := by simp; omega
    clear rx ry rl
    go_enter Try.func10, Try.ntmps10
    go_upto_region 1 with fail
    obtain ⟨w0, hw0⟩ : ∃ zz, zz = (w.alloc (.cells #[.int .i64 W, .int .i64 H, .slice A xs.length ca] 43)).alloc (.cells #[.int .i64 W', .int .i64 H', .slice A' ys.length cb] 43) := ⟨_, rfl⟩
    have k0 : w0.heap[w.heap.size]? = some (.cells #[.int .i64 W, .int .i64 H, .slice A xs.length ca] 43 (0, 0)) := by rw [hw0]; exact blk_old (blk_new w _) _
    have k1 : w0.heap[w.heap.size + 1]? = some (.cells #[.int .i64 W', .int .i64 H', .slice A' ys.length cb] 43 (0, 0)) := by rw [hw0]; exact blk_new1 w _ _
    have hE : Ext w w0 := by rw [hw0]; exact ((Ext.refl w).alloc _).alloc _
    rw [← hw0]
    clear hw0
    obtain ⟨c0, f0⟩ := blk_rules k0
    obtain ⟨c1, f1⟩ := blk_rules k1
    go_wp2_with fail
    refine (wakes18_any _).mono ?_
    rintro e w1 ⟨rfl, E⟩
    go_wp2_with fail
    go_ret
    exact ⟨rfl, hE.trans E⟩
theorem slice_nil5 {e : Sh} {w : World} {A : Option Addr} {n c : Nat} (h : (Sh.slice e).Is w [.slice A n c]) : A = none → c = 0 := fun ha => by
  rcases h with h | ⟨a, len, cap, h, _⟩
  · injection h with h; injection h with _ _ h
  · injection h with h; injection h with h _ _; rw [ha] at h; cases h
theorem image_of5 {w : World} {v : Value} (h : shImage.Is w v.cells.toList) : ∃ W H A n c xs, v = .agg #[.int .i64 W, .int .i64 H, .slice A n c] ∧ IntsAt .u32 w A n c xs ∧ (A = none → c = 0) := by
  obtain ⟨W, r, e1, _, h⟩ := is_int h
  obtain ⟨H, r, rfl, _, h⟩ := is_int h
  obtain ⟨s, r, rfl, hs, h⟩ := is_slice h
  obtain rfl : r = [] := h
  obtain ⟨A, n, c, xs, rfl, hi⟩ := ints_at hs
  exact ⟨W, H, A, n, c, xs, agg_of e1 (by simp), hi, slice_nil5 hs⟩
theorem u8_wf {v : Int} (this : (Lit.int .u8 v).wf = true) : 0 ≤ v ∧ v ≤ 255 := by
  simp only [Lit.wf, Bool.and_eq_true, decide_eq_true_eq, show IntKind.u8.min = 0 from rfl, show IntKind.u8.max = 255 from rfl] at this
  exact this
end Go.Proofs.Ytjghghbldifhaaa
