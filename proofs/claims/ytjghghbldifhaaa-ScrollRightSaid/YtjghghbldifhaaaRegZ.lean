/- The reference's lists: vignetteref01.Or, vignetteref02.Area, Shift, Bounds. -/
import Derived.Test.YtjghghbldifhaaaRegY
import Derived.Test.YtjghghbldifhaaaRegX
set_option linter.unusedVariables false
set_option linter.unusedSimpArgs false
namespace Go.Proofs.Ytjghghbldifhaaa
open Go.RowKit
attribute [local go_sem ↓] eq_rect max_mx min_mn

theorem RectsAt.row {w : World} {g k : Nat} {L : List Rect} {r : Rect} (h : RectsAt w (some ⟨g, 0, none⟩) L) (hr : L[k]? = some r) : w.cell? ⟨g, k * 4, none⟩ = some (.int .i64 r.x) ∧ w.cell? ⟨g, k * 4 + 1, none⟩ = some (.int .i64 r.y) ∧ w.cell? ⟨g, k * 4 + 2, none⟩ = some (.int .i64 r.w) ∧ w.cell? ⟨g, k * 4 + 3, none⟩ = some (.int .i64 r.h) := by
  obtain ⟨b, off, e, h0, h1, h2, h3⟩ := h k r hr
  injection e with e
  injection e with e1 e2
  subst e1
  subst e2
  rw [Nat.zero_add] at h0 h1 h2 h3
  exact ⟨h0, h1, h2, h3⟩
/-- A world of which something holds. -/
structure Keeping (S : World → Prop) where
  now : World
  ok : S now

set_option maxHeartbeats 2000000 in
theorem ror_any (x y a b p q c d : Int) (w : World) :
    Calls Try.prog 92 #[.agg #[.int .i64 x, .int .i64 y, .int .i64 a, .int .i64 b], .agg #[.int .i64 p, .int .i64 q, .int .i64 c, .int .i64 d]] w fun e w' =>
      e = .returned (.agg #[.int .i64 (Rect.or ⟨x, y, a, b⟩ ⟨p, q, c, d⟩).x, .int .i64 (Rect.or ⟨x, y, a, b⟩ ⟨p, q, c, d⟩).y, .int .i64 (Rect.or ⟨x, y, a, b⟩ ⟨p, q, c, d⟩).w, .int .i64 (Rect.or ⟨x, y, a, b⟩ ⟨p, q, c, d⟩).h]) ∧ Ext w w' := by
  obtain ⟨R, hr⟩ : ∃ R : Rect, Rect.or ⟨x, y, a, b⟩ ⟨p, q, c, d⟩ = R := ⟨_, rfl⟩
  rw [hr]
  cases h1 : Rect.empty ⟨x, y, a, b⟩
  all_goals cases h2 : Rect.empty ⟨p, q, c, d⟩
  all_goals simp only [Rect.or, h1, h2, if_true, Bool.false_eq_true, if_false] at hr
  all_goals subst hr
  · have g1 := Rect.empty_iff.1 h1
    have g2 := Rect.empty_iff.1 h2
    dsimp only at g1 g2
    obtain ⟨⟨a1, a2, a3, a4⟩, a5, a6, a7, a8⟩ := g1
    obtain ⟨⟨b1, b2, b3, b4⟩, b5, b6, b7, b8⟩ := g2
    obtain ⟨m1, m2⟩ := mn_bd a1 a2 b1 b2
    obtain ⟨m3, m4⟩ := mn_bd a5 a6 b5 b6
    obtain ⟨m5, m6⟩ := mx_bd (x := x + a) (y := p + c) (l := -1048576) (u := 1048576) (by omega) (by omega) (by omega) (by omega)
    obtain ⟨m7, m8⟩ := mx_bd (x := y + b) (y := q + d) (l := -1048576) (u := 1048576) (by omega) (by omega) (by omega) (by omega)
    go_enter Try.func92, Try.ntmps92
    go_wp2_with fail
    refine (rempty_any _ _ _ _ _).mono ?_
    rintro e w1 ⟨rfl, hb⟩
    obtain ⟨k0, k1, k2, hE⟩ := ext3 hb
    obtain ⟨c0, f0⟩ := blk_rules k0
    obtain ⟨c1, f1⟩ := blk_rules k1
    clear hb
    go_wp2_with fail
    refine (rempty_any _ _ _ _ _).mono ?_
    rintro e w2 ⟨rfl, hb⟩
    replace k0 := hb.keep k0
    replace k1 := hb.keep k1
    replace k2 := hb.keep k2
    replace hE := Ext.trans hE hb
    clear hb c0 c1 f0 f1
    obtain ⟨c0, f0⟩ := blk_rules k0
    obtain ⟨c1, f1⟩ := blk_rules k1
    go_wp2_with fail
    refine (rempty_any _ _ _ _ _).mono ?_
    rintro e w3 ⟨rfl, hb⟩
    replace k0 := hb.keep k0
    replace k1 := hb.keep k1
    replace k2 := hb.keep k2
    have j0 := After.blk k0
    have j1 := After.blk k1
    replace hE := Ext.trans hE hb
    clear hb c0 c1 f0 f1
    go_wp2_with fail
    refine wp_region_after (by kernel_rfl) (by kernel_rfl) ?_
    repeat (go_big_quiet_step (fail))
    refine wpQuiet_nil ?_
    intro _ hw'
    obtain ⟨w4, rfl⟩ := hw'
    clear j0 j1
    obtain ⟨d0, g0⟩ := blk_rules (w4.ext.keep k0)
    obtain ⟨d1, g1⟩ := blk_rules (w4.ext.keep k1)
    obtain ⟨d2, g2⟩ := blk_rules (w4.ext.keep k2)
    have z0 := blk_lt (w4.ext.keep k0)
    have z1 := blk_lt (w4.ext.keep k1)
    have z2 := blk_lt (w4.ext.keep k2)
    replace hE := Ext.trans hE w4.ext
    go_wp2
    refine bodyPost_ret (v := .agg #[.int .i64 (mn x p), .int .i64 (mn y q), .int .i64 (mx (x + a) (p + c) - mn x p), .int .i64 (mx (y + b) (q + d) - mn y q)]) (by simp only [results, Try.results92]; go_simp; done) rfl ⟨rfl, ?_⟩
    repeat' (first | exact hE | refine Ext.set ?_ ?_ _ | refine Ext.alloc ?_ _)
    all_goals (simp; omega)
  all_goals
    go_enter Try.func92, Try.ntmps92
    go_wp2_with fail
    refine (rempty_any _ _ _ _ _).mono ?_
    rintro e w1 ⟨rfl, hb⟩
    obtain ⟨k0, k1, k2, hE⟩ := ext3 hb
    obtain ⟨c0, f0⟩ := blk_rules k0
    obtain ⟨c1, f1⟩ := blk_rules k1
    clear hb
    go_wp2_with fail
    refine (rempty_any _ _ _ _ _).mono ?_
    rintro e w2 ⟨rfl, hb⟩
    replace k0 := hb.keep k0
    replace k1 := hb.keep k1
    replace k2 := hb.keep k2
    replace hE := Ext.trans hE hb
    clear hb c0 c1 f0 f1
    obtain ⟨c0, f0⟩ := blk_rules k0
    obtain ⟨c1, f1⟩ := blk_rules k1
    obtain ⟨c2, f2⟩ := blk_rules k2
    have z2 := blk_lt k2
    go_wp2_with fail
    try
      refine (rempty_any _ _ _ _ _).mono ?_
      rintro e w3 ⟨rfl, hb⟩
      replace k0 := hb.keep k0
      replace k1 := hb.keep k1
      replace k2 := hb.keep k2
      replace hE := Ext.trans hE hb
      clear hb c0 c1 f0 f1 c2 f2 z2
      obtain ⟨c0, f0⟩ := blk_rules k0
      obtain ⟨c1, f1⟩ := blk_rules k1
      obtain ⟨c2, f2⟩ := blk_rules k2
      have z2 := blk_lt k2
      go_wp2_with fail
    first
      | refine bodyPost_ret (v := .agg #[.int .i64 0, .int .i64 0, .int .i64 0, .int .i64 0]) (by simp only [results, Try.results92]; go_simp; done) rfl ⟨rfl, ?_⟩
      | refine bodyPost_ret (v := .agg #[.int .i64 x, .int .i64 y, .int .i64 a, .int .i64 b]) (by simp only [results, Try.results92]; go_simp; done) rfl ⟨rfl, ?_⟩
      | refine bodyPost_ret (v := .agg #[.int .i64 p, .int .i64 q, .int .i64 c, .int .i64 d]) (by simp only [results, Try.results92]; go_simp; done) rfl ⟨rfl, ?_⟩
    repeat' (first | exact hE | refine Ext.set ?_ ?_ _ | refine Ext.alloc ?_ _)
    all_goals (simp; omega)

theorem rof_one (aA : Option Addr) (ca : Nat) (l : List Rect) (w : World) (ha : RectsAt w aA l) (hal : l.length ≤ 1000000) :
    Calls Try.prog 32 #[.slice aA l.length ca, .slice none 0 0, .int .i64 0] w (GivesR (listOf 0 l []) w) :=
  rof_any aA none ca 0 l [] 0 w ha (RectsAt.nil _ _) hal (by simp)

set_option maxHeartbeats 2000000 in
theorem rarea_list (aA : Option Addr) (ca : Nat) (l : List Rect) (w : World) (ha : RectsAt w aA l) (hal : l.length ≤ 1000000) :
    Calls Try.prog 35 #[.slice aA l.length ca] w fun e w' => e = .returned (.int .i64 (areaL l)) ∧ Ext w w' := by
  have hcon := rof_one aA ca l w ha hal
  have hbd := areaL_bd l
  have hln := listOf_length 0 l []
  have hgd : ∀ q ∈ listOf 0 l [], q.empty = false := fun q hq => (listOf_good hq).1
  unfold areaL at hbd ⊢
  obtain ⟨L, hL⟩ : ∃ L, listOf 0 l [] = L := ⟨_, rfl⟩
  rw [hL] at hcon hln hbd hgd ⊢
  have HG := Lib.hid hgd
  clear hL ha hgd
  go_enter Try.func35, Try.ntmps35
  go_wp2_with fail
  refine hcon.mono ?_
  rintro e w1 ⟨B, d, rfl, h1, h2, h3⟩
  clear hcon
  have hl := OwnR.at h1
  clear h1
  go_wp2_with fail
  go_loopw [3, 5] (fun s iv wr => ∃ k : Nat, k ≤ L.length ∧ iv = .int .i64 k ∧ s = .int .i64 (areaSum (L.take k)) ∧ Ext w1 wr) (fun _ iv _ => L.length - (intOf iv).toNat)
  case atStart => exact ⟨0, Nat.zero_le _, rfl, rfl, Ext.refl _⟩
  case round =>
    obtain ⟨k, hk, rfl, rfl, hE⟩ := hrel
    by_cases hlt : k < L.length
    · obtain ⟨b, off, rfl, hc⟩ := (hl.ext hE).form (by omega)
      obtain ⟨h0, h1, h2', h4⟩ := hc k L[k] (List.getElem?_eq_getElem hlt)
      have hb1 := areaSum_take L k
      have hb2 := areaSum_take L (k + 1)
      have hem := HG.out _ (List.getElem_mem hlt)
      have hs : areaSum (L.take (k + 1)) = areaSum (L.take k) + L[k].w * L[k].h := by
        rw [List.take_succ_eq_append_getElem hlt, areaSum_append, ← area_good hem]
        show _ + (L[k].area + 0) = _
        omega
      have hnn := area_nonneg L[k]
      rw [area_good hem] at hnn
      clear hc hem
      rw [hs] at hb2
      generalize L[k] = r at *
      generalize areaSum (L.take k) = s at *
      have q1 : IntKind.i64.wrap (r.w * r.h) = r.w * r.h := IntWalk.i64_in _ (by omega)
      have q2 : IntKind.i64.wrap (s + r.w * r.h) = s + r.w * r.h := IntWalk.i64_in _ (by omega)
      have q3 : wrap64 (r.w * r.h) = r.w * r.h := IntWalk.wrap64_in _ (by omega)
      have q4 : wrap64 (s + r.w * r.h) = s + r.w * r.h := IntWalk.wrap64_in _ (by omega)
      have HS := Lib.hid hs
      clear hs hl
      go_wp2_with fail
      go_quiet (fail)
      go_wp2_with fail
      exact ⟨⟨k + 1, by omega, by go_num, by rw [HS.out], hE.drewN _⟩, by simp [intOf]; omega⟩
    · obtain rfl : k = L.length := by omega
      rw [List.take_length]
      go_wp2_with fail
      go_ret
      exact ⟨rfl, h3.trans hE⟩

set_option maxHeartbeats 2000000 in
theorem rshift_list (A : Option Addr) (c : Nat) (l : List Rect) (dx dy : Int) (w : World) (hl : RectsAt w A l) (hm : l.length ≤ 1000000) :
    Calls Try.prog 36 #[.slice A l.length c, .int .i64 dx, .int .i64 dy] w (GivesR (listOf 0 (l.map fun r => r.shift dx dy) []) w) := by
  go_enter Try.func36, Try.ntmps36
  go_wp2_with fail
  go_loopw [7, 8] (fun v iv wr => ∃ (k : Nat) (B : Option Addr) (d : Nat), k ≤ l.length ∧ iv = .int .i64 k ∧ v = .slice B ((l.take k).map fun r => r.shift dx dy).length d ∧ OwnR wr w.heap.size (.slice B ((l.take k).map fun r => r.shift dx dy).length d) ((l.take k).map fun r => r.shift dx dy) ∧ Ext w wr) (fun _ iv _ => l.length - (intOf iv).toNat)
  case atStart => exact ⟨0, none, 0, Nat.zero_le _, rfl, rfl, World.ownsRow_nil _ _ _ _, Ext.refl _⟩
  case round =>
    obtain ⟨k, B, d, hk, rfl, rfl, hown, hE⟩ := hrel
    obtain ⟨L, hL⟩ : ∃ L, ((l.take k).map fun r => r.shift dx dy) = L := ⟨_, rfl⟩
    have hLn : L.length ≤ k := by rw [← hL, List.length_map, List.length_take]; omega
    rw [hL] at hown
    simp only [hL]
    have HO := Lib.hid hown
    have HL := Lib.hid hL
    clear hown hL
    by_cases hlt : k < l.length
    · obtain ⟨b, off, rfl, hc⟩ := (hl.ext hE).form (by omega)
      obtain ⟨h0, h1, h2, h3⟩ := hc k l[k] (List.getElem?_eq_getElem hlt)
      have ht := List.take_succ_eq_append_getElem hlt
      have hs : ((l.take (k + 1)).map fun r => r.shift dx dy) = L ++ [l[k].shift dx dy] := by rw [ht, List.map_append, HL.out]; rfl
      clear hc ht
      generalize l[k] = r at *
      have hsh := fun w => rshift_any r.x r.y r.w r.h dx dy w
      simp only [show Rect.mk r.x r.y r.w r.h = r from rfl] at hsh
      obtain ⟨q, hq⟩ : ∃ q, r.shift dx dy = q := ⟨_, rfl⟩
      rw [hq] at hs
      simp only [hq] at hsh
      have HS := Lib.hid hs
      clear hs hq
      go_wp2_with fail
      refine (hsh _).mono ?_
      rintro e w1 ⟨rfl, hE1⟩
      clear hsh
      go_wp2_with (first
        | (refine wpList_app w.heap.size rfl (.tmp 15) (.tmp 23) 22 26 (.agg #[.int .i64 0, .int .i64 0, .int .i64 0, .int .i64 0]) 4 32 rfl Try.underlying22 info_rect rfl (by decide) (by decide) (.slice B L.length d) L.length (rcells L) rfl (World.ownsRow.alloc (row_keep HO.out hE1) _) (some ⟨w1.heap.size, 0, none⟩) 1 1 (rcell q) rfl (fun h => by cases h) rfl (fun _ => ⟨_, rfl, World.news_of_block (blk_new w1 _)⟩) (by simp [rcell, Value.oneCell']) (by omega) (Nat.le_trans (Nat.le_trans hE.size hE1.size) (by simp)) (fun v' w5 hr5 hg5 => ?_); obtain ⟨B5, d5, rfl⟩ := row_slice hr5))
      have hE5 := row_ext (World.ownsRow.alloc (row_keep HO.out hE1) _) ((hE.trans hE1).alloc _) hg5
      have hr6 : OwnR w5 w.heap.size (.slice B5 (L ++ [q]).length d5) (L ++ [q]) := by
        unfold OwnR
        rw [List.length_append, rcells_snoc]
        exact hr5
      exact ⟨⟨k + 1, B5, d5, by omega, by go_num, by rw [HS.out, List.length_append]; rfl, by rw [HS.out]; exact hr6, hE5⟩, by simp [intOf]; omega⟩
    · obtain rfl : k = l.length := by omega
      have HR : Hid (L = l.map fun r => r.shift dx dy) := by
        have := HL.out
        rw [List.take_length] at this
        exact Lib.hid this.symm
      have hcon := rof_one B d L wr (OwnR.at HO.out) (by omega)
      clear hlt HL hk
      go_wp2_with fail
      refine hcon.mono ?_
      rintro e w1 ⟨C, f, rfl, h1, h2, h3⟩
      go_wp2_with fail
      go_ret
      rw [← HR.out]
      exact ⟨C, f, rfl, World.ownsRow.base_le h1 hE.size, h2, hE.trans h3⟩

set_option maxHeartbeats 4000000 in
theorem rbounds_list (aA : Option Addr) (ca : Nat) (l : List Rect) (w : World) (ha : RectsAt w aA l) (hal : l.length ≤ 1000000) :
    Calls Try.prog 37 #[.slice aA l.length ca] w fun e w' => e = .returned (.agg (rcell (boundsL l)).toArray) ∧ Ext w w' := by
  have hcon := fun w' (h : Ext w w') => rof_one aA ca l w' (ha.ext h) hal
  have hln := listOf_length 0 l []
  unfold boundsL
  obtain ⟨L, hL⟩ : ∃ L, listOf 0 l [] = L := ⟨_, rfl⟩
  simp only [hL] at hcon hln ⊢
  clear hL ha
  go_enter Try.func37, Try.ntmps37
  go_wp2_with fail
  refine (hcon _ (((Ext.refl w).alloc _).alloc _)).mono ?_
  rintro e w1 ⟨B, d, rfl, h1, n1, h3⟩
  clear hcon
  obtain ⟨k0, k1, hE⟩ := ext2 h3
  have hl := OwnR.at h1
  have hsz : w.heap.size + 2 ≤ w1.heap.size := by have := h3.size; simp at this; omega
  have hform : ∀ (p : 0 < L.length), ∃ g, B = some ⟨g, 0, none⟩ ∧ w.heap.size + 2 ≤ g := fun p => by
    obtain ⟨g, cap, e, hg⟩ := World.ownsRow.form h1 p
    injection e with e
    refine ⟨g, e, ?_⟩
    have := hg
    simp at this
    omega
  clear h1 h3
  go_wp2_with fail
  go_loopw [5] (fun iv wr => ∃ k : Nat, k ≤ L.length ∧ iv = .int .i64 k ∧ wr.heap[w.heap.size]? = some (.cells #[.int .i64 0, .int .i64 0, .int .i64 0, .int .i64 0] 26 (0, 0)) ∧ wr.heap[w.heap.size + 1]? = some (.cells #[.int .i64 (boundsOf (L.take k)).x, .int .i64 (boundsOf (L.take k)).y, .int .i64 (boundsOf (L.take k)).w, .int .i64 (boundsOf (L.take k)).h] 26 (0, 0)) ∧ RectsAt wr B L ∧ Ext w wr ∧ w.heap.size + 2 ≤ wr.heap.size) (fun iv _ => L.length - (intOf iv).toNat)
  case atStart => exact ⟨0, Nat.zero_le _, rfl, k0, k1, hl, hE, hsz⟩
  case round =>
    obtain ⟨k, hk, rfl, m0, m1, hlw, hEw, hsw⟩ := hrel
    clear k0 k1 hl hE hsz
    by_cases hlt : k < L.length
    · obtain ⟨g, rfl, hg⟩ := hform (by omega)
      obtain ⟨b', o', e1, hc⟩ := hlw.form (by omega)
      injection e1 with e1
      injection e1 with e11 e12
      subst e11
      subst e12
      obtain ⟨c0, c1, c2, c3⟩ := hc k L[k] (List.getElem?_eq_getElem hlt)
      simp only [Nat.zero_add] at c0 c1 c2 c3
      have hrk : L[k]? = some L[k] := List.getElem?_eq_getElem hlt
      have hs : boundsOf (L.take (k + 1)) = Rect.or (boundsOf (L.take k)) L[k] := by
        rw [List.take_succ_eq_append_getElem hlt, boundsOf_snoc]
      clear hc
      generalize L[k] = r at *
      have HRK := Lib.hid hrk
      clear hrk
      obtain ⟨b, hb⟩ : ∃ b, boundsOf (L.take k) = b := ⟨_, rfl⟩
      rw [hb] at hs m1
      clear hb
      have hcon := fun w => ror_any b.x b.y b.w b.h r.x r.y r.w r.h w
      simp only [show Rect.mk r.x r.y r.w r.h = r from rfl, show Rect.mk b.x b.y b.w b.h = b from rfl, ← hs] at hcon
      obtain ⟨q, hq⟩ : ∃ q, boundsOf (L.take (k + 1)) = q := ⟨_, rfl⟩
      simp only [hq] at hcon
      have HQ := Lib.hid hq
      clear hq
      have HF := Lib.hid hform
      have HW := Lib.hid hlw
      obtain ⟨y1, y2⟩ := blk_rules m1
      have z3 := y1 0
      have z4 := y1 1
      have z5 := y1 2
      have z6 := y1 3
      simp only [List.getElem?_toArray, List.getElem?_cons_succ, List.getElem?_cons_zero] at z3 z4 z5 z6
      clear hs hlw hform
      go_wp2_with fail
      have j0 : ∀ y : Keeping (fun W => W.cell? ⟨g, k * 4, none⟩ = some (.int .i64 r.x) ∧ W.cell? ⟨g, k * 4 + 1, none⟩ = some (.int .i64 r.y) ∧ W.cell? ⟨g, k * 4 + 2, none⟩ = some (.int .i64 r.w) ∧ W.cell? ⟨g, k * 4 + 3, none⟩ = some (.int .i64 r.h)), y.now.cell? ⟨g, k * 4, none⟩ = some (.int .i64 r.x) := fun y => y.ok.1
      have j1 : ∀ y : Keeping (fun W => W.cell? ⟨g, k * 4, none⟩ = some (.int .i64 r.x) ∧ W.cell? ⟨g, k * 4 + 1, none⟩ = some (.int .i64 r.y) ∧ W.cell? ⟨g, k * 4 + 2, none⟩ = some (.int .i64 r.w) ∧ W.cell? ⟨g, k * 4 + 3, none⟩ = some (.int .i64 r.h)), y.now.cell? ⟨g, k * 4 + 1, none⟩ = some (.int .i64 r.y) := fun y => y.ok.2.1
      have j2 : ∀ y : Keeping (fun W => W.cell? ⟨g, k * 4, none⟩ = some (.int .i64 r.x) ∧ W.cell? ⟨g, k * 4 + 1, none⟩ = some (.int .i64 r.y) ∧ W.cell? ⟨g, k * 4 + 2, none⟩ = some (.int .i64 r.w) ∧ W.cell? ⟨g, k * 4 + 3, none⟩ = some (.int .i64 r.h)), y.now.cell? ⟨g, k * 4 + 2, none⟩ = some (.int .i64 r.w) := fun y => y.ok.2.2.1
      have j3 : ∀ y : Keeping (fun W => W.cell? ⟨g, k * 4, none⟩ = some (.int .i64 r.x) ∧ W.cell? ⟨g, k * 4 + 1, none⟩ = some (.int .i64 r.y) ∧ W.cell? ⟨g, k * 4 + 2, none⟩ = some (.int .i64 r.w) ∧ W.cell? ⟨g, k * 4 + 3, none⟩ = some (.int .i64 r.h)), y.now.cell? ⟨g, k * 4 + 3, none⟩ = some (.int .i64 r.h) := fun y => y.ok.2.2.2
      have hst : (wr.drew.cell? ⟨g, k * 4, none⟩ = some (.int .i64 r.x) ∧ wr.drew.cell? ⟨g, k * 4 + 1, none⟩ = some (.int .i64 r.y) ∧ wr.drew.cell? ⟨g, k * 4 + 2, none⟩ = some (.int .i64 r.w) ∧ wr.drew.cell? ⟨g, k * 4 + 3, none⟩ = some (.int .i64 r.h)) := ⟨c0, c1, c2, c3⟩
      have hne : Nonempty (Keeping (fun W => W.cell? ⟨g, k * 4, none⟩ = some (.int .i64 r.x) ∧ W.cell? ⟨g, k * 4 + 1, none⟩ = some (.int .i64 r.y) ∧ W.cell? ⟨g, k * 4 + 2, none⟩ = some (.int .i64 r.w) ∧ W.cell? ⟨g, k * 4 + 3, none⟩ = some (.int .i64 r.h))) := ⟨⟨wr.drew, hst⟩⟩
      have HST := Lib.hid hst
      clear hst c0 c1 c2 c3
      refine wp_region_sched (fun w' => ∃ x : Keeping (fun W => W.cell? ⟨g, k * 4, none⟩ = some (.int .i64 r.x) ∧ W.cell? ⟨g, k * 4 + 1, none⟩ = some (.int .i64 r.y) ∧ W.cell? ⟨g, k * 4 + 2, none⟩ = some (.int .i64 r.w) ∧ W.cell? ⟨g, k * 4 + 3, none⟩ = some (.int .i64 r.h)), w' = x.now) (by kernel_rfl) ?_
      refine held_take [1, 2, 3, 4] _ _ 3 rfl (by kernel_rfl) rfl (by kernel_rfl) ⟨⟨wr.drew, HST.out⟩, rfl⟩ ?_
      simp only [List.filterMap_cons, List.filterMap_nil, List.getElem?_toArray, List.getElem?_cons_succ, List.getElem?_cons_zero]
      repeat (quiet_step (fail))
      refine wpQuiet_nil ?_
      clear j0 j1 j2 j3
      refine held_step (k := 0) rfl (by kernel_rfl) ?_
      go_wp2_with fail
      refine ⟨⟨⟨wr.drew, HST.out⟩, rfl⟩, ?_⟩
      refine held_step (k := 5) rfl (by kernel_rfl) ?_
      go_wp2_with fail
      refine (hcon _).mono ?_
      rintro e w2 ⟨rfl, hb2⟩
      have hE2 : Ext wr w2 := (Ext.refl wr).drew.trans hb2
      have n0 := hE2.keep m0
      have n1' := hE2.keep m1
      have hl2 := HW.out.ext hE2
      have hE3 := hEw.trans hE2
      have hs2 : w.heap.size + 2 ≤ w2.heap.size := Nat.le_trans hsw hE2.size
      have hst2 : (w2.cell? ⟨g, k * 4, none⟩ = some (.int .i64 r.x) ∧ w2.cell? ⟨g, k * 4 + 1, none⟩ = some (.int .i64 r.y) ∧ w2.cell? ⟨g, k * 4 + 2, none⟩ = some (.int .i64 r.w) ∧ w2.cell? ⟨g, k * 4 + 3, none⟩ = some (.int .i64 r.h)) := ⟨hb2.cellOf HST.out.1, hb2.cellOf HST.out.2.1, hb2.cellOf HST.out.2.2.1, hb2.cellOf HST.out.2.2.2⟩
      have HST2 := Lib.hid hst2
      clear hst2 hcon hb2 z3 z4 z5 z6 y1 y2 m0 m1 HW hEw hE2 hsw
      obtain ⟨y1, y2⟩ := blk_rules n1'
      have z1 : w.heap.size + 1 < w2.heap.size := by omega
      have hl3 := (((hl2.set (i := 0) (v := .int .i64 q.x) (show g ≠ w.heap.size + 1 by omega)).set (i := 1) (v := .int .i64 q.y) (show g ≠ w.heap.size + 1 by omega)).set (i := 2) (v := .int .i64 q.w) (show g ≠ w.heap.size + 1 by omega)).set (i := 3) (v := .int .i64 q.h) (show g ≠ w.heap.size + 1 by omega)
      go_wp2_with fail
      refine ⟨⟨⟨w2, HST2.out⟩, rfl⟩, ?_⟩
      refine held_step (k := 6) rfl (by kernel_rfl) ?_
      go_wp2_with fail
      refine ⟨⟨⟨_, hl3.row HRK.out⟩, rfl⟩, ?_⟩
      refine held_done (by kernel_rfl) ?_
      go_wp2_with fail
      refine ⟨⟨k + 1, by omega, by go_num, ?_, ?_, hl3, ?_, ?_⟩, by simp [intOf]; omega⟩
      · exact blk_set_ne (blk_set_ne (blk_set_ne (blk_set_ne n0 (by omega) _ _) (by omega) _ _) (by omega) _ _) (by omega) _ _
      · rw [HQ.out]
        exact (blk_set (blk_set (blk_set (blk_set n1' 0 _) 1 _) 2 _) 3 _).trans rfl
      · repeat' (first | exact hE3 | refine Ext.set ?_ ?_ _)
        all_goals (simp; try omega)
      · simpa using hs2
    · obtain rfl : k = L.length := by omega
      rw [List.take_length] at m1
      obtain ⟨b, hb⟩ : ∃ b, boundsOf L = b := ⟨_, rfl⟩
      rw [hb] at m1
      have HB := Lib.hid hb
      obtain ⟨y1, y2⟩ := blk_rules m1
      obtain ⟨y3, y4⟩ := blk_rules m0
      clear hb hlw hform
      go_wp2_with fail
      have f0 := blk_set (blk_set (blk_set (blk_set m0 0 (.int .i64 b.x)) 1 (.int .i64 b.y)) 2 (.int .i64 b.w)) 3 (.int .i64 b.h)
      have x0 := (blk_cell f0 0).trans (show _ = some (Value.int .i64 b.x) from rfl)
      have x1 := (blk_cell f0 1).trans (show _ = some (Value.int .i64 b.y) from rfl)
      have x2 := (blk_cell f0 2).trans (show _ = some (Value.int .i64 b.w) from rfl)
      have x3 := (blk_cell f0 3).trans (show _ = some (Value.int .i64 b.h) from rfl)
      refine bodyPost_ret (v := .agg #[.int .i64 b.x, .int .i64 b.y, .int .i64 b.w, .int .i64 b.h]) (by simp only [results, Try.results37]; go_simp; done) rfl ⟨by rw [HB.out]; rfl, ?_⟩
      clear x0 x1 x2 x3 f0
      repeat' (first | exact hEw | refine Ext.set ?_ ?_ _)
      all_goals (simp; try omega)
theorem rof_to {aA bA : Option Addr} {ca cb : Nat} {a b Z : List Rect} {how : Int} {w : World} (hZ : listOf how a b = Z) (ha : Hid (RectsAt w aA a)) (hb : Hid (RectsAt w bA b)) (hal : a.length ≤ 1000000) (hbl : b.length ≤ 1000000) :
    Calls Try.prog 32 #[.slice aA a.length ca, .slice bA b.length cb, .int .i64 how] w (GivesR Z w) := hZ ▸ rof_any aA bA ca cb a b how w ha.out hb.out hal hbl
theorem rrects_to {aA bA : Option Addr} {ca cb : Nat} {a b : List Rect} {w : World} {r : Bool} (hZ : eqR a b = r) (ha : Hid (RectsAt w aA a)) (hb : Hid (RectsAt w bA b)) (hal : a.length ≤ 2199023255552) (hbl : b.length ≤ 2199023255552) :
    Calls Try.prog 33 #[.slice aA a.length ca, .slice bA b.length cb] w fun e w' => e = .returned (.bool r) ∧ Ext w w' := hZ ▸ rrects_any aA bA ca cb a b w ha.out hb.out (by omega) (by omega)
theorem rhas_to {aA : Option Addr} {ca : Nat} {a : List Rect} {x y : Int} {r : Bool} {w : World} (hZ : hasL a x y = r) (ha : Hid (RectsAt w aA a)) (hal : a.length ≤ 2199023255552) :
    Calls Try.prog 34 #[.slice aA a.length ca, .int .i64 x, .int .i64 y] w fun e w' => e = .returned (.bool r) ∧ Ext w w' := hZ ▸ rhasl_any aA ca a x y w ha.out (by omega)
theorem rarea_to {aA : Option Addr} {ca : Nat} {a : List Rect} {n : Int} {w : World} (hZ : areaL a = n) (ha : Hid (RectsAt w aA a)) (hal : a.length ≤ 1000000) :
    Calls Try.prog 35 #[.slice aA a.length ca] w fun e w' => e = .returned (.int .i64 n) ∧ Ext w w' := hZ ▸ rarea_list aA ca a w ha.out hal
theorem rshift_to {aA : Option Addr} {ca : Nat} {a Z : List Rect} {dx dy : Int} {w : World} (hZ : listOf 0 (shiftL a dx dy) [] = Z) (ha : Hid (RectsAt w aA a)) (hal : a.length ≤ 1000000) :
    Calls Try.prog 36 #[.slice aA a.length ca, .int .i64 dx, .int .i64 dy] w (GivesR Z w) := hZ ▸ rshift_list aA ca a dx dy w ha.out hal
theorem rbounds_to {aA : Option Addr} {ca : Nat} {a : List Rect} {q : Rect} {w : World} (hZ : boundsL a = q) (ha : Hid (RectsAt w aA a)) (hal : a.length ≤ 1000000) :
    Calls Try.prog 37 #[.slice aA a.length ca] w fun e w' => e = .returned (.agg #[.int .i64 q.x, .int .i64 q.y, .int .i64 q.w, .int .i64 q.h]) ∧ Ext w w' := hZ ▸ rbounds_list aA ca a w ha.out hal
end Go.Proofs.Ytjghghbldifhaaa
