/- The law TilesAll: its walk. -/
import Derived.Test.YtjghghbldifhaaaTileW
import Derived.Test.YtjghghbldifhaaaTileF
import Derived.Test.YtjghghbldifhaaaArgs
set_option linter.unusedVariables false
set_option linter.unusedSimpArgs false
namespace Go.Proofs.Ytjghghbldifhaaa
open Go.RowKit

theorem tileR_sides {w h : Int} (i : Nat) : (tileR w h i).w ≤ 16 ∧ (tileR w h i).h ≤ 16 := by
  unfold tileR
  have h1 : ∀ a b : Rect, 0 ≤ a.w → 0 ≤ a.h → (a.and b).w ≤ a.w ∧ (a.and b).h ≤ a.h := fun a b ha hb => by
    unfold Rect.and
    split
    · exact ⟨ha, hb⟩
    · unfold Rect.meet
      simp only [mx_eq, mn_eq]
      omega
  exact h1 (tileRaw w i) _ (by simp [tileRaw]) (by simp [tileRaw])
theorem tile_full {w h : Int} (hok : sizeOk w h = true) {i : Nat} (hi : i < tileN w h) : (tileR w h i).empty = false := by
  obtain ⟨⟨w1, w2⟩, w3, w4⟩ := sizeOk_iff.1 hok
  obtain ⟨a1, a2, a3⟩ := tilesIn_bd w1 w2
  have hm := Nat.mod_lt i (show 0 < tilesIn w by omega)
  have hd : i / tilesIn w < tilesIn h := by
    unfold tileN at hi
    rw [hok, if_pos rfl] at hi
    exact Nat.div_lt_of_lt_mul hi
  have hdm := Nat.div_add_mod i (tilesIn w)
  obtain ⟨p, hp⟩ : ∃ p, i % tilesIn w = p := ⟨_, rfl⟩
  obtain ⟨q, hq⟩ : ∃ q, i / tilesIn w = q := ⟨_, rfl⟩
  rw [hp] at hm hdm
  rw [hq] at hd hdm
  have hx : (p : Int) * 16 < w := by
    unfold tilesIn at hm
    omega
  have hy : (q : Int) * 16 < h := by
    unfold tilesIn at hd
    omega
  have hat : hitAt w ((p : Int) * 16) ((q : Int) * 16) = i := by
    unfold hitAt
    have e1 : ((p : Int) * 16 / 16).toNat = p := by omega
    have e2 : ((q : Int) * 16 / 16).toNat = q := by omega
    rw [e1, e2, Nat.mul_comm]
    exact hdm
  have hh : (tileR w h i).has ((p : Int) * 16) ((q : Int) * 16) = true := by
    rw [tile_has hok hi, hat, decide_eq_true rfl, Bool.and_true, hitB_iff]
    exact ⟨hok, by omega, by omega⟩
  exact (Rect.has_inside.1 hh).1
theorem gridOf_get {w h : Int} {k : Nat} (hk : k < tileN w h) : (gridOf w h)[k]? = some (tileR w h k) := by
  unfold gridOf
  rw [List.getElem?_map, List.getElem?_range hk]
  rfl
theorem gridOf_len (w h : Int) : (gridOf w h).length = tileN w h := by
  unfold gridOf
  rw [List.length_map, List.length_range]
theorem areaSum_step {L : List Rect} {k : Nat} {r : Rect} (h : L[k]? = some r) : areaSum (L.take (k + 1)) = areaSum (L.take k) + r.area := by
  rw [List.take_add_one, h, areaSum_append]
  show _ + (r.area + 0) = _
  omega
theorem touched_pick (l : List Rect) (w h : Int) (f : Nat → Bool) (hf : (fun i => touchB l (tileR w h i)) = f) {t : Nat} (ht : t < tileN w h) :
    (f t = true → (touchedOf l w h)[((List.range t).filter f).length]? = some t ∧ ((List.range (t + 1)).filter f).length = ((List.range t).filter f).length + 1) ∧
    (f t = false → ((List.range (t + 1)).filter f).length = ((List.range t).filter f).length) := by
  have h1 := pick_step (List.pairwise_lt_range (n := tileN w h)) f (j := t) (t := t) (List.getElem?_range ht)
  rw [List.take_range, List.take_range, Nat.min_eq_left (by omega), Nat.min_eq_left (by omega)] at h1
  unfold touchedOf
  rw [hf]
  exact ⟨h1.1, fun h2 => (h1.2 h2).2⟩
theorem all_block {w : World} {B : Nat} {wd ht : Int} (k : w.heap[B]? = some (.cells #[.int .i64 0, .int .i64 0, .int .i64 wd, .int .i64 ht] 26 (0, 0))) : RectsAt w (some ⟨B, 0, none⟩) (allOf wd ht) := rects_block k rfl
theorem rises_get {w h : Int} (hok : sizeOk w h = true) {l : List Rect} {i j : Nat} {p q : Rect} (hi : (splitOf l w h)[i]? = some p) (hj : (splitOf l w h)[j]? = some q) (hij : i < j) : tileOf w p ≤ tileOf w q := by
  obtain ⟨hi1, rfl⟩ := List.getElem?_eq_some_iff.1 hi
  obtain ⟨hj1, rfl⟩ := List.getElem?_eq_some_iff.1 hj
  exact List.pairwise_iff_getElem.1 (split_rises hok l) i j hi1 hj1 hij

/-- The world is forgotten, but for its newest block. -/
theorem boxAt {P : Program} {c : Code} {Q : Exit → Act → World → Prop} {a : Act} {w0 : World} {o : Obj} (X : World) (hX : X = w0.alloc o) (k : ∀ W1, Ext w0 W1 → W1.heap[w0.heap.size]? = some o → Code.wp P c Q a W1) : Code.wp P c Q a X := by
  subst hX
  exact k _ ((Ext.refl w0).alloc _) (blk_new w0 _)
set_option maxRecDepth 100000 in
set_option maxHeartbeats 16000000 in
theorem all_good (aA : Option Addr) (ca : Nat) (l : List Rect) (wd ht : Int) (w : World) (hl : RectsAt w aA l) (hln : l.length ≤ 16) (hok : sizeOk wd ht = true) :
    Calls Try.prog 7 #[.slice aA l.length ca, .int .i64 wd, .int .i64 ht] w fun e w' => e = .returned (.bool true) ∧ Ext w w' := by
  obtain ⟨⟨w1', w2'⟩, w3', w4'⟩ := sizeOk_iff.1 hok
  have hgl := gridOf_len wd ht
  have hNb := tileN_bd wd ht
  have hsl : (splitOf l wd ht).length ≤ 65536 := by
    have h1 := cutL_length l wd ht (List.range (tileN wd ht))
    rw [List.length_range] at h1
    unfold splitOf
    omega
  have htl := touchedOf_length l wd ht
  have cg := grid_any wd ht
  have cs := fun w (h : RectsAt w aA l) => split_any aA ca l wd ht w h (by omega)
  have ct := fun w (h : RectsAt w aA l) => touched_any aA ca l wd ht w h (by omega)
  -- the grid
  have g1 : ∀ k, k < tileN wd ht → (tileR wd ht k).empty = false ∧ (tileR wd ht k).w ≤ 16 ∧ (tileR wd ht k).h ≤ 16 := fun k hk => ⟨tile_full hok hk, (tileR_sides k).1, (tileR_sides k).2⟩
  have g2 : ∀ k, k < tileN wd ht → areaSum ((gridOf wd ht).take (k + 1)) = areaSum ((gridOf wd ht).take k) + (tileR wd ht k).area := fun k hk => areaSum_step (gridOf_get hk)
  have g3 := fun k => areaSum_take (gridOf wd ht) k
  have g4 := grid_whole hok
  have hwh : wd * ht ≤ 256 * 256 := Int.mul_le_mul w2' w4' (by omega) (by omega)
  have hwh0 : 0 ≤ wd * ht := Int.mul_nonneg (by omega) (by omega)
  rw [g4] at g3
  have g5 : areaSum ((gridOf wd ht).take (tileN wd ht)) = wd * ht := by rw [← hgl, List.take_length, g4]
  have g6 := eqR_true (grid_same hok)
  have g7 : ∀ k, k < tileN wd ht → (gridOf wd ht)[k]? = some (tileR wd ht k) := fun k hk => gridOf_get hk
  -- the pieces
  have s1 : ∀ (j : Nat) (q : Rect), (splitOf l wd ht)[j]? = some q → q.empty = false ∧ tileOf wd q < tileN wd ht ∧ (∀ k, k < tileN wd ht → q.within (tileR wd ht k) = decide (k = tileOf wd q)) ∧ areaSum ((splitOf l wd ht).take (j + 1)) = areaSum ((splitOf l wd ht).take j) + q.area := fun j q hq => by
    obtain ⟨h1, h2, h3⟩ := split_piece hok (List.mem_of_getElem? hq)
    exact ⟨h1, h2, h3, areaSum_step hq⟩
  have s2 : ∀ (i j : Nat) (p q : Rect), (splitOf l wd ht)[i]? = some p → (splitOf l wd ht)[j]? = some q → i < j → tileOf wd p ≤ tileOf wd q := fun i j p q hi hj hij => rises_get hok hi hj hij
  have s3 := fun k => areaSum_take (splitOf l wd ht) k
  have s4 := split_whole hok l
  have s5 := areaL_bd (listOf 2 l (allOf wd ht))
  have s6 := eqR_true (split_same hok l)
  have s7 : areaSum ((splitOf l wd ht).take (splitOf l wd ht).length) = areaL (listOf 2 l (allOf wd ht)) := by rw [List.take_length, s4]
  rw [s4] at s3
  have hil := listOf_length 2 l (allOf wd ht)
  -- those that are touched
  obtain ⟨f, hf⟩ : ∃ f : Nat → Bool, (fun i => touchB l (tileR wd ht i)) = f := ⟨_, rfl⟩
  have t1 := fun t (htn : t < tileN wd ht) => touched_pick l wd ht f hf htn
  have t2 : ∀ k, k < tileN wd ht → (f k = false → (listOf 2 (splitOf l wd ht) [tileR wd ht k]).length = 0) ∧ (f k = true → 0 < (listOf 2 (splitOf l wd ht) [tileR wd ht k]).length) := fun k hk => by
    have h1 := touch_split hok l hk
    rw [← hf]
    refine ⟨fun h2 => h1.2 h2, fun h2 => Nat.pos_of_ne_zero fun h3 => ?_⟩
    have h4 := h1.1 h3
    dsimp only at h2
    rw [h4] at h2
    cases h2
  have t3 : ((List.range (tileN wd ht)).filter f).length = (touchedOf l wd ht).length := by unfold touchedOf; rw [hf]
  have t4 : ∀ k, k < tileN wd ht → (listOf 2 (splitOf l wd ht) [tileR wd ht k]).length ≤ 256 := fun k hk => by
    have h1 := cut_length (splitOf l wd ht) (tileR wd ht k)
    have h2 := tileR_small (w := wd) (h := ht) k
    omega
  obtain ⟨N, hN⟩ : ∃ N, tileN wd ht = N := ⟨_, rfl⟩
  simp only [hN] at *
  obtain ⟨G, hG⟩ : ∃ G, gridOf wd ht = G := ⟨_, rfl⟩
  obtain ⟨S, hS⟩ : ∃ S, splitOf l wd ht = S := ⟨_, rfl⟩
  obtain ⟨T, hT⟩ : ∃ T, touchedOf l wd ht = T := ⟨_, rfl⟩
  obtain ⟨I, hI⟩ : ∃ I, listOf 2 l (allOf wd ht) = I := ⟨_, rfl⟩
  have HI := Lib.hid hI
  simp only [hG, hS, hT, hI] at cg cs ct g2 g3 g4 g5 g6 g7 s1 s2 s3 s4 s5 s6 s7 t1 t2 t3 t4 hil hgl hsl htl
  obtain ⟨ar, har⟩ : ∃ ar, areaL I = ar := ⟨_, rfl⟩
  have HAR := Lib.hid har
  simp only [har] at s3 s4 s5 s7
  have hTl : (natsI T).length = T.length := natsI_length T
  have HL := Lib.hid hl
  have CG := Lib.hid cg
  have CS := Lib.hid cs
  have CT := Lib.hid ct
  have HG1 := Lib.hid g1
  have HG2 := Lib.hid g2
  have HG3 := Lib.hid g3
  have HG5 := Lib.hid g5
  have HG6 := Lib.hid g6
  have HG7 := Lib.hid g7
  have HS1 := Lib.hid s1
  have HS2 := Lib.hid s2
  have HS3 := Lib.hid s3
  have HS6 := Lib.hid s6
  have HS7 := Lib.hid s7
  have HT1 := Lib.hid t1
  have HT2 := Lib.hid t2
  have HT3 := Lib.hid t3
  have HT4 := Lib.hid t4
  have HTL := Lib.hid hTl
  have hE := Ext.refl w
  have d1 : ((16 : Int) < l.length) = False := by simp; omega
  have d2 : (wd < 1) = False := by simp; omega
  have d3 : ((256 : Int) < wd) = False := by simp; omega
  have d4 : (ht < 1) = False := by simp; omega
  have d5 : ((256 : Int) < ht) = False := by simp; omega
  clear hl cg cs ct g1 g2 g3 g4 g5 g6 g7 s1 s2 s3 s4 s6 s7 hI har t1 t2 t3 t4 hN hG hS hT hf hTl
  go_enter Try.func7, Try.ntmps7
  go_wp2_with fail
  refine (CG.out w).mono ?_
  rintro e w1 ⟨B1, e1, rfl, o1, n1, E⟩
  have r1 := Lib.hid (OwnR.at o1)
  replace hE := hE.trans E
  replace HL := Lib.hid (HL.out.ext E)
  clear o1 n1 E CG
  rw [hgl]
  go_wp2_with fail
  refine (CS.out w1 HL.out).mono ?_
  rintro e w2 ⟨B2, e2, rfl, o2, n2, E⟩
  have r2 := Lib.hid (OwnR.at o2)
  replace hE := hE.trans E
  replace HL := Lib.hid (HL.out.ext E)
  replace r1 := Lib.hid (r1.out.ext E)
  clear o2 n2 E CS
  go_wp2_with fail
  refine (CT.out w2 HL.out).mono ?_
  rintro e w3 hg
  obtain ⟨B3, e3, rfl, r3, E⟩ := hg.reads
  replace r3 := Lib.hid r3
  replace hE := hE.trans E
  replace HL := Lib.hid (HL.out.ext E)
  replace r1 := Lib.hid (r1.out.ext E)
  replace r2 := Lib.hid (r2.out.ext E)
  rw [HTL.out]
  clear hg E CT
  go_wp2_with fail
  clear d1 d2 d3 d4 d5
  refine boxAt (w0 := w3) (w3.alloc _) rfl ?_
  intro w4 E kB
  replace hE := hE.trans E
  replace HL := Lib.hid (HL.out.ext E)
  replace r1 := Lib.hid (r1.out.ext E)
  replace r2 := Lib.hid (r2.out.ext E)
  replace r3 := Lib.hid (r3.out.ext E)
  have rA := Lib.hid (all_block kB)
  clear E kB
  go_wp2_with fail
  go_loopw [11, 12] (fun nv iv wr => ∃ k : Nat, k ≤ N ∧ iv = .int .i64 k ∧ nv = .int .i64 (areaSum (G.take k)) ∧ Ext w4 wr) (fun _ iv _ => N - (intOf iv).toNat)
  case atStart => exact ⟨0, Nat.zero_le _, rfl, by simp [areaSum], Ext.refl _⟩
  case round =>
    obtain ⟨k, hk, rfl, rfl, hEk⟩ := hrel
    by_cases hlt : k < N
    · obtain ⟨b, o, rfl, hc⟩ := (r1.out.ext hEk).form (by omega)
      obtain ⟨h0, h1, h2, h3⟩ := hc k _ (HG7.out k hlt)
      obtain ⟨m1, m2, m3⟩ := HG1.out k hlt
      have m4 := HG2.out k hlt
      have m5 := HG3.out k
      have m6 := HG3.out (k + 1)
      rw [m4] at m6
      generalize tileR wd ht k = q at *
      have c1 := fun w => empty_any q.x q.y q.w q.h w
      have c2 := fun w => area_any q.x q.y q.w q.h w
      simp only [show Rect.mk q.x q.y q.w q.h = q from rfl] at c1 c2
      simp only [m1] at c1
      generalize areaSum (G.take k) = s at *
      generalize q.area = a at *
      have M4 := Lib.hid m4
      have n1 : (16 < q.w) = False := by simp; omega
      have n2 : (16 < q.h) = False := by simp; omega
      have n3 : IntKind.i64.wrap (s + a) = s + a := IntWalk.i64_in _ (by omega)
      clear hc m1 m2 m3 m4
      go_wp2_with fail
      refine (c1 _).mono ?_
      rintro e w5 ⟨rfl, E⟩
      replace hEk := hEk.trans E
      have g0 := E.cellOf h0
      have g1 := E.cellOf h1
      have g2 := E.cellOf h2
      have g3 := E.cellOf h3
      clear E h0 h1 h2 h3 c1
      go_wp2_with fail
      refine (c2 _).mono ?_
      rintro e w6 ⟨rfl, E⟩
      replace hEk := hEk.trans E
      clear E g0 g1 g2 g3 c2
      go_wp2_with fail
      exact ⟨⟨k + 1, by omega, by go_num, by rw [M4.out], hEk⟩, by simp [intOf]; omega⟩
    · obtain rfl : N = k := by omega
      replace hE := hE.trans hEk
      replace HL := Lib.hid (HL.out.ext hEk)
      replace rA := Lib.hid (rA.out.ext hEk)
      replace r1 := Lib.hid (r1.out.ext hEk)
      replace r2 := Lib.hid (r2.out.ext hEk)
      replace r3 := Lib.hid (r3.out.ext hEk)
      rw [HG5.out]
      have n1 : IntKind.i64.wrap (wd * ht) = wd * ht := IntWalk.i64_in _ (by omega)
      have n2 : ((wd * ht) != (wd * ht)) = false := by simp
      clear hk hlt hEk
      have cc := same_to (ca := e1) (cb := 1) HG6.out r1 rA (by omega) (by simp [allOf])
      rw [hgl] at cc
      go_wp2_with fail
      refine cc.mono ?_
      rintro e w5 ⟨rfl, E⟩
      replace hE := hE.trans E
      replace HL := Lib.hid (HL.out.ext E)
      replace rA := Lib.hid (rA.out.ext E)
      replace r1 := Lib.hid (r1.out.ext E)
      replace r2 := Lib.hid (r2.out.ext E)
      replace r3 := Lib.hid (r3.out.ext E)
      clear E cc n1 n2
      go_wp2_with fail
      go_loopw [11, 13, 14] (fun nv av iv wr => ∃ (j a : Nat), j ≤ S.length ∧ a ≤ N ∧ iv = .int .i64 j ∧ av = .int .i64 a ∧ nv = .int .i64 (areaSum (S.take j)) ∧ (∀ i q, j ≤ i → S[i]? = some q → a ≤ tileOf wd q) ∧ Ext w5 wr) (fun _ _ iv _ => S.length - (intOf iv).toNat)
      case atStart => exact ⟨0, 0, Nat.zero_le _, Nat.zero_le _, rfl, rfl, by simp [areaSum], fun _ _ _ _ => Nat.zero_le _, Ext.refl _⟩
      case round =>
        obtain ⟨j, a, hj, ha, rfl, rfl, rfl, hle, hEj⟩ := hrel
        have HLE := Lib.hid hle
        clear hle
        by_cases hjl : j < S.length
        · obtain ⟨q, hq⟩ : ∃ q, S[j]? = some q := ⟨S[j], List.getElem?_eq_getElem hjl⟩
          obtain ⟨b2, o2, rfl, hc2⟩ := (r2.out.ext hEj).form (by omega)
          obtain ⟨p0, p1, p2, p3⟩ := hc2 j q hq
          obtain ⟨m1, m2, m3, m4⟩ := HS1.out j q hq
          have m5 := HS3.out j
          have m6 := HS3.out (j + 1)
          rw [m4] at m6
          have m7 := HLE.out j q (Nat.le_refl _) hq
          have hle2 : ∀ i q', j + 1 ≤ i → S[i]? = some q' → tileOf wd q ≤ tileOf wd q' := fun i q' hi hq' => HS2.out j i q q' hq hq' (by omega)
          have HLE2 := Lib.hid hle2
          have M3 := Lib.hid m3
          have M4 := Lib.hid m4
          have c1 := fun w => empty_any q.x q.y q.w q.h w
          have c2 := fun w => area_any q.x q.y q.w q.h w
          simp only [show Rect.mk q.x q.y q.w q.h = q from rfl] at c1 c2
          simp only [m1] at c1
          obtain ⟨t, ht⟩ : ∃ t, tileOf wd q = t := ⟨_, rfl⟩
          rw [ht] at m2 m7 HLE2
          simp only [ht] at M3
          generalize areaSum (S.take j) = s at *
          generalize q.area = ar2 at *
          have n3 : IntKind.i64.wrap (s + ar2) = s + ar2 := IntWalk.i64_in _ (by omega)
          clear hc2 hq m1 m3 m4 hle2 HLE ht
          go_wp2_with fail
          generalize wr = wo at *
          go_loopw [13] (fun av wq => ∃ a' : Nat, a' ≤ t ∧ av = .int .i64 a' ∧ Ext wo wq) (fun av _ => t - (intOf av).toNat)
          case atStart => exact ⟨a, m7, rfl, Ext.refl _⟩
          case round =>
            obtain ⟨a', ha', rfl, hEa⟩ := hrel
            obtain ⟨b1, o1, rfl, hc1⟩ := (r1.out.ext (hEj.trans hEa)).form (by omega)
            obtain ⟨q0, q1, q2, q3⟩ := hc1 a' _ (HG7.out a' (by omega))
            have hin := M3.out a' (by omega)
            generalize tileR wd ht a' = g at *
            have c3 := fun w => in_any q.x q.y q.w q.h g.x g.y g.w g.h w
            simp only [show Rect.mk q.x q.y q.w q.h = q from rfl, show Rect.mk g.x g.y g.w g.h = g from rfl, hin] at c3
            have d1 : decide ((a' : Int) < (N : Int)) = true := by rw [decide_eq_true_eq]; omega
            have z0 := hEa.cellOf p0
            have z1 := hEa.cellOf p1
            have z2 := hEa.cellOf p2
            have z3 := hEa.cellOf p3
            have a'N : (a' : Int) < (N : Int) := by omega
            clear hc1 hin
            have y0 := fun y : After wr => y.ext.cellOf z0
            have y1 := fun y : After wr => y.ext.cellOf z1
            have y2 := fun y : After wr => y.ext.cellOf z2
            have y3 := fun y : After wr => y.ext.cellOf z3
            have x0 := fun y : After wr => y.ext.cellOf q0
            have x1 := fun y : After wr => y.ext.cellOf q1
            have x2 := fun y : After wr => y.ext.cellOf q2
            have x3 := fun y : After wr => y.ext.cellOf q3
            by_cases hat : a' = t
            · rw [decide_eq_true hat] at c3
              have c4 := fun y : After wr => c3 y.now
              subst hat
              go_wp2_with fail
              refine wp_region_after (by kernel_rfl) (by kernel_rfl) ?_
              repeat (go_big_quiet_step (first | with_reducible exact Calls.after (c4 _)))
              refine wpQuiet_nil ?_
              intro _ hw'
              obtain ⟨z, rfl⟩ := hw'
              have hEz : Ext wo z.now := hEa.trans z.ext
              have u0 := hEz.cellOf p0
              have u1 := hEz.cellOf p1
              have u2 := hEz.cellOf p2
              have u3 := hEz.cellOf p3
              clear c3 c4 y0 y1 y2 y3 x0 x1 x2 x3 z0 z1 z2 z3 q0 q1 q2 q3 p0 p1 p2 p3 d1
              generalize z.now = w6 at *
              have d2 : ((a' : Int) == (N : Int)) = false := by rw [beq_eq_false_iff_ne]; omega
              go_wp2_with fail
              refine (c1 _).mono ?_
              rintro e w7 ⟨rfl, E⟩
              replace hEz := hEz.trans E
              replace u0 := E.cellOf u0
              replace u1 := E.cellOf u1
              replace u2 := E.cellOf u2
              replace u3 := E.cellOf u3
              clear E c1 d2
              go_wp2_with fail
              refine (c2 _).mono ?_
              rintro e w8 ⟨rfl, E⟩
              replace hEz := hEz.trans E
              clear E c2 u0 u1 u2 u3
              go_wp2_with fail
              exact ⟨⟨j + 1, a', by omega, by omega, by go_num, rfl, by rw [M4.out], fun i q' hi hq' => HLE2.out i q' hi hq', hEj.trans hEz⟩, by simp [intOf]; omega⟩
            · rw [decide_eq_false hat] at c3
              have c4 := fun y : After wr => c3 y.now
              go_wp2_with fail
              refine wp_region_after (by kernel_rfl) (by kernel_rfl) ?_
              repeat (go_big_quiet_step (first | with_reducible exact Calls.after (c4 _)))
              refine wpQuiet_nil ?_
              intro _ hw'
              obtain ⟨z, rfl⟩ := hw'
              have hEz : Ext wo z.now := hEa.trans z.ext
              clear c3 c4 y0 y1 y2 y3 x0 x1 x2 x3 z0 z1 z2 z3 q0 q1 q2 q3 d1
              go_wp2_with fail
              exact ⟨⟨a' + 1, by omega, by go_num, hEz⟩, by simp [intOf]; omega⟩
        · obtain rfl : S.length = j := by omega
          have s7 := HS7.out
          replace hE := hE.trans hEj
          replace HL := Lib.hid (HL.out.ext hEj)
          replace rA := Lib.hid (rA.out.ext hEj)
          replace r1 := Lib.hid (r1.out.ext hEj)
          replace r2 := Lib.hid (r2.out.ext hEj)
          replace r3 := Lib.hid (r3.out.ext hEj)
          rw [s7]
          clear hjl hEj s7 HLE
          have cc := and_to (ca := ca) (cb := 1) HI.out HL rA (by omega) (by simp [allOf])
          go_wp2_with fail
          refine cc.mono ?_
          rintro e w6 ⟨B6, e6, rfl, o6, n6, E⟩
          have r6 := Lib.hid (OwnR.at o6)
          replace hE := hE.trans E
          replace r1 := Lib.hid (r1.out.ext E)
          replace r2 := Lib.hid (r2.out.ext E)
          replace r3 := Lib.hid (r3.out.ext E)
          clear E cc o6 n6 HL rA
          have ca2 := area_list B6 e6 I w6 r6.out (by omega)
          rw [HAR.out] at ca2
          have d1 : (ar != ar) = false := by simp
          go_wp2_with fail
          refine ca2.mono ?_
          rintro e w7 ⟨rfl, E⟩
          replace hE := hE.trans E
          replace r1 := Lib.hid (r1.out.ext E)
          replace r2 := Lib.hid (r2.out.ext E)
          replace r3 := Lib.hid (r3.out.ext E)
          replace r6 := Lib.hid (r6.out.ext E)
          clear E ca2
          have cc := same_to (ca := e2) (cb := e6) HS6.out r2 r6 (by omega) (by omega)
          go_wp2_with fail
          refine cc.mono ?_
          rintro e w8 ⟨rfl, E⟩
          replace hE := hE.trans E
          replace r1 := Lib.hid (r1.out.ext E)
          replace r2 := Lib.hid (r2.out.ext E)
          replace r3 := Lib.hid (r3.out.ext E)
          clear E cc d1 r6
          go_wp2_with fail
          go_loopw [16, 17] (fun kv iv wr => ∃ i : Nat, i ≤ N ∧ iv = .int .i64 i ∧ kv = .int .i64 ((List.range i).filter f).length ∧ Ext w8 wr) (fun _ iv _ => N - (intOf iv).toNat)
          case atStart => exact ⟨0, Nat.zero_le _, rfl, rfl, Ext.refl _⟩
          case round =>
            obtain ⟨i, hi, rfl, rfl, hEi⟩ := hrel
            by_cases hil2 : i < N
            · obtain ⟨b1, o1, rfl, hc1⟩ := (r1.out.ext hEi).form (by omega)
              obtain ⟨q0, q1, q2, q3⟩ := hc1 i _ (HG7.out i hil2)
              obtain ⟨t1, t2⟩ := HT1.out i hil2
              obtain ⟨t3, t4⟩ := HT2.out i hil2
              have t5 := HT4.out i hil2
              obtain ⟨k, hk⟩ : ∃ k, ((List.range i).filter f).length = k := ⟨_, rfl⟩
              have hkb : k ≤ 256 := by rw [← hk]; have := List.length_filter_le f (List.range i); rw [List.length_range] at this; omega
              rw [hk] at t1 t2
              simp only [hk]
              obtain ⟨M, hM⟩ : ∃ M, listOf 2 S [tileR wd ht i] = M := ⟨_, rfl⟩
              rw [hM] at t3 t4 t5
              have cc := fun (W1 : World) (hE1 : Ext wr W1) (bq : Nat) (kq : W1.heap[bq]? = some (.cells #[.int .i64 (tileR wd ht i).x, .int .i64 (tileR wd ht i).y, .int .i64 (tileR wd ht i).w, .int .i64 (tileR wd ht i).h] 26 (0, 0))) => and_to (aA := B2) (bA := some ⟨bq, 0, none⟩) (ca := e2) (cb := 1) hM (Lib.hid (r2.out.ext (hEi.trans hE1))) (Lib.hid (rects_block (l := [tileR wd ht i]) kq rfl)) (by omega) (by simp)
              generalize tileR wd ht i = g at *
              have T1 := Lib.hid t1
              have T2 := Lib.hid t2
              have T3 := Lib.hid t3
              have T4 := Lib.hid t4
              clear hc1 hk hM t1 t2 t3 t4
              go_wp2_with fail
              refine (cc _ ((Ext.refl wr).alloc _) _ (blk_new wr _)).mono ?_
              rintro e w9 ⟨B9, e9, rfl, o9, n9, E⟩
              replace hEi : Ext w8 w9 := hEi.trans (((Ext.refl wr).alloc _).trans E)
              clear cc E o9 n9 q0 q1 q2 q3
              cases hf : f i
              · have hl0 := T3.out hf
                have hst := T2.out hf
                have HST := Lib.hid hst
                have d1 : decide ((0 : Int) < (M.length : Int)) = false := by rw [decide_eq_false_iff_not]; omega
                have d1' : decide (0 < M.length) = false := by rw [decide_eq_false_iff_not]; omega
                clear hl0 hst hf
                go_wp2_with fail
                exact ⟨⟨i + 1, by omega, by go_num, by rw [HST.out], hEi⟩, by simp [intOf]; omega⟩
              · have hl0 := T4.out hf
                obtain ⟨hst1, hst2⟩ := T1.out hf
                have HST := Lib.hid hst2
                have d1 : decide ((0 : Int) < (M.length : Int)) = true := by rw [decide_eq_true_eq]; omega
                have d1' : decide (0 < M.length) = true := by rw [decide_eq_true_eq]; omega
                obtain ⟨b3, o3, rfl, c3⟩ := reads_nat (r3.out.ext hEi) hst1
                have hkT : k < T.length := (List.getElem?_eq_some_iff.1 hst1).1
                have d2 : decide ((T.length : Int) ≤ (k : Int)) = false := by rw [decide_eq_false_iff_not]; omega
                have d3 : ((i : Int) != (i : Int)) = false := by simp
                have d4 : (k : Int) < (T.length : Int) := by omega
                clear hl0 hst1 hst2 hf
                go_wp2_with fail
                exact ⟨⟨i + 1, by omega, by go_num, by rw [HST.out]; go_num, hEi⟩, by simp [intOf]; omega⟩
            · obtain rfl : N = i := by omega
              replace hE := hE.trans hEi
              have ht3 := HT3.out
              have d1 : ((T.length : Int) == (T.length : Int)) = true := by simp
              rw [ht3]
              clear hil2 hEi ht3
              go_wp2_with fail
              refine (wakes10_any _).mono ?_
              rintro e w9 ⟨rfl, E⟩
              go_wp2_with fail
              go_ret
              exact ⟨rfl, hE.trans E⟩
end Go.Proofs.Ytjghghbldifhaaa
