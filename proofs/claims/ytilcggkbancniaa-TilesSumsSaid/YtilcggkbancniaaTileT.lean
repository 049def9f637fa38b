/- The law TilesTells. Printed by gen_tells.py. -/
import Derived.Test.YtilcggkbancniaaTileS
import Derived.Test.YtilcggkbancniaaArgs
set_option linter.unusedVariables false
set_option linter.unusedSimpArgs false
namespace Go.Proofs.Ytilcggkbancniaa
open Go.RowKit

theorem slice_cap {e : Sh} {w : World} {A : Option Addr} {n c : Nat} (h : (Sh.slice e).Is w [.slice A n c]) : n ≤ c := by
  rcases h with h | ⟨a, len, cap, h, h1, _⟩
  · injection h with h; injection h with _ h1 h2; omega
  · injection h with h; injection h with h2 h3 h4; omega
theorem image_of3 {w : World} {v : Value} (h : shImage.Is w v.cells.toList) : ∃ W H A n c xs, v = .agg #[.int .i64 W, .int .i64 H, .slice A n c] ∧ IntsAt .u32 w A n c xs ∧ n ≤ c := by
  obtain ⟨W, r, e1, _, h⟩ := is_int h
  obtain ⟨H, r, rfl, _, h⟩ := is_int h
  obtain ⟨s, r, rfl, hs, h⟩ := is_slice h
  obtain rfl : r = [] := h
  obtain ⟨A, n, c, xs, rfl, hi⟩ := ints_at hs
  exact ⟨W, H, A, n, c, xs, agg_of e1 (by simp), hi, slice_cap hs⟩
theorem GivesN.mk' {T : List Int} {w w' : World} {e : Ending} (h : GivesN T w e w') : ∃ B d, e = .returned (.slice B T.length d) ∧ Reads .i64 w' B T ∧ Ext w w' := h.reads
theorem gridOf_length (w h : Int) : (gridOf w h).length ≤ 256 := by
  unfold gridOf
  rw [List.length_map, List.length_range]
  exact tileN_bd w h
theorem splitOf_length (l : List Rect) (w h : Int) : (splitOf l w h).length ≤ 65536 := by
  have h1 := cutL_length l w h (List.range (tileN w h))
  have h2 := tileN_bd w h
  rw [List.length_range] at h1
  unfold splitOf
  omega
theorem sumsL_length (W H : Int) (px : List Int) : (sumsL W H px).length ≤ 256 := by
  unfold sumsL
  split
  · unfold sumsOf
    rw [List.length_map, List.length_range]
    exact tileN_bd W H
  · simp
/-- The world is forgotten, but for its newest block. -/
theorem keepBox {P : Program} {c : Code} {Q : Exit → Act → World → Prop} {a : Act} {w0 : World} {o : Obj} (X : World) (hX : X = w0.alloc o) (k : ∀ W1, Ext w0 W1 → W1.heap[w0.heap.size]? = some o → Code.wp P c Q a W1) : Code.wp P c Q a X := by
  subst hX
  exact k _ ((Ext.refl w0).alloc _) (blk_new w0 _)
set_option maxHeartbeats 8000000 in
theorem tells_in (aA : Option Addr) (ca : Nat) (l : List Rect) (wd ht : Int) (W H : Int) (pA : Option Addr) (pc : Nat) (px : List Int) (w : World) (hl : RectsAt w aA l) (hp : Reads .u32 w pA px) (hx : ∀ x ∈ px, 0 ≤ x ∧ x ≤ 4294967295) (hcap : px.length ≤ pc) (hln : l.length ≤ 16) (hpn : px.length ≤ 2000) :
    Calls Try.prog 11 #[.slice aA l.length ca, .int .i64 wd, .int .i64 ht, .agg #[.int .i64 W, .int .i64 H, .slice pA px.length pc]] w fun e w' => e = .returned (.bool true) ∧ Ext w w' := by
  have hgl := gridOf_length wd ht
  have htl := touchedOf_length l wd ht
  have hsl := splitOf_length l wd ht
  have hul := sumsL_length W H px
  have cg := grid_any wd ht
  have cg2 := rgrid_any wd ht
  have ct := fun w (h : RectsAt w aA l) => touched_any aA ca l wd ht w h (by omega)
  have ct2 := fun w (h : RectsAt w aA l) => rtouched_any aA ca l wd ht w h (by omega)
  have cs := fun w (h : RectsAt w aA l) => split_any aA ca l wd ht w h (by omega)
  have cs2 := fun w (h : RectsAt w aA l) => rsplit_any aA ca l wd ht w h (by omega)
  have cu := fun w (h : Reads .u32 w pA px) => sums_any W H pA pc px w h hcap
  have cu2 := fun w (h : Reads .u32 w pA px) => rsums_any W H pA pc px w h hx hcap
  rw [← show (natsI (touchedOf l wd ht)).length = (touchedOf l wd ht).length from List.length_map _] at htl
  obtain ⟨G, hG⟩ : ∃ G, gridOf wd ht = G := ⟨_, rfl⟩
  obtain ⟨T, hT⟩ : ∃ T, natsI (touchedOf l wd ht) = T := ⟨_, rfl⟩
  obtain ⟨S, hS⟩ : ∃ S, splitOf l wd ht = S := ⟨_, rfl⟩
  obtain ⟨U, hU⟩ : ∃ U, sumsL W H px = U := ⟨_, rfl⟩
  rw [hG] at hgl cg cg2
  rw [hT] at htl
  simp only [hT] at ct ct2
  rw [hS] at hsl
  simp only [hS] at cs cs2
  rw [hU] at hul
  simp only [hU] at cu cu2
  have HL := Lib.hid hl
  have HP := Lib.hid hp
  have CG := Lib.hid cg
  have CG2 := Lib.hid cg2
  have CT := Lib.hid ct
  have CT2 := Lib.hid ct2
  have CS := Lib.hid cs
  have CS2 := Lib.hid cs2
  have CU := Lib.hid cu
  have CU2 := Lib.hid cu2
  have d1 : ((16 : Int) < l.length) = False := by simp; omega
  have d2 : ((2000 : Int) < px.length) = False := by simp; omega
  clear hG hT hS hU hl hp hx cg cg2 ct ct2 cs cs2 cu cu2
  go_enter Try.func11, Try.ntmps11
  go_wp2_with fail
  clear d1 d2
  refine keepBox (w0 := w) (w.alloc _) rfl ?_
  intro W1 hE0 kB
  have j0 := After.blk kB
  refine wp_region_sched (fun w' => ∃ x : After W1, w' = x.now) (by kernel_rfl) ?_
  refine held_take [0, 1, 3, 4] _ _ 36 rfl (by kernel_rfl) rfl (by kernel_rfl) ⟨⟨W1.drew, ((Ext.refl W1).drew)⟩, rfl⟩ ?_
  simp only [List.filterMap_cons, List.filterMap_nil, List.getElem?_toArray, List.getElem?_cons_succ, List.getElem?_cons_zero]
  repeat (quiet_step (fail))
  refine wpQuiet_nil ?_
  refine held_step (k := 2) rfl (by kernel_rfl) ?_
  go_wp2_with fail
  refine (CG.out W1.drew).mono ?_
  rintro e w2 ⟨B1, d1, rfl, o1, n1, E⟩
  have r1 := Lib.hid (OwnR.at o1)
  clear o1 n1
  have hE2 : Ext W1 w2 := (((Ext.refl W1).drew)).trans E
  clear E
  go_wp2_with fail
  refine ⟨⟨⟨w2, hE2⟩, rfl⟩, ?_⟩
  refine held_step (k := 5) rfl (by kernel_rfl) ?_
  go_wp2_with fail
  refine (CG2.out w2).mono ?_
  rintro e w3 ⟨B2, d2, rfl, o2, n2, E⟩
  have r2 := Lib.hid (OwnR.at o2)
  clear o2 n2
  have E12 := Lib.hid E
  have hE3 : Ext W1 w3 := (hE2).trans E
  clear E
  go_wp2_with fail
  refine ⟨⟨⟨w3, hE3⟩, rfl⟩, ?_⟩
  refine held_step (k := 6) rfl (by kernel_rfl) ?_
  go_wp2_with fail
  refine (rrects_any B1 B2 d1 d2 G G _ (r1.out.ext E12.out) r2.out (by omega) (by omega)).mono ?_
  rintro e w4 ⟨rfl, E⟩
  rw [show eqR G G = true from eqR_true rfl]
  clear r1 r2 E12
  have hE4 : Ext W1 w4 := (hE3).trans E
  clear E
  go_wp2_with fail
  refine ⟨⟨⟨w4, hE4⟩, rfl⟩, ?_⟩
  refine held_take [7, 8, 9, 10, 12, 13, 14] _ _ 26 rfl (by kernel_rfl) rfl (by kernel_rfl) ⟨⟨w4, hE4⟩, rfl⟩ ?_
  simp only [List.filterMap_cons, List.filterMap_nil, List.getElem?_toArray, List.getElem?_cons_succ, List.getElem?_cons_zero]
  repeat (quiet_step (fail))
  refine wpQuiet_nil ?_
  refine held_step (k := 11) rfl (by kernel_rfl) ?_
  go_wp2_with fail
  refine (CT.out w4 (HL.out.ext (hE0.trans (hE4)))).mono ?_
  rintro e w5 hg
  obtain ⟨B3, d3, rfl, r3, E⟩ := hg.reads
  replace r3 := Lib.hid r3
  clear hg
  have hE5 : Ext W1 w5 := (hE4).trans E
  clear E
  go_wp2_with fail
  refine ⟨⟨⟨w5, hE5⟩, rfl⟩, ?_⟩
  refine held_step (k := 15) rfl (by kernel_rfl) ?_
  go_wp2_with fail
  refine (CT2.out w5 (HL.out.ext (hE0.trans (hE5)))).mono ?_
  rintro e w6 hg
  obtain ⟨B4, d4, rfl, r4, E⟩ := hg.reads
  replace r4 := Lib.hid r4
  clear hg
  have E34 := Lib.hid E
  have hE6 : Ext W1 w6 := (hE5).trans E
  clear E
  go_wp2_with fail
  refine ⟨⟨⟨w6, hE6⟩, rfl⟩, ?_⟩
  refine held_step (k := 16) rfl (by kernel_rfl) ?_
  go_wp2_with fail
  refine (rints_any B3 B4 d3 d4 T T _ (r3.out.ext E34.out) r4.out (by omega) (by omega)).mono ?_
  rintro e w7 ⟨rfl, E⟩
  rw [show eqI T T = true from eqI_true rfl]
  clear r3 r4 E34
  have hE7 : Ext W1 w7 := (hE6).trans E
  clear E
  go_wp2_with fail
  refine ⟨⟨⟨w7, hE7⟩, rfl⟩, ?_⟩
  refine held_take [17, 18, 19, 20, 21, 23, 24, 25] _ _ 15 rfl (by kernel_rfl) rfl (by kernel_rfl) ⟨⟨w7, hE7⟩, rfl⟩ ?_
  simp only [List.filterMap_cons, List.filterMap_nil, List.getElem?_toArray, List.getElem?_cons_succ, List.getElem?_cons_zero]
  repeat (quiet_step (fail))
  refine wpQuiet_nil ?_
  refine held_step (k := 22) rfl (by kernel_rfl) ?_
  go_wp2_with fail
  refine (CS.out w7 (HL.out.ext (hE0.trans (hE7)))).mono ?_
  rintro e w8 ⟨B5, d5, rfl, o5, n5, E⟩
  have r5 := Lib.hid (OwnR.at o5)
  clear o5 n5
  have hE8 : Ext W1 w8 := (hE7).trans E
  clear E
  go_wp2_with fail
  refine ⟨⟨⟨w8, hE8⟩, rfl⟩, ?_⟩
  refine held_step (k := 26) rfl (by kernel_rfl) ?_
  go_wp2_with fail
  refine (CS2.out w8 (HL.out.ext (hE0.trans (hE8)))).mono ?_
  rintro e w9 ⟨B6, d6, rfl, o6, n6, E⟩
  have r6 := Lib.hid (OwnR.at o6)
  clear o6 n6
  have E56 := Lib.hid E
  have hE9 : Ext W1 w9 := (hE8).trans E
  clear E
  go_wp2_with fail
  refine ⟨⟨⟨w9, hE9⟩, rfl⟩, ?_⟩
  refine held_step (k := 27) rfl (by kernel_rfl) ?_
  go_wp2_with fail
  refine (rrects_any B5 B6 d5 d6 S S _ (r5.out.ext E56.out) r6.out (by omega) (by omega)).mono ?_
  rintro e w10 ⟨rfl, E⟩
  rw [show eqR S S = true from eqR_true rfl]
  clear r5 r6 E56
  have hE10 : Ext W1 w10 := (hE9).trans E
  clear E
  go_wp2_with fail
  refine ⟨⟨⟨w10, hE10⟩, rfl⟩, ?_⟩
  refine held_take [28, 29, 30, 32] _ _ 8 rfl (by kernel_rfl) rfl (by kernel_rfl) ⟨⟨w10, hE10⟩, rfl⟩ ?_
  simp only [List.filterMap_cons, List.filterMap_nil, List.getElem?_toArray, List.getElem?_cons_succ, List.getElem?_cons_zero]
  repeat (quiet_step (fail))
  refine wpQuiet_nil ?_
  refine held_step (k := 31) rfl (by kernel_rfl) ?_
  go_wp2_with fail
  refine (CU.out w10 (HP.out.ext (hE0.trans (hE10)))).mono ?_
  rintro e w11 hg
  obtain ⟨B7, d7, rfl, r7, E⟩ := hg.reads
  replace r7 := Lib.hid r7
  clear hg
  have hE11 : Ext W1 w11 := (hE10).trans E
  clear E
  go_wp2_with fail
  refine ⟨⟨⟨w11, hE11⟩, rfl⟩, ?_⟩
  refine held_step (k := 33) rfl (by kernel_rfl) ?_
  go_wp2_with fail
  refine (CU2.out w11 (HP.out.ext (hE0.trans (hE11)))).mono ?_
  rintro e w12 hg
  obtain ⟨B8, d8, rfl, r8, E⟩ := hg.reads
  replace r8 := Lib.hid r8
  clear hg
  have E78 := Lib.hid E
  have hE12 : Ext W1 w12 := (hE11).trans E
  clear E
  go_wp2_with fail
  refine ⟨⟨⟨w12, hE12⟩, rfl⟩, ?_⟩
  refine held_step (k := 34) rfl (by kernel_rfl) ?_
  go_wp2_with fail
  refine (rsames_any B7 B8 d7 d8 U U _ (r7.out.ext E78.out) r8.out (by omega) (by omega)).mono ?_
  rintro e w13 ⟨rfl, E⟩
  rw [show eqI U U = true from eqI_true rfl]
  clear r7 r8 E78
  have hE13 : Ext W1 w13 := (hE12).trans E
  clear E
  go_wp2_with fail
  refine ⟨⟨⟨w13, hE13⟩, rfl⟩, ?_⟩
  refine held_take [35, 36] _ _ 3 rfl (by kernel_rfl) rfl (by kernel_rfl) ⟨⟨w13, hE13⟩, rfl⟩ ?_
  simp only [List.filterMap_cons, List.filterMap_nil, List.getElem?_toArray, List.getElem?_cons_succ, List.getElem?_cons_zero]
  repeat (quiet_step (fail))
  refine wpQuiet_nil ?_
  refine held_step (k := 37) rfl (by kernel_rfl) ?_
  go_wp2_with fail
  refine (wakes10_any _).mono ?_
  rintro e w14 ⟨rfl, E⟩
  have hE14 : Ext W1 w14 := (hE13).trans E
  clear E
  go_wp2_with fail
  refine ⟨⟨⟨w14, hE14⟩, rfl⟩, ?_⟩
  refine held_take [38, 39] _ _ 0 rfl (by kernel_rfl) rfl (by kernel_rfl) ⟨⟨w14, hE14⟩, rfl⟩ ?_
  simp only [List.filterMap_cons, List.filterMap_nil, List.getElem?_toArray, List.getElem?_cons_succ, List.getElem?_cons_zero]
  repeat (quiet_step (fail))
  refine wpQuiet_nil ?_
  refine held_done (by kernel_rfl) ?_
  go_wp2_with fail
  go_ret
  exact ⟨rfl, hE0.trans hE14⟩
theorem tells_any (aA : Option Addr) (ca : Nat) (l : List Rect) (wd ht : Int) (W H : Int) (pA : Option Addr) (pc : Nat) (px : List Int) (w : World) (hl : RectsAt w aA l) (hp : Reads .u32 w pA px) (hx : ∀ x ∈ px, 0 ≤ x ∧ x ≤ 4294967295) (hcap : px.length ≤ pc) :
    Calls Try.prog 11 #[.slice aA l.length ca, .int .i64 wd, .int .i64 ht, .agg #[.int .i64 W, .int .i64 H, .slice pA px.length pc]] w fun e w' => e = .returned (.bool true) ∧ Ext w w' := by
  by_cases h1 : l.length ≤ 16
  · by_cases h2 : px.length ≤ 2000
    · exact tells_in aA ca l wd ht W H pA pc px w hl hp hx hcap h1 h2
    · have d1 : ((16 : Int) < l.length) = False := by simp; omega
      have d2 : ((2000 : Int) < px.length) = True := by simp; omega
      clear hl hp hx
      go_enter Try.func11, Try.ntmps11
      go_wp2_with fail
      refine (wakes10_any _).mono ?_
      rintro e w1 ⟨rfl, hE⟩
      go_wp2_with fail
      go_ret
      exact ⟨rfl, Ext.of_alloc hE⟩
  · have d1 : ((16 : Int) < l.length) = True := by simp; omega
    clear hl hp hx
    go_enter Try.func11, Try.ntmps11
    go_wp2_with fail
    refine (wakes10_any _).mono ?_
    rintro e w1 ⟨rfl, hE⟩
    go_wp2_with fail
    go_ret
    exact ⟨rfl, Ext.of_alloc hE⟩
end Go.Proofs.Ytilcggkbancniaa
