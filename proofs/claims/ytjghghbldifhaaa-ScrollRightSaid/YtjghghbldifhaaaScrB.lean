/- The document's test of a step: vignetteref18.fits. -/
import Derived.Test.YtjghghbldifhaaaScrA
import Derived.Test.YtjghghbldifhaaaToR
import Derived.Test.YtjghghbldifhaaaRefB
set_option linter.unusedVariables false
set_option linter.unusedSimpArgs false
namespace Go.Proofs.Ytjghghbldifhaaa
open Go.RowKit

/-- Where a step leads. -/
def toQ (box : Rect) (dx dy : Int) : Rect := box.and (box.shift dx dy)
def tryP (W : Int) (pa pb : List Int) (box : Rect) (dx dy : Int) : Bool := decide (box.area ≤ (toQ box dx dy).area * 2) && fitsP W pa pb (toQ box dx dy) dx dy
theorem area_full {r : Rect} (h : r.empty = false) : r.area = r.w * r.h := by
  have hg : r.good = true := by
    cases hg : r.good
    · simp [Rect.empty, Rect.area, hg] at h
    · rfl
  simp [Rect.area, hg]
theorem rarea1_any (x y a b : Int) (w : World) :
    Calls Try.prog 126 #[.agg #[.int .i64 x, .int .i64 y, .int .i64 a, .int .i64 b]] w fun e w' => e = .returned (.int .i64 (Rect.area ⟨x, y, a, b⟩)) ∧ Ext w w' := by
  have cg := fun w => rempty_any x y a b w
  have hb := Rect.area_bd ⟨x, y, a, b⟩
  cases hg : Rect.empty ⟨x, y, a, b⟩
  · have ha : Rect.area ⟨x, y, a, b⟩ = a * b := area_full hg
    rw [ha] at hb ⊢
    simp only [hg] at cg
    have s1 : IntKind.i64.wrap (a * b) = a * b := IntWalk.i64_in _ (by omega)
    clear hg ha hb
    go_enter Try.func126, Try.ntmps126
    go_wp2_with fail
    refine (cg _).mono ?_
    rintro e w1 ⟨rfl, E⟩
    have kB := E.keep (blk_new w (.cells #[.int .i64 x, .int .i64 y, .int .i64 a, .int .i64 b] 26))
    obtain ⟨c0, f0⟩ := blk_rules kB
    go_wp2_with fail
    go_ret
    exact ⟨rfl, Ext.of_alloc E⟩
  · have ha : Rect.area ⟨x, y, a, b⟩ = 0 := by simpa [Rect.empty] using hg
    rw [ha]
    simp only [hg] at cg
    clear hg ha hb
    go_enter Try.func126, Try.ntmps126
    go_wp2_with fail
    refine (cg _).mono ?_
    rintro e w1 ⟨rfl, E⟩
    go_wp2_with fail
    go_ret
    exact ⟨rfl, Ext.of_alloc E⟩
set_option maxRecDepth 100000 in
set_option maxHeartbeats 32000000 in
theorem rfits_any (pb po pc qb qo qc : Nat) (W H : Int) (px qx : List Int) (box : Rect) (dx dy : Int) (w : World) (ra : Reads .u32 w (some ⟨pb, po, none⟩) px) (rb : Reads .u32 w (some ⟨qb, qo, none⟩) qx) (b1 : 1 ≤ W) (b2 : W ≤ 256) (b3 : 1 ≤ H) (b4 : H ≤ 256) (hpl : (px.length : Int) = W * H) (hql : (qx.length : Int) = W * H) (hin : StepIn W H (toQ box dx dy) dx dy) :
    Calls Try.prog 103 #[.agg #[.int .i64 W, .int .i64 H, .slice (some ⟨pb, po, none⟩) px.length pc], .agg #[.int .i64 W, .int .i64 H, .slice (some ⟨qb, qo, none⟩) qx.length qc], .agg #[.int .i64 box.x, .int .i64 box.y, .int .i64 box.w, .int .i64 box.h], .int .i64 dx, .int .i64 dy] w fun e w' => e = .returned (.tuple #[.agg #[.int .i64 (toQ box dx dy).x, .int .i64 (toQ box dx dy).y, .int .i64 (toQ box dx dy).w, .int .i64 (toQ box dx dy).h], .bool (tryP W px qx box dx dy)]) ∧ Ext w w' := by
  have hbt := Rect.area_bd (toQ box dx dy)
  have hbb := Rect.area_bd box
  have htry : tryP W px qx box dx dy = (decide (box.area ≤ (toQ box dx dy).area * 2) && fitsP W px qx (toQ box dx dy) dx dy) := rfl
  have hto : box.and (box.shift dx dy) = toQ box dx dy := rfl
  obtain ⟨t, ht⟩ : ∃ t, toQ box dx dy = t := ⟨_, rfl⟩
  rw [ht] at hin hbt htry hto ⊢
  obtain ⟨⟨t1, t2, t3, t4, t5, t6⟩, hin⟩ := hin
  have RA := Lib.hid ra
  have RB := Lib.hid rb
  have HIN := Lib.hid hin
  have HTRY := Lib.hid htry
  have HPL := Lib.hid hpl
  have HQL := Lib.hid hql
  clear ra rb hin htry ht hpl hql
  obtain ⟨Wt, hWt⟩ : ∃ n : Nat, t.w.toNat = n := ⟨_, rfl⟩
  obtain ⟨Ht, hHt⟩ : ∃ n : Nat, t.h.toNat = n := ⟨_, rfl⟩
  have hfit : fitsP W px qx t dx dy = ((rowsR t Ht).all (movedAt W px qx dx dy) && (rowsR t Ht).any (otherAt W px qx)) := by unfold fitsP cellsR; rw [hHt]
  have HFIT := Lib.hid hfit
  have hWt2 : t.w = (Wt : Int) := by omega
  have hHt2 : t.h = (Ht : Int) := by omega
  have hrs : ∀ m, rowsR t (m + 1) = rowsR t m ++ rowR t m Wt := fun m => by rw [← hWt]; exact rowsR_succ t m
  have HRS := Lib.hid hrs
  have HMEM : Hid (∀ i j : Nat, i < Wt → j < Ht → (t.x + (i : Int), t.y + (j : Int)) ∈ cellsR t) := Lib.hid fun i j hi hj => cellsR_mem (by omega) (by omega)
  have HW2 := Lib.hid hWt2
  have HH2 := Lib.hid hHt2
  clear hWt hHt hfit hrs hWt2 hHt2
  go_enter Try.func103, Try.ntmps103
  go_wp2_with fail
  obtain ⟨w0, hw0⟩ : ∃ x, x = (((w.alloc (.cells #[.int .i64 W, .int .i64 H, .slice (some ⟨pb, po, none⟩) px.length pc] 43)).alloc (.cells #[.int .i64 W, .int .i64 H, .slice (some ⟨qb, qo, none⟩) qx.length qc] 43)).alloc (.cells #[.int .i64 box.x, .int .i64 box.y, .int .i64 box.w, .int .i64 box.h] 26)).alloc (.cells #[.int .i64 0, .int .i64 0, .int .i64 0, .int .i64 0] 26) := ⟨_, rfl⟩
  have k5 : w0.heap[w.heap.size]? = some (.cells #[.int .i64 W, .int .i64 H, .slice (some ⟨pb, po, none⟩) px.length pc] 43 (0, 0)) := by rw [hw0]; exact blk_old (blk_old (blk_old (blk_new w _) _) _) _
  have k6 : w0.heap[w.heap.size + 1]? = some (.cells #[.int .i64 W, .int .i64 H, .slice (some ⟨qb, qo, none⟩) qx.length qc] 43 (0, 0)) := by rw [hw0]; exact blk_old (blk_old (blk_new1 w _ _) _) _
  have k7 : w0.heap[w.heap.size + 1 + 1]? = some (.cells #[.int .i64 box.x, .int .i64 box.y, .int .i64 box.w, .int .i64 box.h] 26 (0, 0)) := by rw [hw0]; exact blk_old (blk_new2 w _ _ _) _
  have k10 : w0.heap[w.heap.size + 1 + 1 + 1]? = some (.cells #[.int .i64 0, .int .i64 0, .int .i64 0, .int .i64 0] 26 (0, 0)) := by rw [hw0]; exact blk_new3 w _ _ _ _
  have hE0 : Ext w w0 := by rw [hw0]; exact ((((Ext.refl w).alloc _).alloc _).alloc _).alloc _
  rw [← hw0]
  clear hw0
  refine toR _ _ _ _ _ _ _ _ _ _ _ _ _ _ _ _ _ _ _ _ _ _ _ _ _ _ _ _ _ _ _ _ _ _ _ _ _ _ _ _ _ _ _ _ _ _ _ _ _ _ _ _ _ _ _ _ _ _ _ _ _ _ _ _ _ _ _ _ _ _ _ _ _ _ _ _ _ _ _ _ _ _ _ _ _ _ _ _ _ _ _ _ _ _ _ _ _ _ _ _  w0 (w.heap.size + 1 + 1) box dx dy t hto _ _ k7 ?_
  intro _ _ _ _ _ _ G w1 kG gG hE1
  replace k5 := hE1.keep k5
  replace k6 := hE1.keep k6
  replace k7 := hE1.keep k7
  replace k10 := hE1.keep k10
  replace hE0 := hE0.trans hE1
  clear hE1 hto
  have j7 := After.blk k7
  have jG := After.blk kG
  have cAt := fun y : After w1 => rarea1_any t.x t.y t.w t.h y.now
  have cAb := fun y : After w1 => rarea1_any box.x box.y box.w box.h y.now
  simp only [show Rect.mk t.x t.y t.w t.h = t from rfl] at cAt
  simp only [show Rect.mk box.x box.y box.w box.h = box from rfl] at cAb
  have s0 : IntKind.i64.wrap (t.area * 2) = t.area * 2 := IntWalk.i64_in _ (by omega)
  go_wp2_with fail
  refine wp_region_after (by kernel_rfl) (by kernel_rfl) ?_
  repeat (go_big_quiet_step (first | with_reducible exact Calls.after (cAt _) | with_reducible exact Calls.after (cAb _)))
  refine wpQuiet_nil ?_
  intro _ hw'
  obtain ⟨z, rfl⟩ := hw'
  replace k5 := z.ext.keep k5
  replace k6 := z.ext.keep k6
  replace k10 := z.ext.keep k10
  replace kG := z.ext.keep kG
  replace hE0 := hE0.trans z.ext
  clear j7 jG cAt cAb k7 s0
  generalize z.now = w2 at *
  clear z
  obtain ⟨cG, fG⟩ := blk_rules kG
  obtain ⟨c10, f10⟩ := blk_rules k10
  have l10 := blk_lt k10
  by_cases har : t.area * 2 < box.area
  · have h1 := HTRY.out
    rw [decide_eq_false (by omega), Bool.false_and] at h1
    have H1 := Lib.hid h1
    have d1 : decide (t.area * 2 < box.area) = true := by rw [decide_eq_true_eq]; exact har
    clear h1
    go_wp2_with fail
    refine bodyPost_ret (v := .tuple #[.agg #[.int .i64 t.x, .int .i64 t.y, .int .i64 t.w, .int .i64 t.h], .bool false]) (by simp only [results, Try.results103]; go_simp; done) rfl ⟨by rw [H1.out], ?_⟩
    repeat' (first | exact hE0 | refine Ext.set ?_ ?_ _ | (dsimp only; omega) | (simp; done))
  · have h1 := HTRY.out
    rw [decide_eq_true (by omega), Bool.true_and] at h1
    have H1 := Lib.hid h1
    have d1 : decide (t.area * 2 < box.area) = false := by rw [decide_eq_false_iff_not]; exact har
    have har2 : box.area ≤ t.area * 2 := by omega
    clear h1 HTRY
    go_wp2_with fail
    clear d1 cG fG c10 f10
    obtain ⟨X, hX⟩ : ∃ X, t.x = X := ⟨_, rfl⟩
    obtain ⟨Y, hY⟩ : ∃ Y, t.y = Y := ⟨_, rfl⟩
    have w2' := HW2.out
    have h2' := HH2.out
    simp only [hX, hY] at HMEM
    rw [hX, hY, w2', h2'] at kG
    rw [hX, w2'] at t3
    rw [hY, h2'] at t6
    rw [hX] at t1
    rw [hY] at t4
    simp only [hX, hY, w2', h2']
    have HXY := Lib.hid (And.intro hX hY)
    have HRES : Hid ((Value.agg #[.int .i64 X, .int .i64 Y, .int .i64 Wt, .int .i64 Ht]) = Value.agg #[.int .i64 t.x, .int .i64 t.y, .int .i64 t.w, .int .i64 t.h]) := Lib.hid (by rw [hX, hY, w2', h2'])
    clear hX hY w2' h2' t2 t5 HW2 HH2
    go_loopw [13, 14] (fun uv yv wr => ∃ j : Nat, j ≤ Ht ∧ yv = .int .i64 (Y + (j : Int)) ∧ uv = .bool ((rowsR t j).any (otherAt W px qx)) ∧ (rowsR t j).all (movedAt W px qx dx dy) = true ∧ Ext w2 wr) (fun _ yv _ => Ht - (intOf yv - Y).toNat)
    case atStart => exact ⟨0, Nat.zero_le _, by simp, by simp [rowsR], by simp [rowsR], Ext.refl _⟩
    case round =>
      obtain ⟨j, hj, rfl, rfl, hall, hEj⟩ := hrel
      have HALL := Lib.hid hall
      clear hall
      obtain ⟨cG, fG⟩ := blk_rules (hEj.keep kG)
      by_cases hlt : j < Ht
      · obtain ⟨u0, hu0⟩ : ∃ u0, (rowsR t j).any (otherAt W px qx) = u0 := ⟨_, rfl⟩
        simp only [hu0]
        have HU0 := Lib.hid hu0
        clear hu0
        go_wp2_with fail
        generalize wr = wo at *
        clear cG fG
        go_loopw [13, 15] (fun uv xv wq => ∃ i : Nat, i ≤ Wt ∧ xv = .int .i64 (X + (i : Int)) ∧ uv = .bool (u0 || (rowR t j i).any (otherAt W px qx)) ∧ (rowR t j i).all (movedAt W px qx dx dy) = true ∧ Ext w2 wq) (fun _ xv _ => Wt - (intOf xv - X).toNat)
        case atStart => exact ⟨0, Nat.zero_le _, by simp, by simp [rowR], by simp [rowR], hEj⟩
        case round =>
          obtain ⟨i, hi, rfl, rfl, hall2, hEi⟩ := hrel
          have HALL2 := Lib.hid hall2
          clear hall2
          obtain ⟨cG, fG⟩ := blk_rules (hEi.keep kG)
          obtain ⟨c5, f5⟩ := blk_rules (hEi.keep k5)
          obtain ⟨c6, f6⟩ := blk_rules (hEi.keep k6)
          obtain ⟨c10, f10⟩ := blk_rules (hEi.keep k10)
          have l10 := blk_lt (hEi.keep k10)
          obtain ⟨u1, hu1⟩ : ∃ u1, (u0 || (rowR t j i).any (otherAt W px qx)) = u1 := ⟨_, rfl⟩
          simp only [hu1]
          have HU1 := Lib.hid hu1
          clear hu1
          by_cases hli : i < Wt
          · obtain ⟨hp1, hp2⟩ := HIN.out _ (HMEM.out i j hli hlt)
            dsimp only at hp1 hp2
            obtain ⟨p1, p2, p3, p4⟩ := (hasPx_iff b1 b2 b3 b4).1 hp1
            obtain ⟨q1, q2, q3, q4⟩ := (hasPx_iff b1 b2 b3 b4).1 hp2
            obtain ⟨x, hx⟩ : ∃ x, X + (i : Int) = x := ⟨_, rfl⟩
            obtain ⟨y, hy⟩ : ∃ y, Y + (j : Int) = y := ⟨_, rfl⟩
            have HX := Lib.hid hx
            have HY := Lib.hid hy
            rw [hx] at p1 p2 q1 q2
            rw [hy] at p3 p4 q3 q4
            obtain ⟨m1, m2, m3⟩ := place_bd b1 b2 b3 b4 p1 p2 p3 p4
            obtain ⟨n1, n2, n3⟩ := place_bd b1 b2 b3 b4 q1 q2 q3 q4
            have hpl := HPL.out
            have hql := HQL.out
            have hE3 := hE0.trans hEi
            obtain ⟨pb1, po1, ep, hp⟩ := (RA.out.ext hE3).form (by omega)
            obtain ⟨qb1, qo1, eq, hq⟩ := (RB.out.ext hE3).form (by omega)
            injection ep with ep; injection ep with ep ep'; subst ep; subst ep'
            injection eq with eq; injection eq with eq eq'; subst eq; subst eq'
            have gq := hq (y * W + x).toNat (by omega)
            have ga := hp (y * W + x).toNat (by omega)
            have gf := hp ((y - dy) * W + (x - dx)).toNat (by omega)
            obtain ⟨vb, hvb⟩ : ∃ v, pxAt W qx x y = v := ⟨_, rfl⟩
            obtain ⟨va, hva⟩ : ∃ v, pxAt W px x y = v := ⟨_, rfl⟩
            obtain ⟨vf, hvf⟩ : ∃ v, pxAt W px (x - dx) (y - dy) = v := ⟨_, rfl⟩
            rw [show qx.getD (y * W + x).toNat 0 = vb from hvb] at gq
            rw [show px.getD (y * W + x).toNat 0 = va from hva] at ga
            rw [show px.getD ((y - dy) * W + (x - dx)).toNat 0 = vf from hvf] at gf
            have hmv : movedAt W px qx dx dy (X + (i : Int), Y + (j : Int)) = (vb == vf) := by unfold movedAt; dsimp only; rw [hx, hy, hvb, hvf]
            have hot : otherAt W px qx (X + (i : Int), Y + (j : Int)) = (vb != va) := by unfold otherAt; dsimp only; rw [hx, hy, hvb, hva]
            have hsn : rowR t j (i + 1) = rowR t j i ++ [(X + (i : Int), Y + (j : Int))] := by rw [rowR_succ, HXY.out.1, HXY.out.2]
            have HMV := Lib.hid hmv
            have HOT := Lib.hid hot
            have HSN := Lib.hid hsn
            have e0 : (y - dy) * W + x - dx = (y - dy) * W + (x - dx) := by omega
            rw [← e0] at gf
            have s1 : IntKind.i64.wrap (y * W) = y * W := IntWalk.i64_in _ (by omega)
            have s2 : IntKind.i64.wrap (y * W + x) = y * W + x := IntWalk.i64_in _ (by omega)
            have s3 : IntKind.i64.wrap (y - dy) = y - dy := IntWalk.i64_in _ (by omega)
            have s4 : IntKind.i64.wrap ((y - dy) * W) = (y - dy) * W := IntWalk.i64_in _ (by omega)
            have s5 : IntKind.i64.wrap ((y - dy) * W + x) = (y - dy) * W + x := IntWalk.i64_in _ (by omega)
            have s6 : IntKind.i64.wrap ((y - dy) * W + x - dx) = (y - dy) * W + x - dx := IntWalk.i64_in _ (by omega)
            have r1 : y * W + x < (qx.length : Int) := by omega
            have r2 : y * W + x < (px.length : Int) := by omega
            have r3 : (y - dy) * W + x - dx < (px.length : Int) := by omega
            have r4 : 0 ≤ y * W + x := by omega
            have r5 : 0 ≤ (y - dy) * W + x - dx := by omega
            have hlx : x < X + (Wt : Int) := by omega
            have hx1 : IntKind.i64.wrap (x + 1) = x + 1 := IntWalk.i64_in _ (by omega)
            simp only [hx, hy]
            clear hp1 hp2 hvb hva hvf hmv hot hsn hp hq hpl hql e0 hx hy hE3
            cases hvv : (vb == vf)
            · have hno : fitsP W px qx t dx dy = false := by
                unfold fitsP
                have : (cellsR t).all (movedAt W px qx dx dy) = false := by
                  rw [List.all_eq_false]
                  refine ⟨_, HMEM.out i j hli hlt, ?_⟩
                  rw [HMV.out, hvv]
                  simp
                rw [this]
                rfl
              have h3 := H1.out.trans hno
              have H3 := Lib.hid h3
              have hvn : (vb != vf) = true := by simpa using hvv
              clear hno h3 hvv
              go_wp2_with fail
              go_quiet (fail)
              go_wp2_with fail
              refine bodyPost_ret (v := .tuple #[.agg #[.int .i64 X, .int .i64 Y, .int .i64 Wt, .int .i64 Ht], .bool false]) (by simp only [results, Try.results103]; go_simp; done) rfl ⟨by rw [HRES.out, H3.out], ?_⟩
              repeat' (first | exact hE0.trans hEi | refine Ext.drewN ?_ _ | refine Ext.set ?_ ?_ _ | (dsimp only; omega) | (simp; done))
            · have hvn : (vb != vf) = false := by simpa using hvv
              have hall3 : (rowR t j (i + 1)).all (movedAt W px qx dx dy) = true := by
                rw [HSN.out, List.all_append, HALL2.out]
                simp [HMV.out, hvv]
              have hany3 : (u0 || (rowR t j (i + 1)).any (otherAt W px qx)) = (u1 || (vb != va)) := by
                rw [HSN.out, List.any_append, ← Bool.or_assoc, HU1.out]
                simp [HOT.out]
              have H3 := Lib.hid hall3
              have H4 := Lib.hid hany3
              clear hall3 hany3 hvv
              go_wp2_with fail
              go_quiet (fail)
              cases u1
              · go_wp2_with fail
                go_quiet (fail)
                go_wp2_with fail
                have hx := HX.out
                exact ⟨⟨i + 1, by omega, by go_num, by rw [H4.out]; simp, H3.out, (by repeat (first | exact hEi | refine Ext.drewN ?_ _ | refine Ext.drew ?_))⟩, by simp [intOf]; omega⟩
              · go_wp2_with fail
                go_quiet (fail)
                go_wp2_with fail
                have hx := HX.out
                exact ⟨⟨i + 1, by omega, by go_num, by rw [H4.out]; simp, H3.out, (by repeat (first | exact hEi | refine Ext.drewN ?_ _ | refine Ext.drew ?_))⟩, by simp [intOf]; omega⟩
          · obtain rfl : i = Wt := by omega
            have hall3 : (rowsR t (j + 1)).all (movedAt W px qx dx dy) = true := by rw [HRS.out, List.all_append, HALL.out, HALL2.out]; rfl
            have hany3 : (rowsR t (j + 1)).any (otherAt W px qx) = u1 := by rw [HRS.out, List.any_append, HU0.out, HU1.out]
            have H3 := Lib.hid hall3
            have H4 := Lib.hid hany3
            clear hall3 hany3
            go_wp2_with fail
            exact ⟨⟨j + 1, by omega, by go_num, by rw [H4.out], H3.out, hEi⟩, by simp [intOf]; omega⟩
      · obtain rfl : j = Ht := by omega
        have hf := HFIT.out
        rw [HALL.out, Bool.true_and] at hf
        have HF := Lib.hid hf
        clear hf
        obtain ⟨u0, hu0⟩ : ∃ u0, (rowsR t j).any (otherAt W px qx) = u0 := ⟨_, rfl⟩
        simp only [hu0]
        have HU0 := Lib.hid hu0
        clear hu0
        obtain ⟨c10, f10⟩ := blk_rules (hEj.keep k10)
        have l10 := blk_lt (hEj.keep k10)
        go_wp2_with fail
        refine bodyPost_ret (v := .tuple #[.agg #[.int .i64 X, .int .i64 Y, .int .i64 Wt, .int .i64 j], .bool u0]) (by simp only [results, Try.results103]; go_simp; done) rfl ⟨by rw [HRES.out, H1.out, HF.out, HU0.out], ?_⟩
        repeat' (first | exact hE0.trans hEj | refine Ext.set ?_ ?_ _ | (dsimp only; omega) | (simp; done))
end Go.Proofs.Ytjghghbldifhaaa
