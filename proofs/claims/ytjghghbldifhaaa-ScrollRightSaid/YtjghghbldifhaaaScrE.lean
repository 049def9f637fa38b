/- The document's answer: vignetteref18.Find. Printed by gen_scrd.py. -/
/- The document's answer: vignetteref18.Find, where there is nothing to be found. Printed by gen_scre.py. -/
import Derived.Test.YtjghghbldifhaaaScrC
import Derived.Test.YtjghghbldifhaaaPairS
import Derived.Test.YtjghghbldifhaaaTileC
set_option linter.unusedVariables false
set_option linter.unusedSimpArgs false
namespace Go.Proofs.Ytjghghbldifhaaa
open Go.RowKit
theorem isPic_form {W H : Int} {n : Nat} (h : isPic W H n = true) : 1 ≤ W ∧ W ≤ 256 ∧ 1 ≤ H ∧ H ≤ 256 ∧ (n : Int) = W * H := by simpa [isPic, and_assoc] using h
theorem many_form {W H : Int} {N : Nat} (h1 : 1 ≤ W) (h : N = (max W H).toNat - 1) : manyOf W H = 4 * N := by unfold manyOf; omega
set_option maxRecDepth 100000 in
set_option maxHeartbeats 64000000 in
theorem rscroll_good (A A' lA : Option Addr) (ca cb lc : Nat) (W H : Int) (xs ys : List Int) (l : List Rect) (w : World) (hp : isPic W H xs.length = true) (hq : isPic W H ys.length = true) (rx : Reads .u32 w A xs) (ry : Reads .u32 w A' ys) (hx : ∀ x ∈ xs, 0 ≤ x ∧ x ≤ 4294967295) (hy : ∀ x ∈ ys, 0 ≤ x ∧ x ≤ 4294967295) (rl : RectsAt w lA l) (hl : l.length ≤ 100000) :
    Calls Try.prog 53 #[.agg #[.int .i64 W, .int .i64 H, .slice A xs.length ca], .agg #[.int .i64 W, .int .i64 H, .slice A' ys.length cb], .slice lA l.length lc] w (GivesC (boxOf W H l) (foundP W H (xs.map cut24) (ys.map cut24) (boxOf W H l)) w) := by
  obtain ⟨b1, b2, b3, b4, hxl⟩ := isPic_form hp
  obtain ⟨_, _, _, _, hyl⟩ := isPic_form hq
  have hm := mul_bd b1 b2 b3 b4
  have hI1 := fun w => ris_any W H A ca xs.length w
  have hI2 := fun w => ris_any W H A' cb ys.length w
  simp only [hp] at hI1
  simp only [hq] at hI2
  have dW : (W != W) = false := by simp
  have dH : (H != H) = false := by simp
  have RX := Lib.hid rx
  have RY := Lib.hid ry
  have HX := Lib.hid hx
  have HY := Lib.hid hy
  have RL := Lib.hid rl
  have hin0 := boxOf_in b1 b2 b3 b4 l
  have hZl : (listOf 2 l [⟨0, 0, W, H⟩]).length ≤ 1000000 := by
    have h1 := cut_length l ⟨0, 0, W, H⟩
    have h2 : Rect.area ⟨0, 0, W, H⟩ = W * H := area_full (Rect.empty_iff.2 (by dsimp only; omega))
    omega
  have hxm : (xs.map cut24).length = xs.length := by simp
  have hym : (ys.map cut24).length = ys.length := by simp
  obtain ⟨Z, hZ⟩ : ∃ Z, listOf 2 l [⟨0, 0, W, H⟩] = Z := ⟨_, rfl⟩
  have hbx : boundsL Z = boxOf W H l := by rw [← hZ]; rfl
  rw [hZ] at hZl
  obtain ⟨box, hbox⟩ : ∃ b, boxOf W H l = b := ⟨_, rfl⟩
  rw [hbox] at hbx hin0 ⊢
  have HBX := Lib.hid hbx
  have HZ := Lib.hid hZ
  have HIN := Lib.hid (step_in b1 b2 b3 b4 hin0)
  obtain ⟨px, hpx⟩ : ∃ px, xs.map cut24 = px := ⟨_, rfl⟩
  obtain ⟨qx, hqx⟩ : ∃ qx, ys.map cut24 = qx := ⟨_, rfl⟩
  rw [hpx] at hxm
  rw [hqx] at hym
  rw [hpx, hqx]
  have HPX := Lib.hid hpx
  have HQX := Lib.hid hqx
  have HXM := Lib.hid hxm
  have HYM := Lib.hid hym
  have HXL := Lib.hid hxl
  have HYL := Lib.hid hyl
  have HZL := Lib.hid hZl
  have hxn : xs.length ≤ 65536 := by omega
  have hyn : ys.length ≤ 65536 := by omega
  obtain ⟨N, hN⟩ : ∃ N, N = (max W H).toNat - 1 := ⟨_, rfl⟩
  have hmany := many_form b1 hN
  have HN := Lib.hid (show (∀ d : Nat, ((d : Int) + 1 < W ∨ (d : Int) + 1 < H) ↔ d < N) from fun d => by omega)
  have hN3 : N ≤ 255 := by omega
  unfold GivesC
  obtain ⟨o, ho⟩ : ∃ o, foundP W H px qx box = o := ⟨_, rfl⟩
  have HFP : Hid ((List.range (4 * N)).find? (tryAt W px qx box) = o) := Lib.hid (by rw [← ho]; unfold foundP; rw [hmany])
  rw [ho]
  clear ho
  obtain ⟨cv, hcv⟩ : ∃ cv, copyV box o = cv := ⟨_, rfl⟩
  obtain ⟨is, his⟩ : ∃ is, o.isSome = is := ⟨_, rfl⟩
  rw [hcv, his]
  have HCV := Lib.hid hcv
  have HIS := Lib.hid his
  clear hcv his
  clear rx ry hx hy rl hp hq hbx hbox hZ hin0 hpx hqx hxm hym hxl hyl hZl hN hmany
  go_enter Try.func53, Try.ntmps53
  go_wp2_with fail
  obtain ⟨w0, hw0⟩ : ∃ x, x = ((w.alloc (.cells #[.int .i64 W, .int .i64 H, .slice A xs.length ca] 43)).alloc (.cells #[.int .i64 W, .int .i64 H, .slice A' ys.length cb] 43)).alloc (.cells #[.int .i64 0, .int .i64 0, .int .i64 0, .int .i64 0, .int .i64 0, .int .i64 0] 54) := ⟨_, rfl⟩
  have k3 : w0.heap[w.heap.size]? = some (.cells #[.int .i64 W, .int .i64 H, .slice A xs.length ca] 43 (0, 0)) := by rw [hw0]; exact blk_old (blk_old (blk_new w _) _) _
  have k4 : w0.heap[w.heap.size + 1]? = some (.cells #[.int .i64 W, .int .i64 H, .slice A' ys.length cb] 43 (0, 0)) := by rw [hw0]; exact blk_old (blk_new1 w _ _) _
  have k6 : w0.heap[w.heap.size + 1 + 1]? = some (.cells #[.int .i64 0, .int .i64 0, .int .i64 0, .int .i64 0, .int .i64 0, .int .i64 0] 54 (0, 0)) := by rw [hw0]; exact blk_new2 w _ _ _
  have hE0 : Ext w w0 := by rw [hw0]; exact (((Ext.refl w).alloc _).alloc _).alloc _
  rw [← hw0]
  clear hw0
  obtain ⟨c3, f3⟩ := blk_rules k3
  refine (hI1 _).mono ?_
  rintro e w1 ⟨rfl, E⟩
  replace k3 := E.keep k3
  replace k4 := E.keep k4
  replace k6 := E.keep k6
  replace hE0 := hE0.trans E
  clear E c3 f3 hI1
  obtain ⟨c4, f4⟩ := blk_rules k4
  go_wp2_with fail
  refine (hI2 _).mono ?_
  rintro e w1b ⟨rfl, E⟩
  replace k3 := E.keep k3
  replace k4 := E.keep k4
  replace k6 := E.keep k6
  replace hE0 := hE0.trans E
  clear E c4 f4 hI2
  obtain ⟨c3, f3⟩ := blk_rules k3
  obtain ⟨c4, f4⟩ := blk_rules k4
  go_upto_region 3 with fail
  refine pairS _ _ _ _ _ _ _ _ _ _ _ _ _ _ _ _ _ _ _ _ _ _ _ _ _ _ _ _ _ _ _ _ _ _ _ _ _ _ _ _ _ _ _ _ _ _ _ _ _ _ _ _ _ _ _ _ _ _ _ _ _ _ _ _ _ _ _ _ _ _ _ _ _ _ _ _ _ _ _ _ _ _ _ _ _ _ _ _ _ _ _ _ _ _ _ w1b W H W H A A' ca cb w.heap.size (w.heap.size + 1) xs ys _ _ k3 k4 (Lib.hid (RX.out.ext hE0)) (Lib.hid (RY.out.ext hE0)) HX HY hxn hyn ?_
  intro _ _ _ _ G1 G2 B1 B2 e1 e2 w2 k8 k9 r8 r9 E
  rw [HPX.out] at r8
  rw [HQX.out] at r9
  rw [← HXM.out] at k8
  rw [← HYM.out] at k9
  replace k6 := E.keep k6
  replace hE0 := hE0.trans E
  clear E k3 k4 c3 f3 c4 f4 dW dH HX HY RX RY
  have RL2 := Lib.hid (RL.out.ext hE0)
  have hpl : (px.length : Int) = W * H := by rw [HXM.out]; exact HXL.out
  have hql : (qx.length : Int) = W * H := by rw [HYM.out]; exact HYL.out
  obtain ⟨pb, po, rfl, _⟩ := r8.form (by omega)
  obtain ⟨qb, qo, rfl, _⟩ := r9.form (by omega)
  have R8 := Lib.hid r8
  have R9 := Lib.hid r9
  have HPL := Lib.hid hpl
  have HQL := Lib.hid hql
  clear r8 r9 hpl hql RL
  obtain ⟨c8, f8⟩ := blk_rules k8
  go_wp2_with fail
  refine (rof_to (a := l) (b := [⟨0, 0, W, H⟩]) HZ.out (Lib.hid (RL2.out.ext ((Ext.refl w2).alloc _))) (Lib.hid (rects_block (blk_new w2 _) rfl)) (by omega) (by simp)).mono ?_
  rintro e w3 ⟨BZ, dZ, rfl, oZ, nZ, E⟩
  have RZ := Lib.hid (OwnR.at oZ)
  replace E := Ext.of_alloc E
  replace k6 := E.keep k6
  replace k8 := E.keep k8
  replace k9 := E.keep k9
  replace R8 := Lib.hid (R8.out.ext E)
  replace R9 := Lib.hid (R9.out.ext E)
  replace hE0 := hE0.trans E
  clear E oZ nZ c8 f8 RL2
  have hZl := HZL.out
  go_wp2_with fail
  refine (rbounds_to HBX.out RZ hZl).mono ?_
  rintro e w4 ⟨rfl, E⟩
  replace k6 := E.keep k6
  replace k8 := E.keep k8
  replace k9 := E.keep k9
  replace R8 := Lib.hid (R8.out.ext E)
  replace R9 := Lib.hid (R9.out.ext E)
  replace hE0 := hE0.trans E
  clear E RZ hZl HBX HZ HZL
  go_wp2_with fail
  obtain ⟨w5, hw5⟩ : ∃ x, x = w4.alloc (.cells #[.int .i64 box.x, .int .i64 box.y, .int .i64 box.w, .int .i64 box.h] 26) := ⟨_, rfl⟩
  obtain ⟨G, hG⟩ : ∃ g, g = w4.heap.size := ⟨_, rfl⟩
  have k10 : w5.heap[G]? = some (.cells #[.int .i64 box.x, .int .i64 box.y, .int .i64 box.w, .int .i64 box.h] 26 (0, 0)) := by rw [hw5, hG]; exact blk_new w4 _
  have E : Ext w4 w5 := by rw [hw5]; exact (Ext.refl w4).alloc _
  replace k6 := E.keep k6
  replace k8 := E.keep k8
  replace k9 := E.keep k9
  replace R8 := Lib.hid (R8.out.ext E)
  replace R9 := Lib.hid (R9.out.ext E)
  replace hE0 := hE0.trans E
  rw [← hw5, ← hG]
  clear E hw5 hG
  have CF : Hid (∀ (n : Nat) (dx dy : Int) (W1 : World), stepAt n = (dx, dy) → Ext w5 W1 → Calls Try.prog 103 #[.agg #[.int .i64 W, .int .i64 H, .slice (some ⟨pb, po, none⟩) px.length e1], .agg #[.int .i64 W, .int .i64 H, .slice (some ⟨qb, qo, none⟩) qx.length e2], .agg #[.int .i64 box.x, .int .i64 box.y, .int .i64 box.w, .int .i64 box.h], .int .i64 dx, .int .i64 dy] W1 fun e w' => e = .returned (.tuple #[.agg #[.int .i64 (toQ box dx dy).x, .int .i64 (toQ box dx dy).y, .int .i64 (toQ box dx dy).w, .int .i64 (toQ box dx dy).h], .bool (tryAt W px qx box n)]) ∧ Ext W1 w') := Lib.hid fun n dx dy W1 hs hE => by
    have h := rfits_any pb po e1 qb qo e2 W H px qx box dx dy W1 (R8.out.ext hE) (R9.out.ext hE) b1 b2 b3 b4 HPL.out HQL.out (HIN.out dx dy)
    unfold tryAt
    rw [hs]
    exact h
  clear R8 R9 HPL HQL HIN HXM HYM HXL HYL HPX HQX
  go_loopw [11] (fun dv wr => ∃ d : Nat, d ≤ N ∧ dv = .int .i64 ((d : Int) + 1) ∧ (∀ i < 4 * d, tryAt W px qx box i = false) ∧ Ext w5 wr) (fun dv _ => N + 1 - (intOf dv).toNat)
  case atStart => exact ⟨0, Nat.zero_le _, rfl, fun i hi => absurd hi (by omega), Ext.refl _⟩
  case round =>
    obtain ⟨d, hd, rfl, hno, hEd⟩ := hrel
    have HNO := Lib.hid hno
    clear hno
    obtain ⟨c8, f8⟩ := blk_rules (hEd.keep k8)
    by_cases hlt : d < N
    · have hn := (HN.out d).2 hlt
      have hs1 : IntKind.i64.wrap ((d : Int) + 1) = (d : Int) + 1 := IntWalk.i64_in _ (by omega)

      by_cases hw : (d : Int) + 1 < W
      · go_wp2_with fail
        generalize wr = wo at *
        clear c8 f8
        go_loopw [12] (fun sv wq => ∃ s : Nat, s ≤ 4 ∧ sv = .int .i64 (s : Int) ∧ (∀ i < 4 * d + s, tryAt W px qx box i = false) ∧ Ext w5 wq) (fun sv _ => 4 - (intOf sv).toNat)
        case atStart => exact ⟨0, Nat.zero_le _, rfl, fun i hi => HNO.out i (by omega), hEd⟩
        case round =>
          obtain ⟨s, hs, rfl, hno2, hEs⟩ := hrel
          have HNO2 := Lib.hid hno2
          clear hno2
          obtain ⟨c6, f6⟩ := blk_rules (hEs.keep k6)
          obtain ⟨c8, f8⟩ := blk_rules (hEs.keep k8)
          obtain ⟨c9, f9⟩ := blk_rules (hEs.keep k9)
          obtain ⟨c10, f10⟩ := blk_rules (hEs.keep k10)
          have hs4 : s = 0 ∨ s = 1 ∨ s = 2 ∨ s = 3 ∨ s = 4 := by omega
          clear hs
          have hneg : IntKind.i64.wrap (-((d : Int) + 1)) = -((d : Int) + 1) := IntWalk.i64_in _ (by omega)
          rcases hs4 with rfl | rfl | rfl | rfl | rfl
          · have hst : stepAt (4 * d + 0) = (0, ((d : Int) + 1)) := by rw [show 4 * d + 0 = 4 * d from rfl, stepAt0]; simp
            have HST := Lib.hid hst
            clear hst
            have cf := CF.out (4 * d + 0) 0 ((d : Int) + 1) wr HST.out hEs
            obtain ⟨t, ht⟩ : ∃ t, toQ box 0 ((d : Int) + 1) = t := ⟨_, rfl⟩
            rw [ht] at cf
            have HT := Lib.hid ht
            clear ht
            cases hv : tryAt W px qx box (4 * d + 0)
            · rw [hv] at cf
              have hno3 : ∀ i < 4 * d + (0 + 1), tryAt W px qx box i = false := fun i hi => by
                by_cases h : i < 4 * d + 0
                · exact HNO2.out i h
                · obtain rfl : i = 4 * d + 0 := by omega
                  exact hv
              have HNO3 := Lib.hid hno3
              clear hno3 hv
              go_wp2_with fail
              refine cf.mono ?_
              rintro e w6 ⟨rfl, E⟩
              go_wp2_with fail
              exact ⟨⟨0 + 1, by omega, rfl, HNO3.out, (hEs.trans E).alloc _⟩, by simp [intOf]⟩
            · rw [hv] at cf
              have hfp := HFP.out
              rw [find_hit HNO2.out hv _ (by omega)] at hfp
              have hcv := HCV.out
              have his := HIS.out
              rw [← hfp] at hcv his
              have HF := Lib.hid hcv
              have HF2 := Lib.hid his
              clear hfp hv hcv his
              go_wp2_with fail
              refine cf.mono ?_
              rintro e w6 ⟨rfl, E⟩
              have E6 := hE0.trans (hEs.trans E)
              have k6' := E.keep (hEs.keep k6)
              have l6 := blk_lt k6'
              clear c6 f6 c8 f8 c9 f9 c10 f10 cf
              obtain ⟨c6, f6⟩ := blk_rules k6'
              go_wp2_with fail
              refine bodyPost_ret (v := .tuple #[.agg #[.int .i64 t.x, .int .i64 t.y, .int .i64 t.w, .int .i64 t.h, .int .i64 0, .int .i64 ((d : Int) + 1)], .bool true]) (by simp only [results, Try.results53]; go_simp; done) rfl ⟨?_, ?_⟩
              · rw [← HF.out, ← HF2.out]
                unfold copyV cpTo cpBy
                dsimp only
                rw [HST.out]
                dsimp only
                rw [HT.out]
                rfl
              · repeat' (first | with_reducible exact E6 | with_reducible refine Ext.alloc ?_ _ | with_reducible refine Ext.set ?_ ?_ _ | (dsimp only; omega) | (simp; done))
          · have hst : stepAt (4 * d + 1) = (0, (-((d : Int) + 1))) := by rw [stepAt1]; simp
            have HST := Lib.hid hst
            clear hst
            have cf := CF.out (4 * d + 1) 0 (-((d : Int) + 1)) wr HST.out hEs
            obtain ⟨t, ht⟩ : ∃ t, toQ box 0 (-((d : Int) + 1)) = t := ⟨_, rfl⟩
            rw [ht] at cf
            have HT := Lib.hid ht
            clear ht
            cases hv : tryAt W px qx box (4 * d + 1)
            · rw [hv] at cf
              have hno3 : ∀ i < 4 * d + (1 + 1), tryAt W px qx box i = false := fun i hi => by
                by_cases h : i < 4 * d + 1
                · exact HNO2.out i h
                · obtain rfl : i = 4 * d + 1 := by omega
                  exact hv
              have HNO3 := Lib.hid hno3
              clear hno3 hv
              go_wp2_with fail
              refine cf.mono ?_
              rintro e w6 ⟨rfl, E⟩
              go_wp2_with fail
              exact ⟨⟨1 + 1, by omega, rfl, HNO3.out, (hEs.trans E).alloc _⟩, by simp [intOf]⟩
            · rw [hv] at cf
              have hfp := HFP.out
              rw [find_hit HNO2.out hv _ (by omega)] at hfp
              have hcv := HCV.out
              have his := HIS.out
              rw [← hfp] at hcv his
              have HF := Lib.hid hcv
              have HF2 := Lib.hid his
              clear hfp hv hcv his
              go_wp2_with fail
              refine cf.mono ?_
              rintro e w6 ⟨rfl, E⟩
              have E6 := hE0.trans (hEs.trans E)
              have k6' := E.keep (hEs.keep k6)
              have l6 := blk_lt k6'
              clear c6 f6 c8 f8 c9 f9 c10 f10 cf
              obtain ⟨c6, f6⟩ := blk_rules k6'
              go_wp2_with fail
              refine bodyPost_ret (v := .tuple #[.agg #[.int .i64 t.x, .int .i64 t.y, .int .i64 t.w, .int .i64 t.h, .int .i64 0, .int .i64 (-((d : Int) + 1))], .bool true]) (by simp only [results, Try.results53]; go_simp; done) rfl ⟨?_, ?_⟩
              · rw [← HF.out, ← HF2.out]
                unfold copyV cpTo cpBy
                dsimp only
                rw [HST.out]
                dsimp only
                rw [HT.out]
                rfl
              · repeat' (first | with_reducible exact E6 | with_reducible refine Ext.alloc ?_ _ | with_reducible refine Ext.set ?_ ?_ _ | (dsimp only; omega) | (simp; done))
          · have hst : stepAt (4 * d + 2) = (((d : Int) + 1), 0) := by rw [stepAt2]; simp
            have HST := Lib.hid hst
            clear hst
            have cf := CF.out (4 * d + 2) ((d : Int) + 1) 0 wr HST.out hEs
            obtain ⟨t, ht⟩ : ∃ t, toQ box ((d : Int) + 1) 0 = t := ⟨_, rfl⟩
            rw [ht] at cf
            have HT := Lib.hid ht
            clear ht
            cases hv : tryAt W px qx box (4 * d + 2)
            · rw [hv] at cf
              have hno3 : ∀ i < 4 * d + (2 + 1), tryAt W px qx box i = false := fun i hi => by
                by_cases h : i < 4 * d + 2
                · exact HNO2.out i h
                · obtain rfl : i = 4 * d + 2 := by omega
                  exact hv
              have HNO3 := Lib.hid hno3
              clear hno3 hv
              go_wp2_with fail
              refine cf.mono ?_
              rintro e w6 ⟨rfl, E⟩
              go_wp2_with fail
              exact ⟨⟨2 + 1, by omega, rfl, HNO3.out, (hEs.trans E).alloc _⟩, by simp [intOf]⟩
            · rw [hv] at cf
              have hfp := HFP.out
              rw [find_hit HNO2.out hv _ (by omega)] at hfp
              have hcv := HCV.out
              have his := HIS.out
              rw [← hfp] at hcv his
              have HF := Lib.hid hcv
              have HF2 := Lib.hid his
              clear hfp hv hcv his
              go_wp2_with fail
              refine cf.mono ?_
              rintro e w6 ⟨rfl, E⟩
              have E6 := hE0.trans (hEs.trans E)
              have k6' := E.keep (hEs.keep k6)
              have l6 := blk_lt k6'
              clear c6 f6 c8 f8 c9 f9 c10 f10 cf
              obtain ⟨c6, f6⟩ := blk_rules k6'
              go_wp2_with fail
              refine bodyPost_ret (v := .tuple #[.agg #[.int .i64 t.x, .int .i64 t.y, .int .i64 t.w, .int .i64 t.h, .int .i64 ((d : Int) + 1), .int .i64 0], .bool true]) (by simp only [results, Try.results53]; go_simp; done) rfl ⟨?_, ?_⟩
              · rw [← HF.out, ← HF2.out]
                unfold copyV cpTo cpBy
                dsimp only
                rw [HST.out]
                dsimp only
                rw [HT.out]
                rfl
              · repeat' (first | with_reducible exact E6 | with_reducible refine Ext.alloc ?_ _ | with_reducible refine Ext.set ?_ ?_ _ | (dsimp only; omega) | (simp; done))
          · have hst : stepAt (4 * d + 3) = ((-((d : Int) + 1)), 0) := by rw [stepAt3]; simp
            have HST := Lib.hid hst
            clear hst
            have cf := CF.out (4 * d + 3) (-((d : Int) + 1)) 0 wr HST.out hEs
            obtain ⟨t, ht⟩ : ∃ t, toQ box (-((d : Int) + 1)) 0 = t := ⟨_, rfl⟩
            rw [ht] at cf
            have HT := Lib.hid ht
            clear ht
            cases hv : tryAt W px qx box (4 * d + 3)
            · rw [hv] at cf
              have hno3 : ∀ i < 4 * d + (3 + 1), tryAt W px qx box i = false := fun i hi => by
                by_cases h : i < 4 * d + 3
                · exact HNO2.out i h
                · obtain rfl : i = 4 * d + 3 := by omega
                  exact hv
              have HNO3 := Lib.hid hno3
              clear hno3 hv
              go_wp2_with fail
              refine cf.mono ?_
              rintro e w6 ⟨rfl, E⟩
              go_wp2_with fail
              exact ⟨⟨3 + 1, by omega, rfl, HNO3.out, (hEs.trans E).alloc _⟩, by simp [intOf]⟩
            · rw [hv] at cf
              have hfp := HFP.out
              rw [find_hit HNO2.out hv _ (by omega)] at hfp
              have hcv := HCV.out
              have his := HIS.out
              rw [← hfp] at hcv his
              have HF := Lib.hid hcv
              have HF2 := Lib.hid his
              clear hfp hv hcv his
              go_wp2_with fail
              refine cf.mono ?_
              rintro e w6 ⟨rfl, E⟩
              have E6 := hE0.trans (hEs.trans E)
              have k6' := E.keep (hEs.keep k6)
              have l6 := blk_lt k6'
              clear c6 f6 c8 f8 c9 f9 c10 f10 cf
              obtain ⟨c6, f6⟩ := blk_rules k6'
              go_wp2_with fail
              refine bodyPost_ret (v := .tuple #[.agg #[.int .i64 t.x, .int .i64 t.y, .int .i64 t.w, .int .i64 t.h, .int .i64 (-((d : Int) + 1)), .int .i64 0], .bool true]) (by simp only [results, Try.results53]; go_simp; done) rfl ⟨?_, ?_⟩
              · rw [← HF.out, ← HF2.out]
                unfold copyV cpTo cpBy
                dsimp only
                rw [HST.out]
                dsimp only
                rw [HT.out]
                rfl
              · repeat' (first | with_reducible exact E6 | with_reducible refine Ext.alloc ?_ _ | with_reducible refine Ext.set ?_ ?_ _ | (dsimp only; omega) | (simp; done))
          · clear c6 f6 c8 f8 c9 f9 c10 f10
            have hno3 : ∀ i < 4 * (d + 1), tryAt W px qx box i = false := fun i hi => HNO2.out i (by omega)
            have HNO3 := Lib.hid hno3
            clear hno3
            go_wp2_with fail
            exact ⟨⟨d + 1, by omega, by go_num, HNO3.out, hEs⟩, by simp [intOf]; omega⟩
      · have hh : (d : Int) + 1 < H := by omega
        go_wp2_with fail
        generalize wr = wo at *
        clear c8 f8
        go_loopw [12] (fun sv wq => ∃ s : Nat, s ≤ 4 ∧ sv = .int .i64 (s : Int) ∧ (∀ i < 4 * d + s, tryAt W px qx box i = false) ∧ Ext w5 wq) (fun sv _ => 4 - (intOf sv).toNat)
        case atStart => exact ⟨0, Nat.zero_le _, rfl, fun i hi => HNO.out i (by omega), hEd⟩
        case round =>
          obtain ⟨s, hs, rfl, hno2, hEs⟩ := hrel
          have HNO2 := Lib.hid hno2
          clear hno2
          obtain ⟨c6, f6⟩ := blk_rules (hEs.keep k6)
          obtain ⟨c8, f8⟩ := blk_rules (hEs.keep k8)
          obtain ⟨c9, f9⟩ := blk_rules (hEs.keep k9)
          obtain ⟨c10, f10⟩ := blk_rules (hEs.keep k10)
          have hs4 : s = 0 ∨ s = 1 ∨ s = 2 ∨ s = 3 ∨ s = 4 := by omega
          clear hs
          have hneg : IntKind.i64.wrap (-((d : Int) + 1)) = -((d : Int) + 1) := IntWalk.i64_in _ (by omega)
          rcases hs4 with rfl | rfl | rfl | rfl | rfl
          · have hst : stepAt (4 * d + 0) = (0, ((d : Int) + 1)) := by rw [show 4 * d + 0 = 4 * d from rfl, stepAt0]; simp
            have HST := Lib.hid hst
            clear hst
            have cf := CF.out (4 * d + 0) 0 ((d : Int) + 1) wr HST.out hEs
            obtain ⟨t, ht⟩ : ∃ t, toQ box 0 ((d : Int) + 1) = t := ⟨_, rfl⟩
            rw [ht] at cf
            have HT := Lib.hid ht
            clear ht
            cases hv : tryAt W px qx box (4 * d + 0)
            · rw [hv] at cf
              have hno3 : ∀ i < 4 * d + (0 + 1), tryAt W px qx box i = false := fun i hi => by
                by_cases h : i < 4 * d + 0
                · exact HNO2.out i h
                · obtain rfl : i = 4 * d + 0 := by omega
                  exact hv
              have HNO3 := Lib.hid hno3
              clear hno3 hv
              go_wp2_with fail
              refine cf.mono ?_
              rintro e w6 ⟨rfl, E⟩
              go_wp2_with fail
              exact ⟨⟨0 + 1, by omega, rfl, HNO3.out, (hEs.trans E).alloc _⟩, by simp [intOf]⟩
            · rw [hv] at cf
              have hfp := HFP.out
              rw [find_hit HNO2.out hv _ (by omega)] at hfp
              have hcv := HCV.out
              have his := HIS.out
              rw [← hfp] at hcv his
              have HF := Lib.hid hcv
              have HF2 := Lib.hid his
              clear hfp hv hcv his
              go_wp2_with fail
              refine cf.mono ?_
              rintro e w6 ⟨rfl, E⟩
              have E6 := hE0.trans (hEs.trans E)
              have k6' := E.keep (hEs.keep k6)
              have l6 := blk_lt k6'
              clear c6 f6 c8 f8 c9 f9 c10 f10 cf
              obtain ⟨c6, f6⟩ := blk_rules k6'
              go_wp2_with fail
              refine bodyPost_ret (v := .tuple #[.agg #[.int .i64 t.x, .int .i64 t.y, .int .i64 t.w, .int .i64 t.h, .int .i64 0, .int .i64 ((d : Int) + 1)], .bool true]) (by simp only [results, Try.results53]; go_simp; done) rfl ⟨?_, ?_⟩
              · rw [← HF.out, ← HF2.out]
                unfold copyV cpTo cpBy
                dsimp only
                rw [HST.out]
                dsimp only
                rw [HT.out]
                rfl
              · repeat' (first | with_reducible exact E6 | with_reducible refine Ext.alloc ?_ _ | with_reducible refine Ext.set ?_ ?_ _ | (dsimp only; omega) | (simp; done))
          · have hst : stepAt (4 * d + 1) = (0, (-((d : Int) + 1))) := by rw [stepAt1]; simp
            have HST := Lib.hid hst
            clear hst
            have cf := CF.out (4 * d + 1) 0 (-((d : Int) + 1)) wr HST.out hEs
            obtain ⟨t, ht⟩ : ∃ t, toQ box 0 (-((d : Int) + 1)) = t := ⟨_, rfl⟩
            rw [ht] at cf
            have HT := Lib.hid ht
            clear ht
            cases hv : tryAt W px qx box (4 * d + 1)
            · rw [hv] at cf
              have hno3 : ∀ i < 4 * d + (1 + 1), tryAt W px qx box i = false := fun i hi => by
                by_cases h : i < 4 * d + 1
                · exact HNO2.out i h
                · obtain rfl : i = 4 * d + 1 := by omega
                  exact hv
              have HNO3 := Lib.hid hno3
              clear hno3 hv
              go_wp2_with fail
              refine cf.mono ?_
              rintro e w6 ⟨rfl, E⟩
              go_wp2_with fail
              exact ⟨⟨1 + 1, by omega, rfl, HNO3.out, (hEs.trans E).alloc _⟩, by simp [intOf]⟩
            · rw [hv] at cf
              have hfp := HFP.out
              rw [find_hit HNO2.out hv _ (by omega)] at hfp
              have hcv := HCV.out
              have his := HIS.out
              rw [← hfp] at hcv his
              have HF := Lib.hid hcv
              have HF2 := Lib.hid his
              clear hfp hv hcv his
              go_wp2_with fail
              refine cf.mono ?_
              rintro e w6 ⟨rfl, E⟩
              have E6 := hE0.trans (hEs.trans E)
              have k6' := E.keep (hEs.keep k6)
              have l6 := blk_lt k6'
              clear c6 f6 c8 f8 c9 f9 c10 f10 cf
              obtain ⟨c6, f6⟩ := blk_rules k6'
              go_wp2_with fail
              refine bodyPost_ret (v := .tuple #[.agg #[.int .i64 t.x, .int .i64 t.y, .int .i64 t.w, .int .i64 t.h, .int .i64 0, .int .i64 (-((d : Int) + 1))], .bool true]) (by simp only [results, Try.results53]; go_simp; done) rfl ⟨?_, ?_⟩
              · rw [← HF.out, ← HF2.out]
                unfold copyV cpTo cpBy
                dsimp only
                rw [HST.out]
                dsimp only
                rw [HT.out]
                rfl
              · repeat' (first | with_reducible exact E6 | with_reducible refine Ext.alloc ?_ _ | with_reducible refine Ext.set ?_ ?_ _ | (dsimp only; omega) | (simp; done))
          · have hst : stepAt (4 * d + 2) = (((d : Int) + 1), 0) := by rw [stepAt2]; simp
            have HST := Lib.hid hst
            clear hst
            have cf := CF.out (4 * d + 2) ((d : Int) + 1) 0 wr HST.out hEs
            obtain ⟨t, ht⟩ : ∃ t, toQ box ((d : Int) + 1) 0 = t := ⟨_, rfl⟩
            rw [ht] at cf
            have HT := Lib.hid ht
            clear ht
            cases hv : tryAt W px qx box (4 * d + 2)
            · rw [hv] at cf
              have hno3 : ∀ i < 4 * d + (2 + 1), tryAt W px qx box i = false := fun i hi => by
                by_cases h : i < 4 * d + 2
                · exact HNO2.out i h
                · obtain rfl : i = 4 * d + 2 := by omega
                  exact hv
              have HNO3 := Lib.hid hno3
              clear hno3 hv
              go_wp2_with fail
              refine cf.mono ?_
              rintro e w6 ⟨rfl, E⟩
              go_wp2_with fail
              exact ⟨⟨2 + 1, by omega, rfl, HNO3.out, (hEs.trans E).alloc _⟩, by simp [intOf]⟩
            · rw [hv] at cf
              have hfp := HFP.out
              rw [find_hit HNO2.out hv _ (by omega)] at hfp
              have hcv := HCV.out
              have his := HIS.out
              rw [← hfp] at hcv his
              have HF := Lib.hid hcv
              have HF2 := Lib.hid his
              clear hfp hv hcv his
              go_wp2_with fail
              refine cf.mono ?_
              rintro e w6 ⟨rfl, E⟩
              have E6 := hE0.trans (hEs.trans E)
              have k6' := E.keep (hEs.keep k6)
              have l6 := blk_lt k6'
              clear c6 f6 c8 f8 c9 f9 c10 f10 cf
              obtain ⟨c6, f6⟩ := blk_rules k6'
              go_wp2_with fail
              refine bodyPost_ret (v := .tuple #[.agg #[.int .i64 t.x, .int .i64 t.y, .int .i64 t.w, .int .i64 t.h, .int .i64 ((d : Int) + 1), .int .i64 0], .bool true]) (by simp only [results, Try.results53]; go_simp; done) rfl ⟨?_, ?_⟩
              · rw [← HF.out, ← HF2.out]
                unfold copyV cpTo cpBy
                dsimp only
                rw [HST.out]
                dsimp only
                rw [HT.out]
                rfl
              · repeat' (first | with_reducible exact E6 | with_reducible refine Ext.alloc ?_ _ | with_reducible refine Ext.set ?_ ?_ _ | (dsimp only; omega) | (simp; done))
          · have hst : stepAt (4 * d + 3) = ((-((d : Int) + 1)), 0) := by rw [stepAt3]; simp
            have HST := Lib.hid hst
            clear hst
            have cf := CF.out (4 * d + 3) (-((d : Int) + 1)) 0 wr HST.out hEs
            obtain ⟨t, ht⟩ : ∃ t, toQ box (-((d : Int) + 1)) 0 = t := ⟨_, rfl⟩
            rw [ht] at cf
            have HT := Lib.hid ht
            clear ht
            cases hv : tryAt W px qx box (4 * d + 3)
            · rw [hv] at cf
              have hno3 : ∀ i < 4 * d + (3 + 1), tryAt W px qx box i = false := fun i hi => by
                by_cases h : i < 4 * d + 3
                · exact HNO2.out i h
                · obtain rfl : i = 4 * d + 3 := by omega
                  exact hv
              have HNO3 := Lib.hid hno3
              clear hno3 hv
              go_wp2_with fail
              refine cf.mono ?_
              rintro e w6 ⟨rfl, E⟩
              go_wp2_with fail
              exact ⟨⟨3 + 1, by omega, rfl, HNO3.out, (hEs.trans E).alloc _⟩, by simp [intOf]⟩
            · rw [hv] at cf
              have hfp := HFP.out
              rw [find_hit HNO2.out hv _ (by omega)] at hfp
              have hcv := HCV.out
              have his := HIS.out
              rw [← hfp] at hcv his
              have HF := Lib.hid hcv
              have HF2 := Lib.hid his
              clear hfp hv hcv his
              go_wp2_with fail
              refine cf.mono ?_
              rintro e w6 ⟨rfl, E⟩
              have E6 := hE0.trans (hEs.trans E)
              have k6' := E.keep (hEs.keep k6)
              have l6 := blk_lt k6'
              clear c6 f6 c8 f8 c9 f9 c10 f10 cf
              obtain ⟨c6, f6⟩ := blk_rules k6'
              go_wp2_with fail
              refine bodyPost_ret (v := .tuple #[.agg #[.int .i64 t.x, .int .i64 t.y, .int .i64 t.w, .int .i64 t.h, .int .i64 (-((d : Int) + 1)), .int .i64 0], .bool true]) (by simp only [results, Try.results53]; go_simp; done) rfl ⟨?_, ?_⟩
              · rw [← HF.out, ← HF2.out]
                unfold copyV cpTo cpBy
                dsimp only
                rw [HST.out]
                dsimp only
                rw [HT.out]
                rfl
              · repeat' (first | with_reducible exact E6 | with_reducible refine Ext.alloc ?_ _ | with_reducible refine Ext.set ?_ ?_ _ | (dsimp only; omega) | (simp; done))
          · clear c6 f6 c8 f8 c9 f9 c10 f10
            have hno3 : ∀ i < 4 * (d + 1), tryAt W px qx box i = false := fun i hi => HNO2.out i (by omega)
            have HNO3 := Lib.hid hno3
            clear hno3
            go_wp2_with fail
            exact ⟨⟨d + 1, by omega, by go_num, HNO3.out, hEs⟩, by simp [intOf]; omega⟩
    · have hn : ¬ ((d : Int) + 1 < W ∨ (d : Int) + 1 < H) := fun h => hlt ((HN.out d).1 h)
      have hw : ¬ (d : Int) + 1 < W := fun h => hn (.inl h)
      have hh : ¬ (d : Int) + 1 < H := fun h => hn (.inr h)
      have hfp := HFP.out
      rw [find_miss (fun i hi => HNO.out i (by omega))] at hfp
      have hcv := HCV.out
      have his := HIS.out
      rw [← hfp] at hcv his
      have HF := Lib.hid hcv
      have HF2 := Lib.hid his
      clear hfp hn hcv his
      obtain ⟨c6, f6⟩ := blk_rules (hEd.keep k6)
      have l6 := blk_lt (hEd.keep k6)
      go_wp2_with fail
      refine bodyPost_ret (v := .tuple #[.agg #[.int .i64 0, .int .i64 0, .int .i64 0, .int .i64 0, .int .i64 0, .int .i64 0], .bool false]) (by simp only [results, Try.results53]; go_simp; done) rfl ⟨?_, ?_⟩
      · rw [← HF.out, ← HF2.out]
        rfl
      · repeat' (first | with_reducible exact hE0.trans hEd | with_reducible refine Ext.set ?_ ?_ _ | (dsimp only; omega) | (simp; done))
end Go.Proofs.Ytjghghbldifhaaa
set_option linter.unusedVariables false
set_option linter.unusedSimpArgs false
namespace Go.Proofs.Ytjghghbldifhaaa
open Go.RowKit
set_option maxRecDepth 100000 in
set_option maxHeartbeats 16000000 in
theorem rscroll_no1 (A A' lA : Option Addr) (ca cb lc m n k : Nat) (W H W' H' : Int) (box : Rect) (w : World) (h : isPic W H m = false) :
    Calls Try.prog 53 #[.agg #[.int .i64 W, .int .i64 H, .slice A m ca], .agg #[.int .i64 W', .int .i64 H', .slice A' n cb], .slice lA k lc] w (GivesC box none w) := by
  have hI1 := fun w => ris_any W H A ca m w
  have hI2 := fun w => ris_any W' H' A' cb n w
  simp only [h] at hI1
  unfold GivesC
  go_enter Try.func53, Try.ntmps53
  go_wp2_with fail
  obtain ⟨w0, hw0⟩ : ∃ x, x = ((w.alloc (.cells #[.int .i64 W, .int .i64 H, .slice A m ca] 43)).alloc (.cells #[.int .i64 W', .int .i64 H', .slice A' n cb] 43)).alloc (.cells #[.int .i64 0, .int .i64 0, .int .i64 0, .int .i64 0, .int .i64 0, .int .i64 0] 54) := ⟨_, rfl⟩
  have k3 : w0.heap[w.heap.size]? = some (.cells #[.int .i64 W, .int .i64 H, .slice A m ca] 43 (0, 0)) := by rw [hw0]; exact blk_old (blk_old (blk_new w _) _) _
  have k4 : w0.heap[w.heap.size + 1]? = some (.cells #[.int .i64 W', .int .i64 H', .slice A' n cb] 43 (0, 0)) := by rw [hw0]; exact blk_old (blk_new1 w _ _) _
  have k6 : w0.heap[w.heap.size + 1 + 1]? = some (.cells #[.int .i64 0, .int .i64 0, .int .i64 0, .int .i64 0, .int .i64 0, .int .i64 0] 54 (0, 0)) := by rw [hw0]; exact blk_new2 w _ _ _
  have hE0 : Ext w w0 := by rw [hw0]; exact (((Ext.refl w).alloc _).alloc _).alloc _
  rw [← hw0]
  clear hw0
  refine (hI1 _).mono ?_
  rintro e w1 ⟨rfl, E⟩
  replace k3 := E.keep k3
  replace k4 := E.keep k4
  replace k6 := E.keep k6
  replace hE0 := hE0.trans E
  clear E hI1
  obtain ⟨c3, f3⟩ := blk_rules k3
  obtain ⟨c4, f4⟩ := blk_rules k4
  obtain ⟨c6, f6⟩ := blk_rules k6
  have l6 := blk_lt k6
  go_wp2_with fail
  refine bodyPost_ret (v := .tuple #[.agg #[.int .i64 0, .int .i64 0, .int .i64 0, .int .i64 0, .int .i64 0, .int .i64 0], .bool false]) (by simp only [results, Try.results53]; go_simp; done) rfl ⟨rfl, ?_⟩
  repeat' (first | with_reducible exact hE0 | with_reducible refine Ext.set ?_ ?_ _ | (dsimp only; omega) | (simp; done))
set_option maxRecDepth 100000 in
set_option maxHeartbeats 16000000 in
theorem rscroll_no2 (A A' lA : Option Addr) (ca cb lc m n k : Nat) (W H W' H' : Int) (box : Rect) (w : World) (h : isPic W H m = true) (h2 : isPic W' H' n = false) :
    Calls Try.prog 53 #[.agg #[.int .i64 W, .int .i64 H, .slice A m ca], .agg #[.int .i64 W', .int .i64 H', .slice A' n cb], .slice lA k lc] w (GivesC box none w) := by
  have hI1 := fun w => ris_any W H A ca m w
  have hI2 := fun w => ris_any W' H' A' cb n w
  simp only [h] at hI1
  simp only [h2] at hI2
  unfold GivesC
  go_enter Try.func53, Try.ntmps53
  go_wp2_with fail
  obtain ⟨w0, hw0⟩ : ∃ x, x = ((w.alloc (.cells #[.int .i64 W, .int .i64 H, .slice A m ca] 43)).alloc (.cells #[.int .i64 W', .int .i64 H', .slice A' n cb] 43)).alloc (.cells #[.int .i64 0, .int .i64 0, .int .i64 0, .int .i64 0, .int .i64 0, .int .i64 0] 54) := ⟨_, rfl⟩
  have k3 : w0.heap[w.heap.size]? = some (.cells #[.int .i64 W, .int .i64 H, .slice A m ca] 43 (0, 0)) := by rw [hw0]; exact blk_old (blk_old (blk_new w _) _) _
  have k4 : w0.heap[w.heap.size + 1]? = some (.cells #[.int .i64 W', .int .i64 H', .slice A' n cb] 43 (0, 0)) := by rw [hw0]; exact blk_old (blk_new1 w _ _) _
  have k6 : w0.heap[w.heap.size + 1 + 1]? = some (.cells #[.int .i64 0, .int .i64 0, .int .i64 0, .int .i64 0, .int .i64 0, .int .i64 0] 54 (0, 0)) := by rw [hw0]; exact blk_new2 w _ _ _
  have hE0 : Ext w w0 := by rw [hw0]; exact (((Ext.refl w).alloc _).alloc _).alloc _
  rw [← hw0]
  clear hw0
  refine (hI1 _).mono ?_
  rintro e w1 ⟨rfl, E⟩
  replace k3 := E.keep k3
  replace k4 := E.keep k4
  replace k6 := E.keep k6
  replace hE0 := hE0.trans E
  clear E hI1
  obtain ⟨c3, f3⟩ := blk_rules k3
  obtain ⟨c4, f4⟩ := blk_rules k4
  obtain ⟨c6, f6⟩ := blk_rules k6
  have l6 := blk_lt k6
  go_wp2_with fail
  clear c3 f3 c4 f4 c6 f6 l6
  refine (hI2 _).mono ?_
  rintro e w2 ⟨rfl, E⟩
  replace k3 := E.keep k3
  replace k4 := E.keep k4
  replace k6 := E.keep k6
  replace hE0 := hE0.trans E
  clear E hI2
  obtain ⟨c3, f3⟩ := blk_rules k3
  obtain ⟨c4, f4⟩ := blk_rules k4
  obtain ⟨c6, f6⟩ := blk_rules k6
  have l6 := blk_lt k6
  go_wp2_with fail
  refine bodyPost_ret (v := .tuple #[.agg #[.int .i64 0, .int .i64 0, .int .i64 0, .int .i64 0, .int .i64 0, .int .i64 0], .bool false]) (by simp only [results, Try.results53]; go_simp; done) rfl ⟨rfl, ?_⟩
  repeat' (first | with_reducible exact hE0 | with_reducible refine Ext.set ?_ ?_ _ | (dsimp only; omega) | (simp; done))
set_option maxRecDepth 100000 in
set_option maxHeartbeats 16000000 in
theorem rscroll_no3 (A A' lA : Option Addr) (ca cb lc m n k : Nat) (W H W' H' : Int) (box : Rect) (w : World) (h : isPic W H m = true) (h2 : isPic W' H' n = true) (h3 : W ≠ W') :
    Calls Try.prog 53 #[.agg #[.int .i64 W, .int .i64 H, .slice A m ca], .agg #[.int .i64 W', .int .i64 H', .slice A' n cb], .slice lA k lc] w (GivesC box none w) := by
  have hI1 := fun w => ris_any W H A ca m w
  have hI2 := fun w => ris_any W' H' A' cb n w
  simp only [h] at hI1
  simp only [h2] at hI2
  have dW : (W != W') = true := by simpa using h3
  unfold GivesC
  go_enter Try.func53, Try.ntmps53
  go_wp2_with fail
  obtain ⟨w0, hw0⟩ : ∃ x, x = ((w.alloc (.cells #[.int .i64 W, .int .i64 H, .slice A m ca] 43)).alloc (.cells #[.int .i64 W', .int .i64 H', .slice A' n cb] 43)).alloc (.cells #[.int .i64 0, .int .i64 0, .int .i64 0, .int .i64 0, .int .i64 0, .int .i64 0] 54) := ⟨_, rfl⟩
  have k3 : w0.heap[w.heap.size]? = some (.cells #[.int .i64 W, .int .i64 H, .slice A m ca] 43 (0, 0)) := by rw [hw0]; exact blk_old (blk_old (blk_new w _) _) _
  have k4 : w0.heap[w.heap.size + 1]? = some (.cells #[.int .i64 W', .int .i64 H', .slice A' n cb] 43 (0, 0)) := by rw [hw0]; exact blk_old (blk_new1 w _ _) _
  have k6 : w0.heap[w.heap.size + 1 + 1]? = some (.cells #[.int .i64 0, .int .i64 0, .int .i64 0, .int .i64 0, .int .i64 0, .int .i64 0] 54 (0, 0)) := by rw [hw0]; exact blk_new2 w _ _ _
  have hE0 : Ext w w0 := by rw [hw0]; exact (((Ext.refl w).alloc _).alloc _).alloc _
  rw [← hw0]
  clear hw0
  refine (hI1 _).mono ?_
  rintro e w1 ⟨rfl, E⟩
  replace k3 := E.keep k3
  replace k4 := E.keep k4
  replace k6 := E.keep k6
  replace hE0 := hE0.trans E
  clear E hI1
  obtain ⟨c3, f3⟩ := blk_rules k3
  obtain ⟨c4, f4⟩ := blk_rules k4
  obtain ⟨c6, f6⟩ := blk_rules k6
  have l6 := blk_lt k6
  go_wp2_with fail
  clear c3 f3 c4 f4 c6 f6 l6
  refine (hI2 _).mono ?_
  rintro e w2 ⟨rfl, E⟩
  replace k3 := E.keep k3
  replace k4 := E.keep k4
  replace k6 := E.keep k6
  replace hE0 := hE0.trans E
  clear E hI2
  obtain ⟨c3, f3⟩ := blk_rules k3
  obtain ⟨c4, f4⟩ := blk_rules k4
  obtain ⟨c6, f6⟩ := blk_rules k6
  have l6 := blk_lt k6
  go_wp2_with fail
  refine bodyPost_ret (v := .tuple #[.agg #[.int .i64 0, .int .i64 0, .int .i64 0, .int .i64 0, .int .i64 0, .int .i64 0], .bool false]) (by simp only [results, Try.results53]; go_simp; done) rfl ⟨rfl, ?_⟩
  repeat' (first | with_reducible exact hE0 | with_reducible refine Ext.set ?_ ?_ _ | (dsimp only; omega) | (simp; done))
set_option maxRecDepth 100000 in
set_option maxHeartbeats 16000000 in
theorem rscroll_no4 (A A' lA : Option Addr) (ca cb lc m n k : Nat) (W H W' H' : Int) (box : Rect) (w : World) (h : isPic W H m = true) (h2 : isPic W' H' n = true) (h3 : W = W') (h4 : H ≠ H') :
    Calls Try.prog 53 #[.agg #[.int .i64 W, .int .i64 H, .slice A m ca], .agg #[.int .i64 W', .int .i64 H', .slice A' n cb], .slice lA k lc] w (GivesC box none w) := by
  have hI1 := fun w => ris_any W H A ca m w
  have hI2 := fun w => ris_any W' H' A' cb n w
  simp only [h] at hI1
  simp only [h2] at hI2
  have dW : (W != W') = false := by simpa using h3
  have dH : (H != H') = true := by simpa using h4
  clear h3
  unfold GivesC
  go_enter Try.func53, Try.ntmps53
  go_wp2_with fail
  obtain ⟨w0, hw0⟩ : ∃ x, x = ((w.alloc (.cells #[.int .i64 W, .int .i64 H, .slice A m ca] 43)).alloc (.cells #[.int .i64 W', .int .i64 H', .slice A' n cb] 43)).alloc (.cells #[.int .i64 0, .int .i64 0, .int .i64 0, .int .i64 0, .int .i64 0, .int .i64 0] 54) := ⟨_, rfl⟩
  have k3 : w0.heap[w.heap.size]? = some (.cells #[.int .i64 W, .int .i64 H, .slice A m ca] 43 (0, 0)) := by rw [hw0]; exact blk_old (blk_old (blk_new w _) _) _
  have k4 : w0.heap[w.heap.size + 1]? = some (.cells #[.int .i64 W', .int .i64 H', .slice A' n cb] 43 (0, 0)) := by rw [hw0]; exact blk_old (blk_new1 w _ _) _
  have k6 : w0.heap[w.heap.size + 1 + 1]? = some (.cells #[.int .i64 0, .int .i64 0, .int .i64 0, .int .i64 0, .int .i64 0, .int .i64 0] 54 (0, 0)) := by rw [hw0]; exact blk_new2 w _ _ _
  have hE0 : Ext w w0 := by rw [hw0]; exact (((Ext.refl w).alloc _).alloc _).alloc _
  rw [← hw0]
  clear hw0
  refine (hI1 _).mono ?_
  rintro e w1 ⟨rfl, E⟩
  replace k3 := E.keep k3
  replace k4 := E.keep k4
  replace k6 := E.keep k6
  replace hE0 := hE0.trans E
  clear E hI1
  obtain ⟨c3, f3⟩ := blk_rules k3
  obtain ⟨c4, f4⟩ := blk_rules k4
  obtain ⟨c6, f6⟩ := blk_rules k6
  have l6 := blk_lt k6
  go_wp2_with fail
  clear c3 f3 c4 f4 c6 f6 l6
  refine (hI2 _).mono ?_
  rintro e w2 ⟨rfl, E⟩
  replace k3 := E.keep k3
  replace k4 := E.keep k4
  replace k6 := E.keep k6
  replace hE0 := hE0.trans E
  clear E hI2
  obtain ⟨c3, f3⟩ := blk_rules k3
  obtain ⟨c4, f4⟩ := blk_rules k4
  obtain ⟨c6, f6⟩ := blk_rules k6
  have l6 := blk_lt k6
  go_wp2_with fail
  refine bodyPost_ret (v := .tuple #[.agg #[.int .i64 0, .int .i64 0, .int .i64 0, .int .i64 0, .int .i64 0, .int .i64 0], .bool false]) (by simp only [results, Try.results53]; go_simp; done) rfl ⟨rfl, ?_⟩
  repeat' (first | with_reducible exact hE0 | with_reducible refine Ext.set ?_ ?_ _ | (dsimp only; omega) | (simp; done))
theorem rscroll_any (A A' lA : Option Addr) (ca cb lc : Nat) (W H W' H' : Int) (xs ys : List Int) (l : List Rect) (w : World) (rx : Reads .u32 w A xs) (ry : Reads .u32 w A' ys) (hx : ∀ x ∈ xs, 0 ≤ x ∧ x ≤ 4294967295) (hy : ∀ x ∈ ys, 0 ≤ x ∧ x ≤ 4294967295) (rl : RectsAt w lA l) (hl : l.length ≤ 100000) :
    Calls Try.prog 53 #[.agg #[.int .i64 W, .int .i64 H, .slice A xs.length ca], .agg #[.int .i64 W', .int .i64 H', .slice A' ys.length cb], .slice lA l.length lc] w (GivesC (boxOf W H l) (scrollOf W H xs W' H' ys l) w) := by
  unfold scrollOf
  cases h : isPic W H xs.length
  · exact rscroll_no1 A A' lA ca cb lc _ _ _ W H W' H' _ w h
  · cases h2 : isPic W' H' ys.length
    · exact rscroll_no2 A A' lA ca cb lc _ _ _ W H W' H' _ w h h2
    · by_cases h3 : W = W'
      · by_cases h4 : H = H'
        · subst h3
          subst h4
          rw [if_pos (by simp)]
          exact rscroll_good A A' lA ca cb lc W H xs ys l w h h2 rx ry hx hy rl hl
        · rw [if_neg (by simp [h4])]
          exact rscroll_no4 A A' lA ca cb lc _ _ _ W H W' H' _ w h h2 h3 h4
      · rw [if_neg (by simp [h3])]
        exact rscroll_no3 A A' lA ca cb lc _ _ _ W H W' H' _ w h h2 h3
end Go.Proofs.Ytjghghbldifhaaa
