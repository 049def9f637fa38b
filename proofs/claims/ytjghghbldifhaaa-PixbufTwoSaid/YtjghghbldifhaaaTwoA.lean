/- The law PixbufTwo. Printed by gen_two.py. -/
import Derived.Test.YtjghghbldifhaaaLawT
import Derived.Test.YtjghghbldifhaaaPairT
set_option linter.unusedVariables false
set_option linter.unusedSimpArgs false
namespace Go.Proofs.Ytjghghbldifhaaa
open Go.RowKit

theorem picEq_self (W H : Int) (xs : List Int) : picEq W H xs W H xs = true := by simp [picEq, eqL]
set_option maxRecDepth 100000 in
set_option maxHeartbeats 32000000 in
theorem two_in (W H W' H' : Int) (A A' : Option Addr) (c c' : Nat) (xs ys : List Int) (p q : Int) (w : World) (rx : Reads .u32 w A xs) (ry : Reads .u32 w A' ys) (hx : ∀ x ∈ xs, 0 ≤ x ∧ x ≤ 4294967295) (hy : ∀ x ∈ ys, 0 ≤ x ∧ x ≤ 4294967295) (hxn : xs.length ≤ 1000) (hyn : ys.length ≤ 1000) :
    Calls Try.prog 11 #[.agg #[.int .i64 W, .int .i64 H, .slice A xs.length c], .agg #[.int .i64 W', .int .i64 H', .slice A' ys.length c'], .int .i64 p, .int .i64 q] w fun e w' => e = .returned (.bool true) ∧ Ext w w' := by
  have RX := Lib.hid rx
  have RY := Lib.hid ry
  have HX := Lib.hid hx
  have HY := Lib.hid hy
  clear rx ry hx hy
  have g1 := fun w => great_nil W H A c xs.length w (by omega)
  have g2 := fun w => great_nil W' H' A' c' ys.length w (by omega)
  simp only [decide_eq_false (show ¬ 1000 < xs.length by omega)] at g1
  simp only [decide_eq_false (show ¬ 1000 < ys.length by omega)] at g2
  go_enter Try.func11, Try.ntmps11
  go_wp2_with fail
  refine (g1 _).mono ?_
  rintro e w1 ⟨rfl, E⟩
  have ka := E.keep (blk_old (blk_new w (.cells #[.int .i64 W, .int .i64 H, .slice A xs.length c] 43)) (.cells #[.int .i64 W', .int .i64 H', .slice A' ys.length c'] 43))
  have kb := E.keep (blk_new1 w (.cells #[.int .i64 W, .int .i64 H, .slice A xs.length c] 43) (.cells #[.int .i64 W', .int .i64 H', .slice A' ys.length c'] 43))
  have hE : Ext w w1 := Ext.of_allocs2 E
  clear E g1
  obtain ⟨c0, f0⟩ := blk_rules ka
  obtain ⟨c1, f1⟩ := blk_rules kb
  go_wp2_with fail
  refine (g2 _).mono ?_
  rintro e w2 ⟨rfl, E⟩
  replace ka := E.keep ka
  replace kb := E.keep kb
  replace hE := hE.trans E
  clear E g2 c0 f0 c1 f1
  obtain ⟨c0, f0⟩ := blk_rules ka
  obtain ⟨c1, f1⟩ := blk_rules kb
  go_wp2_with fail
  cases hs : okSize p q
  · refine (new_bad p q _ hs).mono ?_
    rintro e w3 ⟨rfl, rfl⟩
    go_wp2_with fail
    refine (rnew_bad p q _ hs).mono ?_
    rintro e w4 ⟨rfl, E⟩
    replace ka := blk_old (E.keep ka) (.cells #[.int .i64 0, .int .i64 0, .slice none 0 0] 43)
    replace kb := blk_old (E.keep kb) (.cells #[.int .i64 0, .int .i64 0, .slice none 0 0] 43)
    replace hE := (hE.trans E).alloc (.cells #[.int .i64 0, .int .i64 0, .slice none 0 0] 43)
    clear E c0 f0 c1 f1
    go_wp2_with fail
    generalize w4.alloc (.cells #[.int .i64 0, .int .i64 0, .slice none 0 0] 43) = w5 at *
    go_quiet (fail)
    replace ka : (w5.drewN nq).heap[w.heap.size]? = _ := ka
    replace kb : (w5.drewN nq).heap[w.heap.size + 1]? = _ := kb
    replace hE := hE.drewN nq
    generalize w5.drewN nq = w6 at *
    obtain ⟨c0, f0⟩ := blk_rules ka
    obtain ⟨c1, f1⟩ := blk_rules kb
    go_wp2_with fail
    have him := fun w => ris_any W H A c xs.length w
    have hio := fun w => ris_any W' H' A' c' ys.length w
    cases hm : isPic W H xs.length
    · rw [hm] at him
      refine (from_bad W H A c xs _ hm).mono ?_
      rintro e w7 ⟨rfl, E⟩
      replace ka := E.keep ka
      replace kb := E.keep kb
      replace hE := hE.trans E
      clear E c0 f0 c1 f1
      obtain ⟨c0, f0⟩ := blk_rules ka
      obtain ⟨c1, f1⟩ := blk_rules kb
      go_wp2_with fail
      cases ho : isPic W' H' ys.length
      · rw [ho] at hio
        refine (from_bad W' H' A' c' ys _ ho).mono ?_
        rintro e w8 ⟨rfl, E⟩
        replace ka := E.keep ka
        replace kb := E.keep kb
        replace hE := hE.trans E
        clear E c0 f0 c1 f1
        obtain ⟨c0, f0⟩ := blk_rules ka
        obtain ⟨c1, f1⟩ := blk_rules kb
        go_wp2_with fail
        refine (diff_nl none _).mono ?_
        rintro e w9 ⟨rfl, E⟩
        replace ka := E.keep ka
        replace kb := E.keep kb
        replace hE := hE.trans E
        clear E c0 f0 c1 f1
        obtain ⟨c0, f0⟩ := blk_rules ka
        obtain ⟨c1, f1⟩ := blk_rules kb
        go_wp2_with fail
        refine (him _).mono ?_
        rintro e w10 ⟨rfl, E⟩
        replace ka := E.keep ka
        replace kb := E.keep kb
        replace hE := hE.trans E
        clear E c0 f0 c1 f1
        obtain ⟨c0, f0⟩ := blk_rules ka
        obtain ⟨c1, f1⟩ := blk_rules kb
        go_wp2_with fail
        have j0 := After.blk ka
        have j1 := After.blk kb
        refine wp_region_after (by kernel_rfl) (by kernel_rfl) ?_
        repeat (go_big_quiet_step (first | with_reducible exact (Calls.after_same (same_nil _)) | with_reducible exact Calls.after (him _) | with_reducible exact Calls.after (hio _) | with_reducible exact Calls.after (wakes3_any _)))
        refine wpQuiet_nil ?_
        intro _ hw'
        obtain ⟨z, rfl⟩ := hw'
        clear j0 j1
        go_wp2_with fail
        go_ret
        exact ⟨rfl, hE.trans z.ext⟩
      · rw [ho] at hio
        refine (from_good W' H' A' c' ys _ ho (RY.out.ext (hE)) HY.out).mono ?_
        rintro e w8 ⟨b2, p2, cap2, rfl, hB2, E⟩
        clear hB2
        replace ka := E.keep ka
        replace kb := E.keep kb
        replace hE := hE.trans E
        clear E c0 f0 c1 f1
        obtain ⟨c0, f0⟩ := blk_rules ka
        obtain ⟨c1, f1⟩ := blk_rules kb
        go_wp2_with fail
        refine (diff_nl _ _).mono ?_
        rintro e w9 ⟨rfl, E⟩
        replace ka := E.keep ka
        replace kb := E.keep kb
        replace hE := hE.trans E
        clear E c0 f0 c1 f1
        obtain ⟨c0, f0⟩ := blk_rules ka
        obtain ⟨c1, f1⟩ := blk_rules kb
        go_wp2_with fail
        refine (him _).mono ?_
        rintro e w10 ⟨rfl, E⟩
        replace ka := E.keep ka
        replace kb := E.keep kb
        replace hE := hE.trans E
        clear E c0 f0 c1 f1
        obtain ⟨c0, f0⟩ := blk_rules ka
        obtain ⟨c1, f1⟩ := blk_rules kb
        go_wp2_with fail
        have j0 := After.blk ka
        have j1 := After.blk kb
        refine wp_region_after (by kernel_rfl) (by kernel_rfl) ?_
        repeat (go_big_quiet_step (first | with_reducible exact (Calls.after_same (same_nl _ _)) | with_reducible exact Calls.after (him _) | with_reducible exact Calls.after (hio _) | with_reducible exact Calls.after (wakes3_any _)))
        refine wpQuiet_nil ?_
        intro _ hw'
        obtain ⟨z, rfl⟩ := hw'
        clear j0 j1
        go_wp2_with fail
        go_ret
        exact ⟨rfl, hE.trans z.ext⟩
    · rw [hm] at him
      refine (from_good W H A c xs _ hm (RX.out.ext hE) HX.out).mono ?_
      rintro e w7 ⟨b1, p1, cap1, rfl, hB1, E⟩
      have HB1 := Lib.hid hB1
      clear hB1
      replace ka := E.keep ka
      replace kb := E.keep kb
      replace hE := hE.trans E
      clear E c0 f0 c1 f1
      obtain ⟨c0, f0⟩ := blk_rules ka
      obtain ⟨c1, f1⟩ := blk_rules kb
      go_wp2_with fail
      cases ho : isPic W' H' ys.length
      · rw [ho] at hio
        clear HB1
        refine (from_bad W' H' A' c' ys _ ho).mono ?_
        rintro e w8 ⟨rfl, E⟩
        replace ka := E.keep ka
        replace kb := E.keep kb
        replace hE := hE.trans E
        clear E c0 f0 c1 f1
        obtain ⟨c0, f0⟩ := blk_rules ka
        obtain ⟨c1, f1⟩ := blk_rules kb
        go_wp2_with fail
        refine (diff_nr _ _).mono ?_
        rintro e w9 ⟨rfl, E⟩
        replace ka := E.keep ka
        replace kb := E.keep kb
        replace hE := hE.trans E
        clear E c0 f0 c1 f1
        obtain ⟨c0, f0⟩ := blk_rules ka
        obtain ⟨c1, f1⟩ := blk_rules kb
        go_wp2_with fail
        refine (him _).mono ?_
        rintro e w10 ⟨rfl, E⟩
        replace ka := E.keep ka
        replace kb := E.keep kb
        replace hE := hE.trans E
        clear E c0 f0 c1 f1
        obtain ⟨c0, f0⟩ := blk_rules ka
        obtain ⟨c1, f1⟩ := blk_rules kb
        go_wp2_with fail
        refine (hio _).mono ?_
        rintro e w10 ⟨rfl, E⟩
        replace ka := E.keep ka
        replace kb := E.keep kb
        replace hE := hE.trans E
        clear E c0 f0 c1 f1
        obtain ⟨c0, f0⟩ := blk_rules ka
        obtain ⟨c1, f1⟩ := blk_rules kb
        go_wp2_with fail
        have j0 := After.blk ka
        have j1 := After.blk kb
        refine wp_region_after (by kernel_rfl) (by kernel_rfl) ?_
        repeat (go_big_quiet_step (first | with_reducible exact (Calls.after_same (same_nr _ _)) | with_reducible exact Calls.after (him _) | with_reducible exact Calls.after (hio _) | with_reducible exact Calls.after (wakes3_any _)))
        refine wpQuiet_nil ?_
        intro _ hw'
        obtain ⟨z, rfl⟩ := hw'
        clear j0 j1
        go_wp2_with fail
        go_ret
        exact ⟨rfl, hE.trans z.ext⟩
      · rw [ho] at hio
        refine (from_good W' H' A' c' ys _ ho (RY.out.ext (hE)) HY.out).mono ?_
        rintro e w8 ⟨b2, p2, cap2, rfl, hB2, E⟩
        have HB2 := Lib.hid hB2
        replace HB1 := Lib.hid (HB1.out.ext E)
        clear hB2
        replace ka := E.keep ka
        replace kb := E.keep kb
        replace hE := hE.trans E
        clear E c0 f0 c1 f1
        obtain ⟨c0, f0⟩ := blk_rules ka
        obtain ⟨c1, f1⟩ := blk_rules kb
        go_wp2_with fail
        by_cases hsz : W ≠ W' ∨ W = W' ∧ H ≠ H'
        · refine (diff_unlike HB1.out HB2.out hsz).mono ?_
          rintro e w9 ⟨rfl, E⟩
          replace HB1 := Lib.hid (HB1.out.ext E)
          replace HB2 := Lib.hid (HB2.out.ext E)
          replace ka := E.keep ka
          replace kb := E.keep kb
          replace hE := hE.trans E
          clear E c0 f0 c1 f1
          obtain ⟨c0, f0⟩ := blk_rules ka
          obtain ⟨c1, f1⟩ := blk_rules kb
          go_wp2_with fail
          refine (him _).mono ?_
          rintro e w10 ⟨rfl, E⟩
          replace HB1 := Lib.hid (HB1.out.ext E)
          replace HB2 := Lib.hid (HB2.out.ext E)
          replace ka := E.keep ka
          replace kb := E.keep kb
          replace hE := hE.trans E
          clear E c0 f0 c1 f1
          obtain ⟨c0, f0⟩ := blk_rules ka
          obtain ⟨c1, f1⟩ := blk_rules kb
          go_wp2_with fail
          refine (hio _).mono ?_
          rintro e w11 ⟨rfl, E⟩
          replace HB1 := Lib.hid (HB1.out.ext E)
          replace HB2 := Lib.hid (HB2.out.ext E)
          replace ka := E.keep ka
          replace kb := E.keep kb
          replace hE := hE.trans E
          clear E c0 f0 c1 f1 him hio
          obtain ⟨c0, f0⟩ := blk_rules ka
          obtain ⟨c1, f1⟩ := blk_rules kb
          have hsm : (W == W' && (H == H' && eqL (xs.map cut24) (ys.map cut24))) = false := by
            rcases hsz with h | ⟨h1, h2⟩
            · simp [h]
            · simp [h1, h2]
          have cs := same_any HB1.out HB2.out
          rw [hsm] at cs
          clear hsm
          rcases hsz with h | ⟨rfl, h⟩
          · have d1 : (W != W') = true := by simpa using h
            clear h
            go_wp2_with fail
            refine cs.mono ?_
            rintro e w12 ⟨rfl, E⟩
            replace hE := hE.trans E
            clear E cs HB1 HB2 c0 f0 c1 f1
            go_wp2_with fail
            refine (wakes3_any _).mono ?_
            rintro e w13 ⟨rfl, E⟩
            go_wp2_with fail
            go_ret
            exact ⟨rfl, hE.trans E⟩
          · have d1 : (W != W) = false := by simp
            have d2 : (H != H') = true := by simpa using h
            clear h
            go_wp2_with fail
            refine cs.mono ?_
            rintro e w12 ⟨rfl, E⟩
            replace hE := hE.trans E
            clear E cs HB1 HB2 c0 f0 c1 f1
            go_wp2_with fail
            refine (wakes3_any _).mono ?_
            rintro e w13 ⟨rfl, E⟩
            go_wp2_with fail
            go_ret
            exact ⟨rfl, hE.trans E⟩
        · obtain ⟨rfl, rfl⟩ : W = W' ∧ H = H' := by
            by_cases h1 : W = W'
            · by_cases h2 : H = H'
              · exact ⟨h1, h2⟩
              · exact absurd (.inr ⟨h1, h2⟩) hsz
            · exact absurd (.inl h1) hsz
          clear hsz
          have b1' := HB1.out.w1
          have b2' := HB1.out.w2
          have b3' := HB1.out.h1
          have b4' := HB1.out.h2
          obtain ⟨Wn, rfl⟩ : ∃ n : Nat, W = (n : Int) := ⟨W.toNat, by omega⟩
          obtain ⟨Hn, rfl⟩ : ∃ n : Nat, H = (n : Int) := ⟨H.toNat, by omega⟩
          have hF := unF_at (Wn := Wn) (Hn := Hn) (by omega) (by omega) (by omega) (by omega) (xs.map cut24) (ys.map cut24)
          have hI := unF_in (Wn := Wn) (Hn := Hn) (by omega) (by omega) (by omega) (by omega) (xs.map cut24) (ys.map cut24)
          refine (diff_good HB1.out HB2.out _ (Lib.hid hF) hI).mono ?_
          rintro e w9 ⟨BL, dL, rfl, hoL, hnL, E⟩
          have RL := Lib.hid (OwnR.at hoL)
          replace HB1 := Lib.hid (HB1.out.ext E)
          replace HB2 := Lib.hid (HB2.out.ext E)
          have HF := Lib.hid hF
          clear hoL hnL hF hI
          replace ka := E.keep ka
          replace kb := E.keep kb
          replace hE := hE.trans E
          clear E c0 f0 c1 f1
          obtain ⟨c0, f0⟩ := blk_rules ka
          obtain ⟨c1, f1⟩ := blk_rules kb
          go_wp2_with fail
          refine (him _).mono ?_
          rintro e w10 ⟨rfl, E⟩
          replace HB1 := Lib.hid (HB1.out.ext E)
          replace HB2 := Lib.hid (HB2.out.ext E)
          replace RL := Lib.hid (RL.out.ext E)
          replace ka := E.keep ka
          replace kb := E.keep kb
          replace hE := hE.trans E
          clear E c0 f0 c1 f1
          obtain ⟨c0, f0⟩ := blk_rules ka
          obtain ⟨c1, f1⟩ := blk_rules kb
          go_wp2_with fail
          refine (hio _).mono ?_
          rintro e w11 ⟨rfl, E⟩
          replace HB1 := Lib.hid (HB1.out.ext E)
          replace HB2 := Lib.hid (HB2.out.ext E)
          replace RL := Lib.hid (RL.out.ext E)
          replace ka := E.keep ka
          replace kb := E.keep kb
          replace hE := hE.trans E
          clear E c0 f0 c1 f1 him hio
          obtain ⟨c0, f0⟩ := blk_rules ka
          obtain ⟨c1, f1⟩ := blk_rules kb
          have d1 : ((Wn : Int) != (Wn : Int)) = false := by simp
          have d2 : ((Hn : Int) != (Hn : Int)) = false := by simp
          have hxl : (xs.map cut24).length = xs.length := by simp
          have hyl : (ys.map cut24).length = ys.length := by simp
          go_upto_region 14 with fail
          refine pairT _ _ _ _ _ _ _ _ _ _ _ _ _ _ _ _ _ _ _ _ _ _ _ _ _ _ _ _ _ _ _ _ _ _ _ _ _ _ _ _ _ _ _ _ _ _ _ _ _ _ _ _ _ _ _ _ _ _ _ _ _ _ _ _ _ _ _ _ _ _ _ _ _ _ _ _ _ _ _ _ _ _ _ _ _ _ _ _ _ _ _ _ _ _ _ _ _ _ _ _ _ _ _ _ _ _ _ _ _ _ _ _ _ _ _ _ _ _ _ _ _ _ _ _ _ _ _ _ _ _ _ _ _ _ _ _ _ _ _ _ _ _ _ _ _ _ _ _ _ _ _ _ _ _ _ _ _ _ _ _ _ _  w11 Wn Hn Wn Hn A A' c c' w.heap.size (w.heap.size + 1) xs ys _ _ ka kb (Lib.hid (RX.out.ext hE)) (Lib.hid (RY.out.ext hE)) HX HY (by omega) (by omega) ?_
          intro _ _ _ _ G1 G2 B1 B2 e1 e2 w12 k1 k2 r1 r2 E
          replace HB1 := Lib.hid (HB1.out.ext E)
          replace HB2 := Lib.hid (HB2.out.ext E)
          replace RL := Lib.hid (RL.out.ext E)
          replace hE := hE.trans E
          clear E c0 f0 c1 f1 ka kb RX RY HX HY d1 d2
          have hlen1 := HB1.out.len
          have hlen2 := HB2.out.len
          rw [← Int.natCast_mul] at hlen1 hlen2
          have hp1 : 1 ≤ Wn * Hn := Nat.mul_pos (by omega) (by omega)
          obtain ⟨px, hpx⟩ : ∃ px, xs.map cut24 = px := ⟨_, rfl⟩
          obtain ⟨qx, hqx⟩ : ∃ qx, ys.map cut24 = qx := ⟨_, rfl⟩
          rw [hpx] at r1 HB1 HF RL hxl hlen1
          rw [hqx] at r2 HB2 HF RL hyl hlen2
          rw [hpx, hqx]
          rw [← hxl] at k1
          rw [← hyl] at k2
          obtain ⟨pb, po, rfl, _⟩ := r1.form (by omega)
          obtain ⟨qb, qo, rfl, _⟩ := r2.form (by omega)
          have R1 := Lib.hid r1
          have R2 := Lib.hid r2
          have hpn : px.length ≤ 65536 := by omega
          have hqn : qx.length ≤ 65536 := by omega
          have HL1 := Lib.hid (show px.length = Wn * Hn by omega)
          have HL2 := Lib.hid (show qx.length = Wn * Hn by omega)
          have hUl : (listU (unF Wn Hn px qx) Wn Hn).length ≤ 65536 := by
            have h1 := flatS_length (n := Hn) (m := 256) (S := spansU (unF Wn Hn px qx) Wn) (fun y => spansU_true) (fun y => Nat.le_trans (cellsOf_length Wn) (by omega)) Hn (Nat.le_refl _)
            have h2 : Hn * 256 ≤ 256 * 256 := Nat.mul_le_mul_right _ (by omega)
            have h3 : flatS (spansU (unF Wn Hn px qx) Wn) Hn Hn = listU (unF Wn Hn px qx) Wn Hn := rfl
            rw [h3] at h1
            omega
          have crd := fun (W1 : World) (hw : Ext w12 W1) => rdiff_any pb po e1 qb qo e2 Wn Hn px qx (unF Wn Hn px qx) W1 (Lib.hid (R1.out.ext hw)) (Lib.hid (R2.out.ext hw)) HL1 HL2 (by omega) (by omega) HF
          have csm := fun (W1 : World) (hw : Ext w12 W1) => same_any (HB1.out.ext hw) (HB2.out.ext hw)
          have crs := fun (W1 : World) (hw : Ext w12 W1) => rsame_any Wn Hn Wn Hn (some ⟨pb, po, none⟩) (some ⟨qb, qo, none⟩) e1 e2 px qx W1 (R1.out.ext hw) (R2.out.ext hw) hpn hqn
          obtain ⟨v, hv⟩ : ∃ v, picEq Wn Hn px Wn Hn qx = v := ⟨_, rfl⟩
          have hv2 : ((Wn : Int) == (Wn : Int) && ((Hn : Int) == (Hn : Int) && eqL px qx)) = v := hv
          simp only [hv] at crs
          simp only [hv2] at csm
          have dv : (v == v) = true := by simp
          obtain ⟨U, hU⟩ : ∃ U, listU (unF Wn Hn px qx) Wn Hn = U := ⟨_, rfl⟩
          simp only [hU] at crd RL hUl ⊢
          have CRD := Lib.hid crd
          have CSM := Lib.hid csm
          have CRS := Lib.hid crs
          clear hv hv2 hU crd csm crs r1 r2 hpx hqx hxl hyl hlen1 hlen2 hp1 HF R1 R2 HL1 HL2 HB1 HB2
          have j1 := After.blk k1
          have j2 := After.blk k2
          go_wp2_with fail
          refine wp_region_sched (fun w' => ∃ x : After w12, w' = x.now) (by kernel_rfl) ?_
          refine held_take [0, 1, 2, 3, 4, 5] _ _ 16 rfl (by kernel_rfl) rfl (by kernel_rfl) ⟨⟨w12.drew, ((Ext.refl w12).drew)⟩, rfl⟩ ?_
          simp only [List.filterMap_cons, List.filterMap_nil, List.getElem?_toArray, List.getElem?_cons_succ, List.getElem?_cons_zero]
          repeat (quiet_step (fail))
          refine wpQuiet_nil ?_
          refine held_step (k := 6) rfl (by kernel_rfl) ?_
          go_wp2_with fail
          refine (CRD.out _ ((Ext.refl w12).drew)).mono ?_
          rintro e w13 ⟨BD, dD, rfl, oD, nD, E⟩
          have RD := Lib.hid (OwnR.at oD)
          have hE13 : Ext w12 w13 := ((Ext.refl w12).drew).trans E
          clear E oD nD
          go_wp2_with fail
          refine ⟨⟨⟨w13, hE13⟩, rfl⟩, ?_⟩
          refine held_step (k := 7) rfl (by kernel_rfl) ?_
          go_wp2_with fail
          refine (r3rects_any BL BD dL dD U U w13 (RL.out.ext hE13) RD.out (by omega) (by omega)).mono ?_
          rintro e w14 ⟨rfl, E⟩
          rw [show eqR U U = true from eqR_true rfl]
          have hE14 := hE13.trans E
          clear E
          go_wp2_with fail
          refine ⟨⟨⟨w14, hE14⟩, rfl⟩, ?_⟩
          refine held_take [8, 9, 10, 11, 13, 14] _ _ 8 rfl (by kernel_rfl) rfl (by kernel_rfl) ⟨⟨w14, (hE14)⟩, rfl⟩ ?_
          simp only [List.filterMap_cons, List.filterMap_nil, List.getElem?_toArray, List.getElem?_cons_succ, List.getElem?_cons_zero]
          repeat (quiet_step (fail))
          refine wpQuiet_nil ?_
          refine held_step (k := 12) rfl (by kernel_rfl) ?_
          go_wp2_with fail
          refine (CSM.out w14 hE14).mono ?_
          rintro e w15 ⟨rfl, E⟩
          have hE15 := hE14.trans E
          clear E
          go_wp2_with fail
          refine ⟨⟨⟨w15, hE15⟩, rfl⟩, ?_⟩
          refine held_step (k := 15) rfl (by kernel_rfl) ?_
          go_wp2_with fail
          refine (CRS.out w15 hE15).mono ?_
          rintro e w16 ⟨rfl, E⟩
          have hE16 := hE15.trans E
          clear E
          go_wp2_with fail
          refine ⟨⟨⟨w16, hE16⟩, rfl⟩, ?_⟩
          refine held_take [16, 17, 18] _ _ 3 rfl (by kernel_rfl) rfl (by kernel_rfl) ⟨⟨w16, (hE16)⟩, rfl⟩ ?_
          simp only [List.filterMap_cons, List.filterMap_nil, List.getElem?_toArray, List.getElem?_cons_succ, List.getElem?_cons_zero]
          repeat (quiet_step (fail))
          refine wpQuiet_nil ?_
          refine held_step (k := 19) rfl (by kernel_rfl) ?_
          go_wp2_with fail
          refine (wakes3_any _).mono ?_
          rintro e w17 ⟨rfl, E⟩
          have hE17 := hE16.trans E
          clear E
          go_wp2_with fail
          refine ⟨⟨⟨w17, hE17⟩, rfl⟩, ?_⟩
          refine held_take [20, 21] _ _ 0 rfl (by kernel_rfl) rfl (by kernel_rfl) ⟨⟨w17, (hE17)⟩, rfl⟩ ?_
          simp only [List.filterMap_cons, List.filterMap_nil, List.getElem?_toArray, List.getElem?_cons_succ, List.getElem?_cons_zero]
          repeat (quiet_step (fail))
          refine wpQuiet_nil ?_
          refine held_done (by kernel_rfl) ?_
          go_wp2_with fail
          go_ret
          exact ⟨rfl, hE.trans hE17⟩
  · obtain ⟨s1, s2, s3, s4⟩ := okSize_iff.1 hs
    refine (new_good p q _ s1 s2 s3 s4).mono ?_
    rintro e w3 ⟨rfl, hBn, E⟩
    replace ka := E.keep ka
    replace kb := E.keep kb
    replace hE := hE.trans E
    clear E c0 f0 c1 f1
    have HBN := Lib.hid hBn
    clear hBn
    go_wp2_with fail
    refine (rnew_good p q _ s1 s2 s3 s4).mono ?_
    rintro e w4 ⟨Bn, dn, rfl, rn, E⟩
    have HBN2 := Lib.hid (HBN.out.ext E)
    replace ka := E.keep ka
    replace kb := E.keep kb
    replace hE := hE.trans E
    have hnl : (List.replicate (p * q).toNat (0 : Int)).length ≤ 65536 := by have := (mul_bd s1 s2 s3 s4).2; simp; omega
    obtain ⟨zs, hzs⟩ : ∃ zs, List.replicate (p * q).toNat (0 : Int) = zs := ⟨_, rfl⟩
    rw [hzs] at rn HBN2 hnl
    rw [hzs]
    have RN := Lib.hid rn
    clear E hzs rn HBN
    have kn := blk_new w4 (.cells #[.int .i64 p, .int .i64 q, .slice Bn zs.length dn] 43)
    replace ka := blk_old ka (.cells #[.int .i64 p, .int .i64 q, .slice Bn zs.length dn] 43)
    replace kb := blk_old kb (.cells #[.int .i64 p, .int .i64 q, .slice Bn zs.length dn] 43)
    have hE5 := (Ext.refl w4).alloc (.cells #[.int .i64 p, .int .i64 q, .slice Bn zs.length dn] 43)
    go_wp2_with fail
    generalize w4.alloc (.cells #[.int .i64 p, .int .i64 q, .slice Bn zs.length dn] 43) = w5 at *
    replace hE := hE.trans hE5
    have HBN5 := Lib.hid (HBN2.out.ext hE5)
    have RN5 := Lib.hid (RN.out.ext hE5)
    clear HBN2 RN hE5
    have j0 := After.blk kn
    refine wp_region_sched (fun w' => ∃ x : After w5, w' = x.now) (by kernel_rfl) ?_
    refine held_take [0, 1, 2, 3, 4, 5, 6, 7, 8, 9, 10, 11, 12, 13, 14, 16] _ _ 5 rfl (by kernel_rfl) rfl (by kernel_rfl) ⟨⟨w5.drew, ((Ext.refl w5).drew)⟩, rfl⟩ ?_
    simp only [List.filterMap_cons, List.filterMap_nil, List.getElem?_toArray, List.getElem?_cons_succ, List.getElem?_cons_zero]
    repeat (quiet_step (fail))
    refine wpQuiet_nil ?_
    refine held_step (k := 15) rfl (by kernel_rfl) ?_
    go_wp2_with fail
    refine (image_any (HBN5.out.ext ((Ext.refl w5).drew))).mono ?_
    rintro e w6 ⟨gi, ci, rfl, hoi, hgi, E⟩
    have hE6 : Ext w5 w6 := ((Ext.refl w5).drew).trans E
    have ri := row_reads hoi rfl
    have RI := Lib.hid ri
    clear E hoi ri
    go_wp2_with fail
    refine ⟨⟨⟨w6, hE6⟩, rfl⟩, ?_⟩
    refine held_step (k := 17) rfl (by kernel_rfl) ?_
    go_wp2_with fail
    refine (rsame_any p q p q (some ⟨gi, 0, none⟩) Bn ci dn zs zs w6 RI.out (RN5.out.ext hE6) hnl hnl).mono ?_
    rintro e w7 ⟨rfl, E⟩
    rw [picEq_self]
    have hE7 : Ext w5 w7 := hE6.trans E
    clear E
    go_wp2_with fail
    refine ⟨⟨⟨w7, hE7⟩, rfl⟩, ?_⟩
    refine held_take [18, 19, 20] _ _ 0 rfl (by kernel_rfl) rfl (by kernel_rfl) ⟨⟨w7, (hE7)⟩, rfl⟩ ?_
    simp only [List.filterMap_cons, List.filterMap_nil, List.getElem?_toArray, List.getElem?_cons_succ, List.getElem?_cons_zero]
    repeat (quiet_step (fail))
    refine wpQuiet_nil ?_
    refine held_done (by kernel_rfl) ?_
    clear j0
    replace ka := hE7.keep ka
    replace kb := hE7.keep kb
    replace hE := hE.trans hE7
    clear RI RN5 HBN5 kn
    generalize w7 = w6 at *
    obtain ⟨c0, f0⟩ := blk_rules ka
    obtain ⟨c1, f1⟩ := blk_rules kb
    go_wp2_with fail
    have him := fun w => ris_any W H A c xs.length w
    have hio := fun w => ris_any W' H' A' c' ys.length w
    cases hm : isPic W H xs.length
    · rw [hm] at him
      refine (from_bad W H A c xs _ hm).mono ?_
      rintro e w7 ⟨rfl, E⟩
      replace ka := E.keep ka
      replace kb := E.keep kb
      replace hE := hE.trans E
      clear E c0 f0 c1 f1
      obtain ⟨c0, f0⟩ := blk_rules ka
      obtain ⟨c1, f1⟩ := blk_rules kb
      go_wp2_with fail
      cases ho : isPic W' H' ys.length
      · rw [ho] at hio
        refine (from_bad W' H' A' c' ys _ ho).mono ?_
        rintro e w8 ⟨rfl, E⟩
        replace ka := E.keep ka
        replace kb := E.keep kb
        replace hE := hE.trans E
        clear E c0 f0 c1 f1
        obtain ⟨c0, f0⟩ := blk_rules ka
        obtain ⟨c1, f1⟩ := blk_rules kb
        go_wp2_with fail
        refine (diff_nl none _).mono ?_
        rintro e w9 ⟨rfl, E⟩
        replace ka := E.keep ka
        replace kb := E.keep kb
        replace hE := hE.trans E
        clear E c0 f0 c1 f1
        obtain ⟨c0, f0⟩ := blk_rules ka
        obtain ⟨c1, f1⟩ := blk_rules kb
        go_wp2_with fail
        refine (him _).mono ?_
        rintro e w10 ⟨rfl, E⟩
        replace ka := E.keep ka
        replace kb := E.keep kb
        replace hE := hE.trans E
        clear E c0 f0 c1 f1
        obtain ⟨c0, f0⟩ := blk_rules ka
        obtain ⟨c1, f1⟩ := blk_rules kb
        go_wp2_with fail
        have j0 := After.blk ka
        have j1 := After.blk kb
        refine wp_region_after (by kernel_rfl) (by kernel_rfl) ?_
        repeat (go_big_quiet_step (first | with_reducible exact (Calls.after_same (same_nil _)) | with_reducible exact Calls.after (him _) | with_reducible exact Calls.after (hio _) | with_reducible exact Calls.after (wakes3_any _)))
        refine wpQuiet_nil ?_
        intro _ hw'
        obtain ⟨z, rfl⟩ := hw'
        clear j0 j1
        go_wp2_with fail
        go_ret
        exact ⟨rfl, hE.trans z.ext⟩
      · rw [ho] at hio
        refine (from_good W' H' A' c' ys _ ho (RY.out.ext (hE)) HY.out).mono ?_
        rintro e w8 ⟨b2, p2, cap2, rfl, hB2, E⟩
        clear hB2
        replace ka := E.keep ka
        replace kb := E.keep kb
        replace hE := hE.trans E
        clear E c0 f0 c1 f1
        obtain ⟨c0, f0⟩ := blk_rules ka
        obtain ⟨c1, f1⟩ := blk_rules kb
        go_wp2_with fail
        refine (diff_nl _ _).mono ?_
        rintro e w9 ⟨rfl, E⟩
        replace ka := E.keep ka
        replace kb := E.keep kb
        replace hE := hE.trans E
        clear E c0 f0 c1 f1
        obtain ⟨c0, f0⟩ := blk_rules ka
        obtain ⟨c1, f1⟩ := blk_rules kb
        go_wp2_with fail
        refine (him _).mono ?_
        rintro e w10 ⟨rfl, E⟩
        replace ka := E.keep ka
        replace kb := E.keep kb
        replace hE := hE.trans E
        clear E c0 f0 c1 f1
        obtain ⟨c0, f0⟩ := blk_rules ka
        obtain ⟨c1, f1⟩ := blk_rules kb
        go_wp2_with fail
        have j0 := After.blk ka
        have j1 := After.blk kb
        refine wp_region_after (by kernel_rfl) (by kernel_rfl) ?_
        repeat (go_big_quiet_step (first | with_reducible exact (Calls.after_same (same_nl _ _)) | with_reducible exact Calls.after (him _) | with_reducible exact Calls.after (hio _) | with_reducible exact Calls.after (wakes3_any _)))
        refine wpQuiet_nil ?_
        intro _ hw'
        obtain ⟨z, rfl⟩ := hw'
        clear j0 j1
        go_wp2_with fail
        go_ret
        exact ⟨rfl, hE.trans z.ext⟩
    · rw [hm] at him
      refine (from_good W H A c xs _ hm (RX.out.ext hE) HX.out).mono ?_
      rintro e w7 ⟨b1, p1, cap1, rfl, hB1, E⟩
      have HB1 := Lib.hid hB1
      clear hB1
      replace ka := E.keep ka
      replace kb := E.keep kb
      replace hE := hE.trans E
      clear E c0 f0 c1 f1
      obtain ⟨c0, f0⟩ := blk_rules ka
      obtain ⟨c1, f1⟩ := blk_rules kb
      go_wp2_with fail
      cases ho : isPic W' H' ys.length
      · rw [ho] at hio
        clear HB1
        refine (from_bad W' H' A' c' ys _ ho).mono ?_
        rintro e w8 ⟨rfl, E⟩
        replace ka := E.keep ka
        replace kb := E.keep kb
        replace hE := hE.trans E
        clear E c0 f0 c1 f1
        obtain ⟨c0, f0⟩ := blk_rules ka
        obtain ⟨c1, f1⟩ := blk_rules kb
        go_wp2_with fail
        refine (diff_nr _ _).mono ?_
        rintro e w9 ⟨rfl, E⟩
        replace ka := E.keep ka
        replace kb := E.keep kb
        replace hE := hE.trans E
        clear E c0 f0 c1 f1
        obtain ⟨c0, f0⟩ := blk_rules ka
        obtain ⟨c1, f1⟩ := blk_rules kb
        go_wp2_with fail
        refine (him _).mono ?_
        rintro e w10 ⟨rfl, E⟩
        replace ka := E.keep ka
        replace kb := E.keep kb
        replace hE := hE.trans E
        clear E c0 f0 c1 f1
        obtain ⟨c0, f0⟩ := blk_rules ka
        obtain ⟨c1, f1⟩ := blk_rules kb
        go_wp2_with fail
        refine (hio _).mono ?_
        rintro e w10 ⟨rfl, E⟩
        replace ka := E.keep ka
        replace kb := E.keep kb
        replace hE := hE.trans E
        clear E c0 f0 c1 f1
        obtain ⟨c0, f0⟩ := blk_rules ka
        obtain ⟨c1, f1⟩ := blk_rules kb
        go_wp2_with fail
        have j0 := After.blk ka
        have j1 := After.blk kb
        refine wp_region_after (by kernel_rfl) (by kernel_rfl) ?_
        repeat (go_big_quiet_step (first | with_reducible exact (Calls.after_same (same_nr _ _)) | with_reducible exact Calls.after (him _) | with_reducible exact Calls.after (hio _) | with_reducible exact Calls.after (wakes3_any _)))
        refine wpQuiet_nil ?_
        intro _ hw'
        obtain ⟨z, rfl⟩ := hw'
        clear j0 j1
        go_wp2_with fail
        go_ret
        exact ⟨rfl, hE.trans z.ext⟩
      · rw [ho] at hio
        refine (from_good W' H' A' c' ys _ ho (RY.out.ext (hE)) HY.out).mono ?_
        rintro e w8 ⟨b2, p2, cap2, rfl, hB2, E⟩
        have HB2 := Lib.hid hB2
        replace HB1 := Lib.hid (HB1.out.ext E)
        clear hB2
        replace ka := E.keep ka
        replace kb := E.keep kb
        replace hE := hE.trans E
        clear E c0 f0 c1 f1
        obtain ⟨c0, f0⟩ := blk_rules ka
        obtain ⟨c1, f1⟩ := blk_rules kb
        go_wp2_with fail
        by_cases hsz : W ≠ W' ∨ W = W' ∧ H ≠ H'
        · refine (diff_unlike HB1.out HB2.out hsz).mono ?_
          rintro e w9 ⟨rfl, E⟩
          replace HB1 := Lib.hid (HB1.out.ext E)
          replace HB2 := Lib.hid (HB2.out.ext E)
          replace ka := E.keep ka
          replace kb := E.keep kb
          replace hE := hE.trans E
          clear E c0 f0 c1 f1
          obtain ⟨c0, f0⟩ := blk_rules ka
          obtain ⟨c1, f1⟩ := blk_rules kb
          go_wp2_with fail
          refine (him _).mono ?_
          rintro e w10 ⟨rfl, E⟩
          replace HB1 := Lib.hid (HB1.out.ext E)
          replace HB2 := Lib.hid (HB2.out.ext E)
          replace ka := E.keep ka
          replace kb := E.keep kb
          replace hE := hE.trans E
          clear E c0 f0 c1 f1
          obtain ⟨c0, f0⟩ := blk_rules ka
          obtain ⟨c1, f1⟩ := blk_rules kb
          go_wp2_with fail
          refine (hio _).mono ?_
          rintro e w11 ⟨rfl, E⟩
          replace HB1 := Lib.hid (HB1.out.ext E)
          replace HB2 := Lib.hid (HB2.out.ext E)
          replace ka := E.keep ka
          replace kb := E.keep kb
          replace hE := hE.trans E
          clear E c0 f0 c1 f1 him hio
          obtain ⟨c0, f0⟩ := blk_rules ka
          obtain ⟨c1, f1⟩ := blk_rules kb
          have hsm : (W == W' && (H == H' && eqL (xs.map cut24) (ys.map cut24))) = false := by
            rcases hsz with h | ⟨h1, h2⟩
            · simp [h]
            · simp [h1, h2]
          have cs := same_any HB1.out HB2.out
          rw [hsm] at cs
          clear hsm
          rcases hsz with h | ⟨rfl, h⟩
          · have d1 : (W != W') = true := by simpa using h
            clear h
            go_wp2_with fail
            refine cs.mono ?_
            rintro e w12 ⟨rfl, E⟩
            replace hE := hE.trans E
            clear E cs HB1 HB2 c0 f0 c1 f1
            go_wp2_with fail
            refine (wakes3_any _).mono ?_
            rintro e w13 ⟨rfl, E⟩
            go_wp2_with fail
            go_ret
            exact ⟨rfl, hE.trans E⟩
          · have d1 : (W != W) = false := by simp
            have d2 : (H != H') = true := by simpa using h
            clear h
            go_wp2_with fail
            refine cs.mono ?_
            rintro e w12 ⟨rfl, E⟩
            replace hE := hE.trans E
            clear E cs HB1 HB2 c0 f0 c1 f1
            go_wp2_with fail
            refine (wakes3_any _).mono ?_
            rintro e w13 ⟨rfl, E⟩
            go_wp2_with fail
            go_ret
            exact ⟨rfl, hE.trans E⟩
        · obtain ⟨rfl, rfl⟩ : W = W' ∧ H = H' := by
            by_cases h1 : W = W'
            · by_cases h2 : H = H'
              · exact ⟨h1, h2⟩
              · exact absurd (.inr ⟨h1, h2⟩) hsz
            · exact absurd (.inl h1) hsz
          clear hsz
          have b1' := HB1.out.w1
          have b2' := HB1.out.w2
          have b3' := HB1.out.h1
          have b4' := HB1.out.h2
          obtain ⟨Wn, rfl⟩ : ∃ n : Nat, W = (n : Int) := ⟨W.toNat, by omega⟩
          obtain ⟨Hn, rfl⟩ : ∃ n : Nat, H = (n : Int) := ⟨H.toNat, by omega⟩
          have hF := unF_at (Wn := Wn) (Hn := Hn) (by omega) (by omega) (by omega) (by omega) (xs.map cut24) (ys.map cut24)
          have hI := unF_in (Wn := Wn) (Hn := Hn) (by omega) (by omega) (by omega) (by omega) (xs.map cut24) (ys.map cut24)
          refine (diff_good HB1.out HB2.out _ (Lib.hid hF) hI).mono ?_
          rintro e w9 ⟨BL, dL, rfl, hoL, hnL, E⟩
          have RL := Lib.hid (OwnR.at hoL)
          replace HB1 := Lib.hid (HB1.out.ext E)
          replace HB2 := Lib.hid (HB2.out.ext E)
          have HF := Lib.hid hF
          clear hoL hnL hF hI
          replace ka := E.keep ka
          replace kb := E.keep kb
          replace hE := hE.trans E
          clear E c0 f0 c1 f1
          obtain ⟨c0, f0⟩ := blk_rules ka
          obtain ⟨c1, f1⟩ := blk_rules kb
          go_wp2_with fail
          refine (him _).mono ?_
          rintro e w10 ⟨rfl, E⟩
          replace HB1 := Lib.hid (HB1.out.ext E)
          replace HB2 := Lib.hid (HB2.out.ext E)
          replace RL := Lib.hid (RL.out.ext E)
          replace ka := E.keep ka
          replace kb := E.keep kb
          replace hE := hE.trans E
          clear E c0 f0 c1 f1
          obtain ⟨c0, f0⟩ := blk_rules ka
          obtain ⟨c1, f1⟩ := blk_rules kb
          go_wp2_with fail
          refine (hio _).mono ?_
          rintro e w11 ⟨rfl, E⟩
          replace HB1 := Lib.hid (HB1.out.ext E)
          replace HB2 := Lib.hid (HB2.out.ext E)
          replace RL := Lib.hid (RL.out.ext E)
          replace ka := E.keep ka
          replace kb := E.keep kb
          replace hE := hE.trans E
          clear E c0 f0 c1 f1 him hio
          obtain ⟨c0, f0⟩ := blk_rules ka
          obtain ⟨c1, f1⟩ := blk_rules kb
          have d1 : ((Wn : Int) != (Wn : Int)) = false := by simp
          have d2 : ((Hn : Int) != (Hn : Int)) = false := by simp
          have hxl : (xs.map cut24).length = xs.length := by simp
          have hyl : (ys.map cut24).length = ys.length := by simp
          go_upto_region 14 with fail
          refine pairT _ _ _ _ _ _ _ _ _ _ _ _ _ _ _ _ _ _ _ _ _ _ _ _ _ _ _ _ _ _ _ _ _ _ _ _ _ _ _ _ _ _ _ _ _ _ _ _ _ _ _ _ _ _ _ _ _ _ _ _ _ _ _ _ _ _ _ _ _ _ _ _ _ _ _ _ _ _ _ _ _ _ _ _ _ _ _ _ _ _ _ _ _ _ _ _ _ _ _ _ _ _ _ _ _ _ _ _ _ _ _ _ _ _ _ _ _ _ _ _ _ _ _ _ _ _ _ _ _ _ _ _ _ _ _ _ _ _ _ _ _ _ _ _ _ _ _ _ _ _ _ _ _ _ _ _ _ _ _ _ _ _  w11 Wn Hn Wn Hn A A' c c' w.heap.size (w.heap.size + 1) xs ys _ _ ka kb (Lib.hid (RX.out.ext hE)) (Lib.hid (RY.out.ext hE)) HX HY (by omega) (by omega) ?_
          intro _ _ _ _ G1 G2 B1 B2 e1 e2 w12 k1 k2 r1 r2 E
          replace HB1 := Lib.hid (HB1.out.ext E)
          replace HB2 := Lib.hid (HB2.out.ext E)
          replace RL := Lib.hid (RL.out.ext E)
          replace hE := hE.trans E
          clear E c0 f0 c1 f1 ka kb RX RY HX HY d1 d2
          have hlen1 := HB1.out.len
          have hlen2 := HB2.out.len
          rw [← Int.natCast_mul] at hlen1 hlen2
          have hp1 : 1 ≤ Wn * Hn := Nat.mul_pos (by omega) (by omega)
          obtain ⟨px, hpx⟩ : ∃ px, xs.map cut24 = px := ⟨_, rfl⟩
          obtain ⟨qx, hqx⟩ : ∃ qx, ys.map cut24 = qx := ⟨_, rfl⟩
          rw [hpx] at r1 HB1 HF RL hxl hlen1
          rw [hqx] at r2 HB2 HF RL hyl hlen2
          rw [hpx, hqx]
          rw [← hxl] at k1
          rw [← hyl] at k2
          obtain ⟨pb, po, rfl, _⟩ := r1.form (by omega)
          obtain ⟨qb, qo, rfl, _⟩ := r2.form (by omega)
          have R1 := Lib.hid r1
          have R2 := Lib.hid r2
          have hpn : px.length ≤ 65536 := by omega
          have hqn : qx.length ≤ 65536 := by omega
          have HL1 := Lib.hid (show px.length = Wn * Hn by omega)
          have HL2 := Lib.hid (show qx.length = Wn * Hn by omega)
          have hUl : (listU (unF Wn Hn px qx) Wn Hn).length ≤ 65536 := by
            have h1 := flatS_length (n := Hn) (m := 256) (S := spansU (unF Wn Hn px qx) Wn) (fun y => spansU_true) (fun y => Nat.le_trans (cellsOf_length Wn) (by omega)) Hn (Nat.le_refl _)
            have h2 : Hn * 256 ≤ 256 * 256 := Nat.mul_le_mul_right _ (by omega)
            have h3 : flatS (spansU (unF Wn Hn px qx) Wn) Hn Hn = listU (unF Wn Hn px qx) Wn Hn := rfl
            rw [h3] at h1
            omega
          have crd := fun (W1 : World) (hw : Ext w12 W1) => rdiff_any pb po e1 qb qo e2 Wn Hn px qx (unF Wn Hn px qx) W1 (Lib.hid (R1.out.ext hw)) (Lib.hid (R2.out.ext hw)) HL1 HL2 (by omega) (by omega) HF
          have csm := fun (W1 : World) (hw : Ext w12 W1) => same_any (HB1.out.ext hw) (HB2.out.ext hw)
          have crs := fun (W1 : World) (hw : Ext w12 W1) => rsame_any Wn Hn Wn Hn (some ⟨pb, po, none⟩) (some ⟨qb, qo, none⟩) e1 e2 px qx W1 (R1.out.ext hw) (R2.out.ext hw) hpn hqn
          obtain ⟨v, hv⟩ : ∃ v, picEq Wn Hn px Wn Hn qx = v := ⟨_, rfl⟩
          have hv2 : ((Wn : Int) == (Wn : Int) && ((Hn : Int) == (Hn : Int) && eqL px qx)) = v := hv
          simp only [hv] at crs
          simp only [hv2] at csm
          have dv : (v == v) = true := by simp
          obtain ⟨U, hU⟩ : ∃ U, listU (unF Wn Hn px qx) Wn Hn = U := ⟨_, rfl⟩
          simp only [hU] at crd RL hUl ⊢
          have CRD := Lib.hid crd
          have CSM := Lib.hid csm
          have CRS := Lib.hid crs
          clear hv hv2 hU crd csm crs r1 r2 hpx hqx hxl hyl hlen1 hlen2 hp1 HF R1 R2 HL1 HL2 HB1 HB2
          have j1 := After.blk k1
          have j2 := After.blk k2
          go_wp2_with fail
          refine wp_region_sched (fun w' => ∃ x : After w12, w' = x.now) (by kernel_rfl) ?_
          refine held_take [0, 1, 2, 3, 4, 5] _ _ 16 rfl (by kernel_rfl) rfl (by kernel_rfl) ⟨⟨w12.drew, ((Ext.refl w12).drew)⟩, rfl⟩ ?_
          simp only [List.filterMap_cons, List.filterMap_nil, List.getElem?_toArray, List.getElem?_cons_succ, List.getElem?_cons_zero]
          repeat (quiet_step (fail))
          refine wpQuiet_nil ?_
          refine held_step (k := 6) rfl (by kernel_rfl) ?_
          go_wp2_with fail
          refine (CRD.out _ ((Ext.refl w12).drew)).mono ?_
          rintro e w13 ⟨BD, dD, rfl, oD, nD, E⟩
          have RD := Lib.hid (OwnR.at oD)
          have hE13 : Ext w12 w13 := ((Ext.refl w12).drew).trans E
          clear E oD nD
          go_wp2_with fail
          refine ⟨⟨⟨w13, hE13⟩, rfl⟩, ?_⟩
          refine held_step (k := 7) rfl (by kernel_rfl) ?_
          go_wp2_with fail
          refine (r3rects_any BL BD dL dD U U w13 (RL.out.ext hE13) RD.out (by omega) (by omega)).mono ?_
          rintro e w14 ⟨rfl, E⟩
          rw [show eqR U U = true from eqR_true rfl]
          have hE14 := hE13.trans E
          clear E
          go_wp2_with fail
          refine ⟨⟨⟨w14, hE14⟩, rfl⟩, ?_⟩
          refine held_take [8, 9, 10, 11, 13, 14] _ _ 8 rfl (by kernel_rfl) rfl (by kernel_rfl) ⟨⟨w14, (hE14)⟩, rfl⟩ ?_
          simp only [List.filterMap_cons, List.filterMap_nil, List.getElem?_toArray, List.getElem?_cons_succ, List.getElem?_cons_zero]
          repeat (quiet_step (fail))
          refine wpQuiet_nil ?_
          refine held_step (k := 12) rfl (by kernel_rfl) ?_
          go_wp2_with fail
          refine (CSM.out w14 hE14).mono ?_
          rintro e w15 ⟨rfl, E⟩
          have hE15 := hE14.trans E
          clear E
          go_wp2_with fail
          refine ⟨⟨⟨w15, hE15⟩, rfl⟩, ?_⟩
          refine held_step (k := 15) rfl (by kernel_rfl) ?_
          go_wp2_with fail
          refine (CRS.out w15 hE15).mono ?_
          rintro e w16 ⟨rfl, E⟩
          have hE16 := hE15.trans E
          clear E
          go_wp2_with fail
          refine ⟨⟨⟨w16, hE16⟩, rfl⟩, ?_⟩
          refine held_take [16, 17, 18] _ _ 3 rfl (by kernel_rfl) rfl (by kernel_rfl) ⟨⟨w16, (hE16)⟩, rfl⟩ ?_
          simp only [List.filterMap_cons, List.filterMap_nil, List.getElem?_toArray, List.getElem?_cons_succ, List.getElem?_cons_zero]
          repeat (quiet_step (fail))
          refine wpQuiet_nil ?_
          refine held_step (k := 19) rfl (by kernel_rfl) ?_
          go_wp2_with fail
          refine (wakes3_any _).mono ?_
          rintro e w17 ⟨rfl, E⟩
          have hE17 := hE16.trans E
          clear E
          go_wp2_with fail
          refine ⟨⟨⟨w17, hE17⟩, rfl⟩, ?_⟩
          refine held_take [20, 21] _ _ 0 rfl (by kernel_rfl) rfl (by kernel_rfl) ⟨⟨w17, (hE17)⟩, rfl⟩ ?_
          simp only [List.filterMap_cons, List.filterMap_nil, List.getElem?_toArray, List.getElem?_cons_succ, List.getElem?_cons_zero]
          repeat (quiet_step (fail))
          refine wpQuiet_nil ?_
          refine held_done (by kernel_rfl) ?_
          go_wp2_with fail
          go_ret
          exact ⟨rfl, hE.trans hE17⟩
end Go.Proofs.Ytjghghbldifhaaa
