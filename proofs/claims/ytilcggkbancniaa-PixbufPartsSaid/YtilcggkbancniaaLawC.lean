/- The law PixbufParts walked. -/
import Derived.Test.YtilcggkbancniaaLawA
import Derived.Test.YtilcggkbancniaaPicB
set_option linter.unusedVariables false
set_option linter.unusedSimpArgs false
namespace Go.Proofs.Ytilcggkbancniaa
open Go.RowKit

set_option maxRecDepth 100000 in
set_option maxHeartbeats 16000000 in
theorem parts_any (W H : Int) (A : Option Addr) (c : Nat) (xs : List Int) (r q : Rect) (w : World) (hx : Reads .u32 w A xs) (hxb : ∀ v ∈ xs, 0 ≤ v ∧ v ≤ 4294967295) (hn : xs.length ≤ 9223372036854775807) :
    Calls Try.prog 4 #[.agg #[.int .i64 W, .int .i64 H, .slice A xs.length c], .agg #[.int .i64 r.x, .int .i64 r.y, .int .i64 r.w, .int .i64 r.h], .agg #[.int .i64 q.x, .int .i64 q.y, .int .i64 q.w, .int .i64 q.h]] w fun e w' => e = .returned (.bool true) ∧ Ext w w' := by
  have g1 := fun w => great_nil W H A c xs.length w hn
  by_cases n1 : 1000 < xs.length
  · rw [decide_eq_true n1] at g1
    go_enter Try.func4, Try.ntmps4
    go_wp2_with fail
    refine (g1 _).mono ?_
    rintro e w1 ⟨rfl, hb⟩
    obtain ⟨k0, k1, k2, hE⟩ := ext3 hb
    clear hb g1
    go_wp2_with fail
    refine (wakes3_any _).mono ?_
    rintro e w2 ⟨rfl, hb⟩
    go_wp2
    go_ret
    exact ⟨rfl, hE.trans hb⟩
  rw [decide_eq_false n1] at g1
  clear hn
  go_enter Try.func4, Try.ntmps4
  go_wp2_with fail
  refine (g1 _).mono ?_
  rintro e w1 ⟨rfl, hb⟩
  obtain ⟨k0, k1, k2, hE⟩ := ext3 hb
  obtain ⟨c0, f0⟩ := blk_rules k0
  replace hx := hx.ext hE
  clear hb g1
  go_wp2_with fail
  cases hp : isPic W H xs.length
  · refine (from_bad _ _ _ _ _ _ hp).mono ?_
    rintro e w3 ⟨rfl, hb⟩
    replace hE := hE.trans hb
    clear c0 f0 hb
    go_wp2_with fail
    refine (wakes3_any _).mono ?_
    rintro e w5 ⟨rfl, hb5⟩
    go_wp2
    go_ret
    exact ⟨rfl, hE.trans hb5⟩
  refine (from_good _ _ _ _ _ _ hp hx hxb).mono ?_
  rintro e w3 ⟨ba, pa, ca, rfl, hA, hb⟩
  have hpa := (World.ownsRow.lt hA.row pa (by simp [Value.ownBlock])).2
  replace hA := hA.base_le (base' := w.heap.size) hE.size
  replace k1 := hb.keep k1
  replace k2 := hb.keep k2
  replace hE := hE.trans hb
  clear c0 f0 hb k0
  go_wp2_with fail
  refine (clone_any hA).mono ?_
  rintro e w4 ⟨b2, p2, c2, rfl, hB, hp2, hb⟩
  have hsz4 := hb.size
  replace hB := hB.base_le (base' := w.heap.size) hE.size
  replace k1 := hb.keep k1
  replace k2 := hb.keep k2
  replace hE := hE.trans hb
  replace hA := hA.ext hb
  obtain ⟨c1, f1⟩ := blk_rules k1
  clear hb
  go_wp2_with fail
  obtain ⟨px, hpx⟩ : ∃ px, xs.map cut24 = px := ⟨_, rfl⟩
  rw [hpx] at hA hB
  by_cases h5 : Rect.empty r = true ∨ Rect.empty r = false ∧ Rect.within r ⟨0, 0, W, H⟩ = false
  · refine (part_bad hA r.x r.y r.w r.h h5).mono ?_
    rintro e w5 ⟨rfl, hb⟩
    replace k1 := hb.keep k1
    replace hE := hE.trans hb
    replace hA := hA.ext hb
    clear c1 f1 hb
    have k1' := blk_old k1 (.cells #[.int .i64 0, .int .i64 0, .slice none 0 0] 24)
    have j1 := After.blk k1'
    have hE5 := hE.alloc (.cells #[.int .i64 0, .int .i64 0, .slice none 0 0] 24)
    have hA5 := hA.ext ((Ext.refl w5).alloc (.cells #[.int .i64 0, .int .i64 0, .slice none 0 0] 24))
    have he := fun w => empty_any r.x r.y r.w r.h w
    have hi := fun w => in_any r.x r.y r.w r.h 0 0 W H w
    simp only [show Rect.mk r.x r.y r.w r.h = r from rfl] at he hi
    rcases h5 with h5 | ⟨h5, h6⟩
    · simp only [h5] at he
      clear hi k1 k1'
      go_wp2_with fail
      refine wp_region_after (by kernel_rfl) (by kernel_rfl) ?_
      repeat (go_big_quiet_step (first | with_reducible exact Calls.after (he _) | with_reducible exact Calls.after (wakes3_any _)))
      refine wpQuiet_nil ?_
      intro _ hw'
      obtain ⟨z, rfl⟩ := hw'
      go_wp2
      go_ret
      exact ⟨rfl, Ext.trans hE5 z.ext⟩
    · simp only [h5] at he
      simp only [h6] at hi
      clear k1 k1'
      go_wp2_with fail
      refine wp_region_after (by kernel_rfl) (by kernel_rfl) ?_
      repeat (go_big_quiet_step (first | with_reducible exact Calls.after (he _) | with_reducible exact Calls.after (wakes3_any _) | with_reducible exact Calls.after (hi _) | exact Calls.after_same (w_any (hA5.ext (After.ext _))) | exact Calls.after_same (h_any (hA5.ext (After.ext _)))))
      refine wpQuiet_nil ?_
      intro _ hw'
      obtain ⟨z, rfl⟩ := hw'
      go_wp2
      go_ret
      exact ⟨rfl, Ext.trans hE5 z.ext⟩
  have h6 : Rect.empty r = false := by cases hh : Rect.empty r <;> simp_all
  have h7 : Rect.within r ⟨0, 0, W, H⟩ = true := by cases hh : Rect.within r ⟨0, 0, W, H⟩ <;> simp_all
  clear h5
  have hpic := partRows_pic hA.w1 hA.w2 hA.h1 hA.h2 hA.len h6 h7
  have hback := blit_back hA.w1 hA.w2 hA.h1 hA.h2 hA.len hA.pix h6 h7
  obtain ⟨part, hpart⟩ : ∃ part, partRows W r (List.range r.h.toNat) px = part := ⟨_, rfl⟩
  have hPG := part_good hA r.x r.y r.w r.h h6 h7
  simp only [show Rect.mk r.x r.y r.w r.h = r from rfl, hpart] at hPG
  rw [hpart] at hpic hback
  have hpartb : ∀ v ∈ part, 0 ≤ v ∧ v ≤ 4294967295 := fun v hv => by
    rw [← hpart] at hv
    have := hA.pix v (partRows_mem hv)
    omega
  refine hPG.mono ?_
  rintro e w5 ⟨g, c3, rfl, ho, hb⟩
  clear hPG c1 f1
  replace k1 := hb.keep k1
  replace k2 := hb.keep k2
  replace hE := hE.trans hb
  replace hA := hA.ext hb
  replace hB := hB.ext hb
  have hr5 := ho.readsAt
  clear hb
  have kp := blk_new w5 (.cells #[.int .i64 r.w, .int .i64 r.h, .slice (some ⟨g, 0, none⟩) part.length c3] 24)
  have hE6 := (Ext.refl w5).alloc (.cells #[.int .i64 r.w, .int .i64 r.h, .slice (some ⟨g, 0, none⟩) part.length c3] 24)
  have hA6 := hA.ext hE6
  have hB6 := hB.ext hE6
  have hr6 := hr5.ext hE6
  have ho6 : Own .u32 35 _ _ _ _ := ho.ext hE6
  replace k1 := hE6.keep k1
  replace k2 := hE6.keep k2
  replace hE := hE.trans hE6
  obtain ⟨c1, f1⟩ := blk_rules k1
  obtain ⟨c2', f2⟩ := blk_rules kp
  go_wp2_with fail
  have hBG := blit_good hA6 r.x r.y r.w r.h _ c3 part r.x r.y r.w r.h hpic hr6 hpartb
  simp only [show Rect.mk r.x r.y r.w r.h = r from rfl, hback] at hBG
  refine hBG.mono ?_
  rintro e w7 ⟨rfl, hA7, hg⟩
  have hgpa : g ≠ pa := by have := own_base ho; omega
  obtain ⟨cur, hty⟩ := own_type hA6.row
  have hK := KeptT.of_grown (p := (· ≠ 35)) hg (fun cs t fr hc => by rw [hty] at hc; injection hc with hc; injection hc with _ e2 _; subst e2; simp)
  have hB7 := hB6.keptT hg (fun e1 => by injection e1 with e1; have := hB6.head; rw [← e1, hty] at this; injection this with this; injection this with _ e2 _; exact absurd e2 (by decide)) (fun e1 => by injection e1 with e1; omega)
  have ho7 : Own .u32 35 w7 w4.heap.size (.slice (some ⟨g, 0, none⟩) part.length c3) part := World.ownsRow.kept ho6 hg (.inr (by simp [Value.ownBlock]; exact hgpa))
  have k1' := hK _ _ _ _ (by decide) k1
  have k2' := hK _ _ _ _ (by decide) k2
  have kp' := hK _ _ _ _ (by decide) kp
  have hE7 := Ext.grownRow hE hg (own_base hA.row)
  clear c1 f1 c2' f2 hBG k1 k2 kp hg hA6 hB6 hr6 ho6 hE6 hty hK hA hB hE hr5 ho
  go_wp2_with fail
  have hs := same_any hA7 hB7
  rw [show (W == W && (H == H && eqL px px)) = true by simp [eqL]] at hs
  refine hs.mono ?_
  rintro e w8 ⟨rfl, hb⟩
  clear hs
  replace hE7 := hE7.trans hb
  replace hA7 := hA7.ext hb
  have hr8 := ho7.readsAt.ext hb
  replace k1' := hb.keep k1'
  replace k2' := hb.keep k2'
  replace kp' := hb.keep kp'
  obtain ⟨c1, f1⟩ := blk_rules k1'
  obtain ⟨cp, fp⟩ := blk_rules kp'
  clear hb ho7 hB7
  go_wp2_with fail
  have hfg := from_good r.w r.h _ c3 part _ hpic hr8 hpartb
  rw [show part.map cut24 = part from map_cut (fun v hv => by rw [← hpart] at hv; exact hA7.pix v (partRows_mem hv))] at hfg
  refine hfg.mono ?_
  rintro e w9 ⟨bc, pc, cc, rfl, hC, hb⟩
  clear hfg c1 f1 cp fp hr8 kp'
  replace hE7 := hE7.trans hb
  replace hA7 := hA7.ext hb
  replace k1' := hb.keep k1'
  replace k2' := hb.keep k2'
  obtain ⟨c2', f2⟩ := blk_rules k2'
  clear hb
  go_wp2_with fail
  obtain ⟨S, hS⟩ : ∃ S, Rect.shift q r.x r.y = S := ⟨_, rfl⟩
  have cS := fun w => shift_any q.x q.y q.w q.h r.x r.y w
  simp only [show Rect.mk q.x q.y q.w q.h = q from rfl, hS] at cS
  by_cases h5 : Rect.empty q = true ∨ Rect.empty q = false ∧ Rect.within q ⟨0, 0, r.w, r.h⟩ = false
  · refine (part_bad hC q.x q.y q.w q.h h5).mono ?_
    rintro e w10 ⟨rfl, hb⟩
    replace hE7 := hE7.trans hb
    replace hA7 := hA7.ext hb
    have hE11 := (Ext.refl w10).alloc (.cells #[.int .i64 0, .int .i64 0, .slice none 0 0] 24)
    replace hE7 := hE7.trans hE11
    replace hA7 := hA7.ext hE11
    replace k1' := hE11.keep (hb.keep k1')
    replace k2' := hE11.keep (hb.keep k2')
    clear c2' f2 hb
    obtain ⟨c1, f1⟩ := blk_rules k1'
    obtain ⟨c2', f2⟩ := blk_rules k2'
    go_wp2_with fail
    refine (cS _).mono ?_
    rintro e w11 ⟨rfl, hb⟩
    replace hE7 := hE7.trans hb
    replace hA7 := hA7.ext hb
    clear c1 f1 c2' f2 hb k1' k2'
    go_wp2_with fail
    by_cases h8 : Rect.empty S = true ∨ Rect.empty S = false ∧ Rect.within S ⟨0, 0, W, H⟩ = false
    · refine (part_bad hA7 S.x S.y S.w S.h h8).mono ?_
      rintro e w12 ⟨rfl, hb⟩
      have hE12 := (hE7.trans hb).alloc (.cells #[.int .i64 0, .int .i64 0, .slice none 0 0] 24)
      go_wp2_with fail
      refine (wakes3_any _).mono ?_
      rintro e w13 ⟨rfl, hb13⟩
      go_wp2
      go_ret
      exact ⟨rfl, hE12.trans hb13⟩
    · have h9 : Rect.empty S = false := by cases hh : Rect.empty S <;> simp_all
      have h10 : Rect.within S ⟨0, 0, W, H⟩ = true := by cases hh : Rect.within S ⟨0, 0, W, H⟩ <;> simp_all
      refine (part_good hA7 S.x S.y S.w S.h h9 h10).mono ?_
      rintro e w12 ⟨g2, c4, rfl, _, hb⟩
      have hE12 := (hE7.trans hb).alloc (.cells #[.int .i64 S.w, .int .i64 S.h, .slice (some ⟨g2, 0, none⟩) (partRows W ⟨S.x, S.y, S.w, S.h⟩ (List.range S.h.toNat) px).length c4] 24)
      go_wp2_with fail
      refine (wakes3_any _).mono ?_
      rintro e w13 ⟨rfl, hb13⟩
      go_wp2
      go_ret
      exact ⟨rfl, hE12.trans hb13⟩
  have h8 : Rect.empty q = false := by cases hh : Rect.empty q <;> simp_all
  have h9 : Rect.within q ⟨0, 0, r.w, r.h⟩ = true := by cases hh : Rect.within q ⟨0, 0, r.w, r.h⟩ <;> simp_all
  clear h5
  obtain ⟨p1, p2', p3, p4⟩ := part_part hA7.w1 hA7.w2 hA7.h1 hA7.h2 hA7.len h6 h7 h8 h9
  rw [hS] at p1
  subst p1
  simp only at cS
  clear hS
  have hpic2 := partRows_pic hC.w1 hC.w2 hC.h1 hC.h2 hC.len h8 h9
  have hPQ := part_good hC q.x q.y q.w q.h h8 h9
  simp only [show Rect.mk q.x q.y q.w q.h = q from rfl] at hPQ
  rw [hpart] at p4
  obtain ⟨sub, hsub⟩ : ∃ sub, partRows r.w q (List.range q.h.toNat) part = sub := ⟨_, rfl⟩
  rw [hsub] at p4 hpic2 hPQ
  have hsubb : ∀ v ∈ sub, 0 ≤ v ∧ v ≤ 16777215 := fun v hv => by
    rw [← hsub] at hv
    have := partRows_mem hv
    exact hC.pix v this
  have P4 := Lib.hid p4
  have P2 := Lib.hid p2'
  have P3 := Lib.hid p3
  clear p4 p2' p3 hsub
  refine hPQ.mono ?_
  rintro e w10 ⟨gx, cx, rfl, hox, hb⟩
  replace hE7 := hE7.trans hb
  replace hA7 := hA7.ext hb
  have kx := blk_new w10 (.cells #[.int .i64 q.w, .int .i64 q.h, .slice (some ⟨gx, 0, none⟩) sub.length cx] 24)
  have hE11 := (Ext.refl w10).alloc (.cells #[.int .i64 q.w, .int .i64 q.h, .slice (some ⟨gx, 0, none⟩) sub.length cx] 24)
  have hrx := hox.readsAt.ext hE11
  replace hE7 := hE7.trans hE11
  replace hA7 := hA7.ext hE11
  replace k1' := hE11.keep (hb.keep k1')
  replace k2' := hE11.keep (hb.keep k2')
  clear c2' f2 hb hPQ
  obtain ⟨c1, f1⟩ := blk_rules k1'
  obtain ⟨c2', f2⟩ := blk_rules k2'
  go_wp2_with fail
  refine (cS _).mono ?_
  rintro e w11 ⟨rfl, hb⟩
  replace hE7 := hE7.trans hb
  replace hA7 := hA7.ext hb
  replace kx := hb.keep kx
  replace hrx := hrx.ext hb
  clear c1 f1 c2' f2 hb k1' k2' cS
  go_wp2_with fail
  have hPS := part_good hA7 (q.x + r.x) (q.y + r.y) q.w q.h P2.out P3.out
  rw [← P4.out] at hPS
  refine hPS.mono ?_
  rintro e w12 ⟨gy, cy, rfl, hoy, hb⟩
  replace hE7 := hE7.trans hb
  replace kx := hb.keep kx
  replace hrx := hrx.ext hb
  have ky := blk_new w12 (.cells #[.int .i64 q.w, .int .i64 q.h, .slice (some ⟨gy, 0, none⟩) sub.length cy] 24)
  have hE13 := (Ext.refl w12).alloc (.cells #[.int .i64 q.w, .int .i64 q.h, .slice (some ⟨gy, 0, none⟩) sub.length cy] 24)
  have hry := hoy.readsAt.ext hE13
  replace hE7 := hE7.trans hE13
  replace kx := hE13.keep kx
  replace hrx := hrx.ext hE13
  obtain ⟨cx', fx⟩ := blk_rules kx
  clear hb hA7 hPS P4 P2 P3
  go_wp2_with fail
  have hsub32 : ∀ v ∈ sub, 0 ≤ v ∧ v ≤ 4294967295 := fun v hv => ⟨(hsubb v hv).1, by have := (hsubb v hv).2; omega⟩
  have hXF := from_good q.w q.h _ cx sub _ hpic2 hrx hsub32
  rw [show sub.map cut24 = sub from map_cut hsubb] at hXF
  refine hXF.mono ?_
  rintro e w14 ⟨bx, px', cx2, rfl, hX, hb⟩
  replace hE7 := hE7.trans hb
  replace ky := hb.keep ky
  replace hry := hry.ext hb
  obtain ⟨cy', fy⟩ := blk_rules ky
  clear cx' fx hb hXF
  go_wp2_with fail
  have hYF := from_good q.w q.h _ cy sub _ hpic2 hry hsub32
  rw [show sub.map cut24 = sub from map_cut hsubb] at hYF
  refine hYF.mono ?_
  rintro e w15 ⟨by_, py, cy2, rfl, hY, hb⟩
  replace hX := hX.ext hb
  replace hE7 := hE7.trans hb
  clear cy' fy hb hYF
  go_wp2_with fail
  have hs := same_any hX hY
  rw [show (q.w == q.w && (q.h == q.h && eqL sub sub)) = true by simp [eqL]] at hs
  refine hs.mono ?_
  rintro e w16 ⟨rfl, hb⟩
  replace hE7 := hE7.trans hb
  go_wp2_with fail
  refine (wakes3_any _).mono ?_
  rintro e w17 ⟨rfl, hb17⟩
  go_wp2
  go_ret
  exact ⟨rfl, hE7.trans hb17⟩
end Go.Proofs.Ytilcggkbancniaa
