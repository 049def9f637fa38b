/- The walk of the law RegionSets. Printed by gen_looks.py. -/
import Derived.Test.YtilcggkbancniaaRegX
import Derived.Test.YtilcggkbancniaaRegZ
set_option linter.unusedVariables false
set_option linter.unusedSimpArgs false
namespace Go.Proofs.Ytilcggkbancniaa
open Go.RowKit

set_option maxHeartbeats 16000000 in
set_option maxRecDepth 10000 in
theorem sets_in (aA bA : Option Addr) (ca cb : Nat) (a b : List Rect) (w : World) (ra : Hid (RectsAt w aA a)) (rb : Hid (RectsAt w bA b)) (na : aA = none → ca = 0) (nb : bA = none → cb = 0) (hla : a.length ≤ 24) (hlb : b.length ≤ 24) :
    Calls Try.prog 6 #[.slice aA a.length ca, .slice bA b.length cb] w fun e w' => e = .returned (.bool true) ∧ Ext w w' := by
  obtain ⟨F, hF⟩ : ∃ L, listOf 0 a [] = L := ⟨_, rfl⟩
  have lF : F.length ≤ 2199023255552 := hF ▸ listOf_length 0 a []
  replace hF := Lib.hid hF
  obtain ⟨N, hN⟩ : ∃ L, listOf 2 a b = L := ⟨_, rfl⟩
  have lN : N.length ≤ 2199023255552 := hN ▸ listOf_length 2 a b
  replace hN := Lib.hid hN
  obtain ⟨U, hU⟩ : ∃ L, listOf 0 a b = L := ⟨_, rfl⟩
  have lU : U.length ≤ 2199023255552 := hU ▸ listOf_length 0 a b
  replace hU := Lib.hid hU
  obtain ⟨M, hM⟩ : ∃ L, listOf 1 a b = L := ⟨_, rfl⟩
  have lM : M.length ≤ 2199023255552 := hM ▸ listOf_length 1 a b
  replace hM := Lib.hid hM
  have hE := Ext.refl w
  have d1 : ((24 : Int) < a.length) = False := by simp; omega
  have d2 : ((24 : Int) < b.length) = False := by simp; omega
  go_enter Try.func6, Try.ntmps6
  go_wp2_with fail
  refine (own_to ra na (by omega)).mono ?_
  rintro e w1 ⟨Bx, dx, rfl, o, nx, E⟩
  replace ra := Lib.hid (ra.out.ext E)
  replace rb := Lib.hid (rb.out.ext E)
  have rx := Lib.hid (OwnR.at o)
  clear o
  replace hE := hE.trans E
  clear E
  go_wp2_with fail
  refine (own_to rb nb (by omega)).mono ?_
  rintro e w2 ⟨By, dy, rfl, o, ny, E⟩
  replace ra := Lib.hid (ra.out.ext E)
  replace rb := Lib.hid (rb.out.ext E)
  replace rx := Lib.hid (rx.out.ext E)
  have ry := Lib.hid (OwnR.at o)
  clear o
  replace hE := hE.trans E
  clear E
  go_wp2_with fail
  have ha2 := ra
  have hb2 := rb
  have hx2 := rx
  have hy2 := ry
  have hEw2 := hE
  have hG := Ext.refl w2
  refine (of_to hF.out rx (by omega)).mono ?_
  rintro e w3 ⟨BF, dF, rfl, o, nF, E⟩
  replace ra := Lib.hid (ra.out.ext E)
  replace rb := Lib.hid (rb.out.ext E)
  replace rx := Lib.hid (rx.out.ext E)
  replace ry := Lib.hid (ry.out.ext E)
  have oF := Lib.hid o
  have rF := Lib.hid (OwnR.at o)
  clear o
  replace hE := hE.trans E
  replace hG := hG.trans E
  clear E
  go_wp2_with fail
  refine (rof_to hF.out ra (Lib.hid (RectsAt.nil _ none)) (by omega) (by simp)).mono ?_
  rintro e w4 ⟨B1, d1', rfl, o, n1, E⟩
  replace ra := Lib.hid (ra.out.ext E)
  replace rb := Lib.hid (rb.out.ext E)
  replace rx := Lib.hid (rx.out.ext E)
  replace ry := Lib.hid (ry.out.ext E)
  replace rF := Lib.hid (rF.out.ext E)
  replace oF := Lib.hid (row_keep oF.out E)
  replace hG := hG.trans E
  have t1 := Lib.hid (OwnR.at o)
  clear o
  replace hE := hE.trans E
  clear E
  go_wp2_with fail
  refine (rrects_to (eqR_true rfl) rF t1 (by omega) (by omega)).mono ?_
  rintro e w5 ⟨rfl, E⟩
  replace ra := Lib.hid (ra.out.ext E)
  replace rb := Lib.hid (rb.out.ext E)
  replace rx := Lib.hid (rx.out.ext E)
  replace ry := Lib.hid (ry.out.ext E)
  replace rF := Lib.hid (rF.out.ext E)
  replace oF := Lib.hid (row_keep oF.out E)
  replace hG := hG.trans E
  replace hE := hE.trans E
  clear E
  go_wp2_with fail
  refine (and_to hN.out rx ry (by omega) (by omega)).mono ?_
  rintro e w6 ⟨PN, eN, rfl, o, mN, E⟩
  replace ra := Lib.hid (ra.out.ext E)
  replace rb := Lib.hid (rb.out.ext E)
  replace rx := Lib.hid (rx.out.ext E)
  replace ry := Lib.hid (ry.out.ext E)
  replace rF := Lib.hid (rF.out.ext E)
  replace oF := Lib.hid (row_keep oF.out E)
  replace hG := hG.trans E
  have pN := Lib.hid (OwnR.at o)
  clear o
  replace hE := hE.trans E
  clear E
  go_wp2_with fail
  refine (rof_to hN.out ra rb (by omega) (by omega)).mono ?_
  rintro e w7 ⟨QN, fN, rfl, o, oN, E⟩
  replace ra := Lib.hid (ra.out.ext E)
  replace rb := Lib.hid (rb.out.ext E)
  replace rx := Lib.hid (rx.out.ext E)
  replace ry := Lib.hid (ry.out.ext E)
  replace rF := Lib.hid (rF.out.ext E)
  replace pN := Lib.hid (pN.out.ext E)
  replace oF := Lib.hid (row_keep oF.out E)
  replace hG := hG.trans E
  have qN := Lib.hid (OwnR.at o)
  clear o
  replace hE := hE.trans E
  clear E
  go_wp2_with fail
  refine (rrects_to (eqR_true rfl) pN qN (by omega) (by omega)).mono ?_
  rintro e w8 ⟨rfl, E⟩
  replace ra := Lib.hid (ra.out.ext E)
  replace rb := Lib.hid (rb.out.ext E)
  replace rx := Lib.hid (rx.out.ext E)
  replace ry := Lib.hid (ry.out.ext E)
  replace rF := Lib.hid (rF.out.ext E)
  replace oF := Lib.hid (row_keep oF.out E)
  replace hG := hG.trans E
  replace hE := hE.trans E
  clear E
  go_wp2_with fail
  try clear pN qN
  refine (or_to hU.out rx ry (by omega) (by omega)).mono ?_
  rintro e w9 ⟨PU, eU, rfl, o, mU, E⟩
  replace ra := Lib.hid (ra.out.ext E)
  replace rb := Lib.hid (rb.out.ext E)
  replace rx := Lib.hid (rx.out.ext E)
  replace ry := Lib.hid (ry.out.ext E)
  replace rF := Lib.hid (rF.out.ext E)
  replace oF := Lib.hid (row_keep oF.out E)
  replace hG := hG.trans E
  have pU := Lib.hid (OwnR.at o)
  clear o
  replace hE := hE.trans E
  clear E
  go_wp2_with fail
  refine (rof_to hU.out ra rb (by omega) (by omega)).mono ?_
  rintro e w10 ⟨QU, fU, rfl, o, oU, E⟩
  replace ra := Lib.hid (ra.out.ext E)
  replace rb := Lib.hid (rb.out.ext E)
  replace rx := Lib.hid (rx.out.ext E)
  replace ry := Lib.hid (ry.out.ext E)
  replace rF := Lib.hid (rF.out.ext E)
  replace pU := Lib.hid (pU.out.ext E)
  replace oF := Lib.hid (row_keep oF.out E)
  replace hG := hG.trans E
  have qU := Lib.hid (OwnR.at o)
  clear o
  replace hE := hE.trans E
  clear E
  go_wp2_with fail
  refine (rrects_to (eqR_true rfl) pU qU (by omega) (by omega)).mono ?_
  rintro e w11 ⟨rfl, E⟩
  replace ra := Lib.hid (ra.out.ext E)
  replace rb := Lib.hid (rb.out.ext E)
  replace rx := Lib.hid (rx.out.ext E)
  replace ry := Lib.hid (ry.out.ext E)
  replace rF := Lib.hid (rF.out.ext E)
  replace oF := Lib.hid (row_keep oF.out E)
  replace hG := hG.trans E
  replace hE := hE.trans E
  clear E
  go_wp2_with fail
  try clear pU qU
  refine (minus_to hM.out rx ry (by omega) (by omega)).mono ?_
  rintro e w12 ⟨PM, eM, rfl, o, mM, E⟩
  replace ra := Lib.hid (ra.out.ext E)
  replace rb := Lib.hid (rb.out.ext E)
  replace rx := Lib.hid (rx.out.ext E)
  replace ry := Lib.hid (ry.out.ext E)
  replace rF := Lib.hid (rF.out.ext E)
  replace oF := Lib.hid (row_keep oF.out E)
  replace hG := hG.trans E
  have pM := Lib.hid (OwnR.at o)
  clear o
  replace hE := hE.trans E
  clear E
  go_wp2_with fail
  refine (rof_to hM.out ra rb (by omega) (by omega)).mono ?_
  rintro e w13 ⟨QM, fM, rfl, o, oM, E⟩
  replace ra := Lib.hid (ra.out.ext E)
  replace rb := Lib.hid (rb.out.ext E)
  replace rx := Lib.hid (rx.out.ext E)
  replace ry := Lib.hid (ry.out.ext E)
  replace rF := Lib.hid (rF.out.ext E)
  replace pM := Lib.hid (pM.out.ext E)
  replace oF := Lib.hid (row_keep oF.out E)
  replace hG := hG.trans E
  have qM := Lib.hid (OwnR.at o)
  clear o
  replace hE := hE.trans E
  clear E
  go_wp2_with fail
  refine (rrects_to (eqR_true rfl) pM qM (by omega) (by omega)).mono ?_
  rintro e w14 ⟨rfl, E⟩
  replace ra := Lib.hid (ra.out.ext E)
  replace rb := Lib.hid (rb.out.ext E)
  replace rx := Lib.hid (rx.out.ext E)
  replace ry := Lib.hid (ry.out.ext E)
  replace rF := Lib.hid (rF.out.ext E)
  replace oF := Lib.hid (row_keep oF.out E)
  replace hG := hG.trans E
  replace hE := hE.trans E
  clear E
  go_wp2_with fail
  try clear pM qM
  have hb0 := oF.out
  unfold OwnR at hb0
  have HB := Lib.hid (World.ownsRow.base_le hb0 (Nat.le_refl _))
  clear hb0 oF
  go_loopw [8] (fun iv wr => ∃ (k : Nat) (xs : List Value), k ≤ F.length ∧ iv = .int .i64 k ∧ xs.length = F.length * 4 ∧ wr.ownsRow w2.heap.size 38 4 (.slice BF F.length dF) F.length xs ∧ Ext w2 wr) (fun iv _ => F.length - (intOf iv).toNat)
  case atStart => exact ⟨0, _, Nat.zero_le _, rfl, rcells_length _, HB.out, hG⟩
  case round =>
    obtain ⟨k, xs, hk, rfl, hxl, hown, hE2⟩ := hrel
    by_cases hlt : k < F.length
    · obtain ⟨g, rfl, hg⟩ := row_form hown (by omega)
      have hsd : ∀ (W : World) (ys : List Value), ys.length = F.length * 4 → W.ownsRow w2.heap.size 38 4 (.slice (some ⟨g, 0, none⟩) F.length dF) F.length ys → ∀ j u, (W.setCell ⟨g, j, none⟩ u).ownsRow w2.heap.size 38 4 (.slice (some ⟨g, 0, none⟩) F.length dF) F.length (ys.set j u) ∧ (ys.set j u).length = F.length * 4 := fun W ys hy h j u => ⟨(World.ownsRow.stored h j u).1, by rw [List.length_set]; exact hy⟩
      have hc : ∀ j, j < 4 → ∃ v, wr.cell? ⟨g, k * 4 + j, none⟩ = some v := fun j hj => ⟨_, (World.ownsRow.cellAt hown (k * 4 + j) (by omega)).trans (List.getElem?_eq_getElem (by omega))⟩
      obtain ⟨v0, c0⟩ := hc 0 (by decide)
      obtain ⟨v1, c1⟩ := hc 1 (by decide)
      obtain ⟨v2, c2⟩ := hc 2 (by decide)
      obtain ⟨v3, c3⟩ := hc 3 (by decide)
      have hfr := World.ownsRow.frozenAt hown
      obtain ⟨o1, x1⟩ := hsd _ _ hxl hown (k * 4 + 0) (.int .i64 0)
      obtain ⟨o2, x2⟩ := hsd _ _ x1 o1 (k * 4 + 1) (.int .i64 0)
      obtain ⟨o3, x3⟩ := hsd _ _ x2 o2 (k * 4 + 2) (.int .i64 9)
      obtain ⟨o4, x4⟩ := hsd _ _ x3 o3 (k * 4 + 3) (.int .i64 9)
      have hE3 := (((hE2.set (p := ⟨g, k * 4 + 0, none⟩) hg (.int .i64 0)).set (p := ⟨g, k * 4 + 1, none⟩) hg (.int .i64 0)).set (p := ⟨g, k * 4 + 2, none⟩) hg (.int .i64 9)).set (p := ⟨g, k * 4 + 3, none⟩) hg (.int .i64 9)
      have HO := Lib.hid o4
      have HX := Lib.hid x4
      clear hc hsd o1 o2 o3 o4 x1 x2 x3 x4 hown
      simp only [Nat.add_zero] at c0
      go_wp2_with fail
      exact ⟨⟨k + 1, _, by omega, by go_num, HX.out, HO.out, hE3⟩, by simp [intOf]; omega⟩
    · obtain rfl : k = F.length := by omega
      replace ra := Lib.hid (ha2.out.ext hE2)
      replace rb := Lib.hid (hb2.out.ext hE2)
      replace rx := Lib.hid (hx2.out.ext hE2)
      replace ry := Lib.hid (hy2.out.ext hE2)
      replace hE := hEw2.trans hE2
      clear hown
      go_wp2_with fail
      refine (rrects_to (eqR_true rfl) rx ra (by omega) (by omega)).mono ?_
      rintro e w15 ⟨rfl, E⟩
      replace ra := Lib.hid (ra.out.ext E)
      replace rb := Lib.hid (rb.out.ext E)
      replace ry := Lib.hid (ry.out.ext E)
      replace hE := hE.trans E
      clear E
      go_wp2_with fail
      refine (rrects_to (eqR_true rfl) ry rb (by omega) (by omega)).mono ?_
      rintro e w16 ⟨rfl, E⟩
      replace hE := hE.trans E
      clear E
      go_wp2_with fail
      refine (wakes_any _).mono ?_
      rintro e w17 ⟨rfl, E⟩
      replace hE := hE.trans E
      clear E
      go_wp2_with fail
      go_ret
      exact ⟨rfl, hE⟩

theorem sets_any (aA : Option Addr) (ca : Nat) (a : List Rect) (bA : Option Addr) (cb : Nat) (b : List Rect) (w : World) (ra : RectsAt w aA a) (rb : RectsAt w bA b) (na : aA = none → ca = 0) (nb : bA = none → cb = 0) :
    Calls Try.prog 6 #[.slice aA a.length ca, .slice bA b.length cb] w fun e w' => e = .returned (.bool true) ∧ Ext w w' := by
  by_cases h1 : a.length ≤ 24
  · by_cases h2 : b.length ≤ 24
    · exact sets_in aA bA ca cb a b w (Lib.hid ra) (Lib.hid rb) na nb h1 h2
    · have d1 : ((24 : Int) < a.length) = False := by simp; omega
      have d2 : ((24 : Int) < b.length) = True := by simp; omega
      clear ra rb
      go_enter Try.func6, Try.ntmps6
      go_wp2_with fail
      refine (wakes_any _).mono ?_
      rintro e w1 ⟨rfl, hE⟩
      go_wp2_with fail
      go_ret
      exact ⟨rfl, hE⟩
  · have d1 : ((24 : Int) < a.length) = True := by simp; omega
    clear ra rb
    go_enter Try.func6, Try.ntmps6
    go_wp2_with fail
    refine (wakes_any _).mono ?_
    rintro e w1 ⟨rfl, hE⟩
    go_wp2_with fail
    go_ret
    exact ⟨rfl, hE⟩
end Go.Proofs.Ytilcggkbancniaa
