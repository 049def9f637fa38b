/- The walk of the law RegionForm. Printed by gen_form.py. -/
/- The law RegionForm, the long lists too. -/
/- The row RegionForm. -/
import Derived.Test.YtilcggkbancniaaRegX
import Derived.Test.YtilcggkbancniaaRows
import Derived.Test.YtilcggkbancniaaArgs
import Derived.ProofKit
import Derived.OpenShut
import Derived.ChangeOld
import Derived.Below
import Derived.SizedLaws
set_option linter.unusedVariables false
set_option linter.unusedSimpArgs false
namespace Go.Proofs.Ytilcggkbancniaa
open Go.RowKit

theorem form_part {a b : List Rect} : listOf 0 (listOf 1 a b) (listOf 2 a b) = listOf 0 a [] := listOf_eq fun x y => by simp only [listOf_has]; rw [show hasL [] x y = false from rfl]; cases hasL a x y <;> cases hasL b x y <;> rfl
theorem form_off {a b : List Rect} : listOf 2 (listOf 1 a b) (listOf 2 a b) = [] := by rw [← show listOf 0 [] [] = ([] : List Rect) from rfl]; exact listOf_eq fun x y => by simp only [listOf_has]; rw [show hasL [] x y = false from rfl]; cases hasL a x y <;> cases hasL b x y <;> rfl
theorem form_or {a b : List Rect} : listOf 0 b a = listOf 0 a b := listOf_eq fun x y => by cases hasL a x y <;> cases hasL b x y <;> rfl
theorem form_and {a b : List Rect} : listOf 2 b a = listOf 2 a b := listOf_eq fun x y => by cases hasL a x y <;> cases hasL b x y <;> rfl
theorem area_both {a b : List Rect} : areaL (listOf 0 a b) + areaL (listOf 2 a b) = areaL a + areaL b := by
  simp only [areaL_cnt]
  exact cnt_add _ _ _ _ fun x y => by simp only [listOf_has]; cases hasL a x y <;> cases hasL b x y <;> rfl
theorem area_part {a b : List Rect} : areaL (listOf 1 a b) + areaL (listOf 2 a b) = areaL (listOf 0 a []) := by
  have h := cnt_add (hasL (listOf 1 a b)) (hasL (listOf 2 a b)) (hasL (listOf 0 a [])) (fun _ _ => false) fun x y => by simp only [listOf_has]; rw [show hasL [] x y = false from rfl]; cases hasL a x y <;> cases hasL b x y <;> rfl
  have h0 : cnt (fun _ _ => false) = 0 := by unfold cnt; exact isum_zero fun _ _ _ => isum_zero fun _ _ _ => rfl
  simp only [areaL_cnt]
  omega
set_option maxHeartbeats 16000000 in
set_option maxRecDepth 10000 in
theorem form_in (aA bA : Option Addr) (ca cb : Nat) (a b : List Rect) (x y : Int) (w : World) (ra : Hid (RectsAt w aA a)) (rb : Hid (RectsAt w bA b)) (na : aA = none → ca = 0) (nb : bA = none → cb = 0) (hla : a.length ≤ 24) (hlb : b.length ≤ 24) :
    Calls Try.prog 9 #[.slice aA a.length ca, .slice bA b.length cb, .int .i64 x, .int .i64 y] w fun e w' => e = .returned (.bool true) ∧ Ext w w' := by
  have e1 := form_part (a := a) (b := b)
  have e2 := form_off (a := a) (b := b)
  have e3 := form_or (a := a) (b := b)
  have e4 := form_and (a := a) (b := b)
  have e5 := area_both (a := a) (b := b)
  have e6 := area_part (a := a) (b := b)
  have e7 : listOf 0 (listOf 0 a []) [] = listOf 0 a [] := listOf_idem
  have e8 : listOf 0 (listOf 0 a b) [] = listOf 0 a b := listOf_idem
  have pO : hasL (listOf 0 a []) x y = hasL a x y := by rw [listOf_has, show hasL [] x y = false from rfl, meant0]
  have pU : hasL (listOf 0 a b) x y = (hasL a x y || hasL b x y) := by rw [listOf_has]; rfl
  have pM : hasL (listOf 1 a b) x y = (hasL a x y && !hasL b x y) := by rw [listOf_has]; rfl
  have pN : hasL (listOf 2 a b) x y = (hasL a x y && hasL b x y) := by rw [listOf_has]; rfl
  have bh := boundsL_has (l := a) (x := x) (y := y)
  obtain ⟨O, hO⟩ : ∃ L, listOf 0 a [] = L := ⟨_, rfl⟩
  have lO : O.length ≤ 2199023255552 := hO ▸ listOf_length 0 a []
  obtain ⟨U, hU⟩ : ∃ L, listOf 0 a b = L := ⟨_, rfl⟩
  have lU : U.length ≤ 2199023255552 := hU ▸ listOf_length 0 a b
  obtain ⟨M, hM⟩ : ∃ L, listOf 1 a b = L := ⟨_, rfl⟩
  have lM : M.length ≤ 2199023255552 := hM ▸ listOf_length 1 a b
  obtain ⟨N, hN⟩ : ∃ L, listOf 2 a b = L := ⟨_, rfl⟩
  have lN : N.length ≤ 2199023255552 := hN ▸ listOf_length 2 a b
  rw [hU, hN] at e5
  rw [hM, hN, hO] at e6
  rw [hM, hN, hO] at e1
  rw [hM, hN] at e2
  rw [hU] at e3 e8 pU
  rw [hN] at e4 pN
  rw [hO] at e7 pO
  rw [hM] at pM
  obtain ⟨β, hβ⟩ : ∃ r, eqR a (listOf 0 a []) = r := ⟨_, rfl⟩
  have hβ2 : eqR a O = β := by rw [← hO]; exact hβ
  have aU := areaL_bd U
  obtain ⟨gU, GU⟩ : ∃ n, areaL U = n := ⟨_, rfl⟩
  rw [GU] at aU
  have aN := areaL_bd N
  obtain ⟨gN, GN⟩ : ∃ n, areaL N = n := ⟨_, rfl⟩
  rw [GN] at aN
  have aM := areaL_bd M
  obtain ⟨gM, GM⟩ : ∃ n, areaL M = n := ⟨_, rfl⟩
  rw [GM] at aM
  have aO := areaL_bd O
  obtain ⟨gO, GO⟩ : ∃ n, areaL O = n := ⟨_, rfl⟩
  rw [GO] at aO
  have aa := areaL_bd a
  obtain ⟨ga, Ga⟩ : ∃ n, areaL a = n := ⟨_, rfl⟩
  rw [Ga] at aa
  have ab := areaL_bd b
  obtain ⟨gb, Gb⟩ : ∃ n, areaL b = n := ⟨_, rfl⟩
  rw [Gb] at ab
  rw [GU, GN, Ga, Gb] at e5
  rw [GM, GN, GO] at e6
  obtain ⟨α, hα⟩ : ∃ r, hasL a x y = r := ⟨_, rfl⟩
  obtain ⟨γ, hγ⟩ : ∃ r, hasL b x y = r := ⟨_, rfl⟩
  rw [hα] at pO pU pM pN bh
  rw [hγ] at pU pM pN
  obtain ⟨bq, hbq⟩ : ∃ q, boundsL a = q := ⟨_, rfl⟩
  rw [hbq] at bh
  have i1 : eqR U (listOf 0 U []) = true := eqR_true e8.symm
  have i2 : eqR (listOf 0 a []) (listOf 0 O []) = true := eqR_true (by rw [hO, e7])
  have f1 : ((gU + gN) != (ga + gb)) = false := by rw [e5]; simp
  have f2 : ((gM + gN) != gO) = false := by rw [e6]; simp
  have f3 : (β != β) = false := by simp
  have f4 : (γ == γ) = true := by simp
  have f5 : ((!γ) == (!γ)) = true := by simp
  have f6 : (α == α) = true := by simp
  replace e1 := Lib.hid e1
  replace e2 := Lib.hid e2
  replace e3 := Lib.hid e3
  replace e4 := Lib.hid e4
  replace e7 := Lib.hid e7
  replace hO := Lib.hid hO
  replace hU := Lib.hid hU
  replace hM := Lib.hid hM
  replace hN := Lib.hid hN
  replace hβ := Lib.hid hβ
  replace hβ2 := Lib.hid hβ2
  replace GU := Lib.hid GU
  replace GN := Lib.hid GN
  replace GM := Lib.hid GM
  replace GO := Lib.hid GO
  replace Ga := Lib.hid Ga
  replace Gb := Lib.hid Gb
  replace hα := Lib.hid hα
  replace hγ := Lib.hid hγ
  replace pO := Lib.hid pO
  replace pU := Lib.hid pU
  replace pM := Lib.hid pM
  replace pN := Lib.hid pN
  replace bh := Lib.hid bh
  replace hbq := Lib.hid hbq
  replace i1 := Lib.hid i1
  replace i2 := Lib.hid i2
  clear e5 e6 e8
  have hE := Ext.refl w
  have d1 : ((24 : Int) < a.length) = False := by simp; omega
  have d2 : ((24 : Int) < b.length) = False := by simp; omega
  go_enter Try.func9, Try.ntmps9
  go_wp2_with fail
  refine (own_to ra na (by omega)).mono ?_
  rintro e w1 ⟨S1, z1, rfl, o, m1, E⟩
  replace ra := Lib.hid (ra.out.ext E)
  replace rb := Lib.hid (rb.out.ext E)
  have s1 := Lib.hid (OwnR.at o)
  clear o
  replace hE := hE.trans E
  clear E
  go_wp2_with fail
  refine (of_to hO.out s1 (by omega)).mono ?_
  rintro e w2 ⟨BO, dO, rfl, o, nO, E⟩
  replace ra := Lib.hid (ra.out.ext E)
  replace rb := Lib.hid (rb.out.ext E)
  have kO := Lib.hid (OwnR.held o)
  have rO := Lib.hid (OwnR.at o)
  clear o
  replace hE := hE.trans E
  clear E
  go_wp2_with fail
  refine (own_to ra na (by omega)).mono ?_
  rintro e w3 ⟨S2, z2, rfl, o, m2, E⟩
  replace ra := Lib.hid (ra.out.ext E)
  replace rb := Lib.hid (rb.out.ext E)
  replace rO := Lib.hid (rO.out.ext E)
  have s2 := Lib.hid (OwnR.at o)
  clear o
  replace hE := hE.trans E
  clear E
  go_wp2_with fail
  refine (own_to rb nb (by omega)).mono ?_
  rintro e w4 ⟨S3, z3, rfl, o, m3, E⟩
  replace ra := Lib.hid (ra.out.ext E)
  replace rb := Lib.hid (rb.out.ext E)
  replace rO := Lib.hid (rO.out.ext E)
  replace s2 := Lib.hid (s2.out.ext E)
  have s3 := Lib.hid (OwnR.at o)
  clear o
  replace hE := hE.trans E
  clear E
  go_wp2_with fail
  refine (or_to hU.out s2 s3 (by omega) (by omega)).mono ?_
  rintro e w5 ⟨BU, dU, rfl, o, nU, E⟩
  replace ra := Lib.hid (ra.out.ext E)
  replace rb := Lib.hid (rb.out.ext E)
  replace rO := Lib.hid (rO.out.ext E)
  have kU := Lib.hid (OwnR.held o)
  have rU := Lib.hid (OwnR.at o)
  clear o
  replace hE := hE.trans E
  clear E
  go_wp2_with fail
  refine (own_to ra na (by omega)).mono ?_
  rintro e w6 ⟨S4, z4, rfl, o, m4, E⟩
  replace ra := Lib.hid (ra.out.ext E)
  replace rb := Lib.hid (rb.out.ext E)
  replace rO := Lib.hid (rO.out.ext E)
  replace rU := Lib.hid (rU.out.ext E)
  have s4 := Lib.hid (OwnR.at o)
  clear o
  replace hE := hE.trans E
  clear E
  go_wp2_with fail
  refine (own_to rb nb (by omega)).mono ?_
  rintro e w7 ⟨S5, z5, rfl, o, m5, E⟩
  replace ra := Lib.hid (ra.out.ext E)
  replace rb := Lib.hid (rb.out.ext E)
  replace rO := Lib.hid (rO.out.ext E)
  replace rU := Lib.hid (rU.out.ext E)
  replace s4 := Lib.hid (s4.out.ext E)
  have s5 := Lib.hid (OwnR.at o)
  clear o
  replace hE := hE.trans E
  clear E
  go_wp2_with fail
  refine (minus_to hM.out s4 s5 (by omega) (by omega)).mono ?_
  rintro e w8 ⟨BM, dM, rfl, o, nM, E⟩
  replace ra := Lib.hid (ra.out.ext E)
  replace rb := Lib.hid (rb.out.ext E)
  replace rO := Lib.hid (rO.out.ext E)
  replace rU := Lib.hid (rU.out.ext E)
  have kM := Lib.hid (OwnR.held o)
  have rM := Lib.hid (OwnR.at o)
  clear o
  replace hE := hE.trans E
  clear E
  go_wp2_with fail
  refine (own_to ra na (by omega)).mono ?_
  rintro e w9 ⟨S6, z6, rfl, o, m6, E⟩
  replace ra := Lib.hid (ra.out.ext E)
  replace rb := Lib.hid (rb.out.ext E)
  replace rO := Lib.hid (rO.out.ext E)
  replace rU := Lib.hid (rU.out.ext E)
  replace rM := Lib.hid (rM.out.ext E)
  have s6 := Lib.hid (OwnR.at o)
  clear o
  replace hE := hE.trans E
  clear E
  go_wp2_with fail
  refine (own_to rb nb (by omega)).mono ?_
  rintro e w10 ⟨S7, z7, rfl, o, m7, E⟩
  replace ra := Lib.hid (ra.out.ext E)
  replace rb := Lib.hid (rb.out.ext E)
  replace rO := Lib.hid (rO.out.ext E)
  replace rU := Lib.hid (rU.out.ext E)
  replace rM := Lib.hid (rM.out.ext E)
  replace s6 := Lib.hid (s6.out.ext E)
  have s7 := Lib.hid (OwnR.at o)
  clear o
  replace hE := hE.trans E
  clear E
  go_wp2_with fail
  refine (and_to hN.out s6 s7 (by omega) (by omega)).mono ?_
  rintro e w11 ⟨BN, dN, rfl, o, nN, E⟩
  replace ra := Lib.hid (ra.out.ext E)
  replace rb := Lib.hid (rb.out.ext E)
  replace rO := Lib.hid (rO.out.ext E)
  replace rU := Lib.hid (rU.out.ext E)
  replace rM := Lib.hid (rM.out.ext E)
  have kN := Lib.hid (OwnR.held o)
  have rN := Lib.hid (OwnR.at o)
  clear o
  replace hE := hE.trans E
  clear E
  go_wp2_with fail
  refine (form_to hO.out rO kO).mono ?_
  rintro e w12 ⟨rfl, E⟩
  replace ra := Lib.hid (ra.out.ext E)
  replace rb := Lib.hid (rb.out.ext E)
  replace rO := Lib.hid (rO.out.ext E)
  replace rU := Lib.hid (rU.out.ext E)
  replace rM := Lib.hid (rM.out.ext E)
  replace rN := Lib.hid (rN.out.ext E)
  replace hE := hE.trans E
  clear E
  go_wp2_with fail
  refine (form_to hU.out rU kU).mono ?_
  rintro e w13 ⟨rfl, E⟩
  replace ra := Lib.hid (ra.out.ext E)
  replace rb := Lib.hid (rb.out.ext E)
  replace rO := Lib.hid (rO.out.ext E)
  replace rU := Lib.hid (rU.out.ext E)
  replace rM := Lib.hid (rM.out.ext E)
  replace rN := Lib.hid (rN.out.ext E)
  replace hE := hE.trans E
  clear E
  go_wp2_with fail
  refine (form_to hM.out rM kM).mono ?_
  rintro e w14 ⟨rfl, E⟩
  replace ra := Lib.hid (ra.out.ext E)
  replace rb := Lib.hid (rb.out.ext E)
  replace rO := Lib.hid (rO.out.ext E)
  replace rU := Lib.hid (rU.out.ext E)
  replace rM := Lib.hid (rM.out.ext E)
  replace rN := Lib.hid (rN.out.ext E)
  replace hE := hE.trans E
  clear E
  go_wp2_with fail
  refine (form_to hN.out rN kN).mono ?_
  rintro e w15 ⟨rfl, E⟩
  replace ra := Lib.hid (ra.out.ext E)
  replace rb := Lib.hid (rb.out.ext E)
  replace rO := Lib.hid (rO.out.ext E)
  replace rU := Lib.hid (rU.out.ext E)
  replace rM := Lib.hid (rM.out.ext E)
  replace rN := Lib.hid (rN.out.ext E)
  replace hE := hE.trans E
  clear E
  go_wp2_with fail
  refine (own_to rO nO (by omega)).mono ?_
  rintro e w16 ⟨S8, z8, rfl, o, m8, E⟩
  replace ra := Lib.hid (ra.out.ext E)
  replace rb := Lib.hid (rb.out.ext E)
  replace rO := Lib.hid (rO.out.ext E)
  replace rU := Lib.hid (rU.out.ext E)
  replace rM := Lib.hid (rM.out.ext E)
  replace rN := Lib.hid (rN.out.ext E)
  have s8 := Lib.hid (OwnR.at o)
  clear o
  replace hE := hE.trans E
  clear E
  go_wp2_with fail
  refine (of_to e7.out s8 (by omega)).mono ?_
  rintro e w17 ⟨Bx, dx1, rfl, o, nx, E⟩
  replace ra := Lib.hid (ra.out.ext E)
  replace rb := Lib.hid (rb.out.ext E)
  replace rO := Lib.hid (rO.out.ext E)
  replace rU := Lib.hid (rU.out.ext E)
  replace rM := Lib.hid (rM.out.ext E)
  replace rN := Lib.hid (rN.out.ext E)
  have rx := Lib.hid (OwnR.at o)
  clear o
  replace hE := hE.trans E
  clear E
  go_wp2_with fail
  refine (rects_to (eqR_true rfl) rx rO (by omega) (by omega)).mono ?_
  rintro e w18 ⟨rfl, E⟩
  replace ra := Lib.hid (ra.out.ext E)
  replace rb := Lib.hid (rb.out.ext E)
  replace rO := Lib.hid (rO.out.ext E)
  replace rU := Lib.hid (rU.out.ext E)
  replace rM := Lib.hid (rM.out.ext E)
  replace rN := Lib.hid (rN.out.ext E)
  replace hE := hE.trans E
  clear E
  go_wp2_with fail
  refine (is_to i1.out rU (by omega)).mono ?_
  rintro e w19 ⟨rfl, E⟩
  replace ra := Lib.hid (ra.out.ext E)
  replace rb := Lib.hid (rb.out.ext E)
  replace rO := Lib.hid (rO.out.ext E)
  replace rU := Lib.hid (rU.out.ext E)
  replace rM := Lib.hid (rM.out.ext E)
  replace rN := Lib.hid (rN.out.ext E)
  replace hE := hE.trans E
  clear E
  go_wp2_with fail
  refine (own_to ra na (by omega)).mono ?_
  rintro e w20 ⟨S9, z9, rfl, o, m9, E⟩
  replace ra := Lib.hid (ra.out.ext E)
  replace rb := Lib.hid (rb.out.ext E)
  replace rO := Lib.hid (rO.out.ext E)
  replace rU := Lib.hid (rU.out.ext E)
  replace rM := Lib.hid (rM.out.ext E)
  replace rN := Lib.hid (rN.out.ext E)
  have s9 := Lib.hid (OwnR.at o)
  clear o
  replace hE := hE.trans E
  clear E
  go_wp2_with fail
  refine (is_to hβ.out s9 (by omega)).mono ?_
  rintro e w21 ⟨rfl, E⟩
  replace ra := Lib.hid (ra.out.ext E)
  replace rb := Lib.hid (rb.out.ext E)
  replace rO := Lib.hid (rO.out.ext E)
  replace rU := Lib.hid (rU.out.ext E)
  replace rM := Lib.hid (rM.out.ext E)
  replace rN := Lib.hid (rN.out.ext E)
  replace hE := hE.trans E
  clear E
  go_wp2_with fail
  refine (rects_to hβ2.out ra rO (by omega) (by omega)).mono ?_
  rintro e w22 ⟨rfl, E⟩
  replace ra := Lib.hid (ra.out.ext E)
  replace rb := Lib.hid (rb.out.ext E)
  replace rO := Lib.hid (rO.out.ext E)
  replace rU := Lib.hid (rU.out.ext E)
  replace rM := Lib.hid (rM.out.ext E)
  replace rN := Lib.hid (rN.out.ext E)
  replace hE := hE.trans E
  clear E
  go_wp2_with fail
  refine (and_to e2.out rM rN (by omega) (by omega)).mono ?_
  rintro e w23 ⟨By, dy1, rfl, o, ny, E⟩
  replace ra := Lib.hid (ra.out.ext E)
  replace rb := Lib.hid (rb.out.ext E)
  replace rO := Lib.hid (rO.out.ext E)
  replace rU := Lib.hid (rU.out.ext E)
  replace rM := Lib.hid (rM.out.ext E)
  replace rN := Lib.hid (rN.out.ext E)
  have ry := Lib.hid (OwnR.at o)
  clear o
  replace hE := hE.trans E
  clear E
  go_wp2_with fail
  refine (or_to e1.out rM rN (by omega) (by omega)).mono ?_
  rintro e w24 ⟨Bz, dz1, rfl, o, nz, E⟩
  replace ra := Lib.hid (ra.out.ext E)
  replace rb := Lib.hid (rb.out.ext E)
  replace rO := Lib.hid (rO.out.ext E)
  replace rU := Lib.hid (rU.out.ext E)
  replace rM := Lib.hid (rM.out.ext E)
  replace rN := Lib.hid (rN.out.ext E)
  have rz := Lib.hid (OwnR.at o)
  clear o
  replace hE := hE.trans E
  clear E
  go_wp2_with fail
  refine (rects_to (eqR_true rfl) rz rO (by omega) (by omega)).mono ?_
  rintro e w25 ⟨rfl, E⟩
  replace ra := Lib.hid (ra.out.ext E)
  replace rb := Lib.hid (rb.out.ext E)
  replace rO := Lib.hid (rO.out.ext E)
  replace rU := Lib.hid (rU.out.ext E)
  replace rM := Lib.hid (rM.out.ext E)
  replace rN := Lib.hid (rN.out.ext E)
  replace hE := hE.trans E
  clear E
  go_wp2_with fail
  refine (own_to rb nb (by omega)).mono ?_
  rintro e w26 ⟨S10, z10, rfl, o, m10, E⟩
  replace ra := Lib.hid (ra.out.ext E)
  replace rb := Lib.hid (rb.out.ext E)
  replace rO := Lib.hid (rO.out.ext E)
  replace rU := Lib.hid (rU.out.ext E)
  replace rM := Lib.hid (rM.out.ext E)
  replace rN := Lib.hid (rN.out.ext E)
  have s10 := Lib.hid (OwnR.at o)
  clear o
  replace hE := hE.trans E
  clear E
  go_wp2_with fail
  refine (own_to ra na (by omega)).mono ?_
  rintro e w27 ⟨S11, z11, rfl, o, m11, E⟩
  replace ra := Lib.hid (ra.out.ext E)
  replace rb := Lib.hid (rb.out.ext E)
  replace rO := Lib.hid (rO.out.ext E)
  replace rU := Lib.hid (rU.out.ext E)
  replace rM := Lib.hid (rM.out.ext E)
  replace rN := Lib.hid (rN.out.ext E)
  replace s10 := Lib.hid (s10.out.ext E)
  have s11 := Lib.hid (OwnR.at o)
  clear o
  replace hE := hE.trans E
  clear E
  go_wp2_with fail
  refine (or_to e3.out s10 s11 (by omega) (by omega)).mono ?_
  rintro e w28 ⟨Bp, dp1, rfl, o, np, E⟩
  replace ra := Lib.hid (ra.out.ext E)
  replace rb := Lib.hid (rb.out.ext E)
  replace rO := Lib.hid (rO.out.ext E)
  replace rU := Lib.hid (rU.out.ext E)
  replace rM := Lib.hid (rM.out.ext E)
  replace rN := Lib.hid (rN.out.ext E)
  have rp := Lib.hid (OwnR.at o)
  clear o
  replace hE := hE.trans E
  clear E
  go_wp2_with fail
  refine (rects_to (eqR_true rfl) rp rU (by omega) (by omega)).mono ?_
  rintro e w29 ⟨rfl, E⟩
  replace ra := Lib.hid (ra.out.ext E)
  replace rb := Lib.hid (rb.out.ext E)
  replace rO := Lib.hid (rO.out.ext E)
  replace rU := Lib.hid (rU.out.ext E)
  replace rM := Lib.hid (rM.out.ext E)
  replace rN := Lib.hid (rN.out.ext E)
  replace hE := hE.trans E
  clear E
  go_wp2_with fail
  refine (own_to rb nb (by omega)).mono ?_
  rintro e w30 ⟨S12, z12, rfl, o, m12, E⟩
  replace ra := Lib.hid (ra.out.ext E)
  replace rb := Lib.hid (rb.out.ext E)
  replace rO := Lib.hid (rO.out.ext E)
  replace rU := Lib.hid (rU.out.ext E)
  replace rM := Lib.hid (rM.out.ext E)
  replace rN := Lib.hid (rN.out.ext E)
  have s12 := Lib.hid (OwnR.at o)
  clear o
  replace hE := hE.trans E
  clear E
  go_wp2_with fail
  refine (own_to ra na (by omega)).mono ?_
  rintro e w31 ⟨S13, z13, rfl, o, m13, E⟩
  replace ra := Lib.hid (ra.out.ext E)
  replace rb := Lib.hid (rb.out.ext E)
  replace rO := Lib.hid (rO.out.ext E)
  replace rU := Lib.hid (rU.out.ext E)
  replace rM := Lib.hid (rM.out.ext E)
  replace rN := Lib.hid (rN.out.ext E)
  replace s12 := Lib.hid (s12.out.ext E)
  have s13 := Lib.hid (OwnR.at o)
  clear o
  replace hE := hE.trans E
  clear E
  go_wp2_with fail
  refine (and_to e4.out s12 s13 (by omega) (by omega)).mono ?_
  rintro e w32 ⟨Bq, dq1, rfl, o, nq, E⟩
  replace ra := Lib.hid (ra.out.ext E)
  replace rb := Lib.hid (rb.out.ext E)
  replace rO := Lib.hid (rO.out.ext E)
  replace rU := Lib.hid (rU.out.ext E)
  replace rM := Lib.hid (rM.out.ext E)
  replace rN := Lib.hid (rN.out.ext E)
  have rq := Lib.hid (OwnR.at o)
  clear o
  replace hE := hE.trans E
  clear E
  go_wp2_with fail
  refine (rects_to (eqR_true rfl) rq rN (by omega) (by omega)).mono ?_
  rintro e w33 ⟨rfl, E⟩
  replace ra := Lib.hid (ra.out.ext E)
  replace rb := Lib.hid (rb.out.ext E)
  replace rO := Lib.hid (rO.out.ext E)
  replace rU := Lib.hid (rU.out.ext E)
  replace rM := Lib.hid (rM.out.ext E)
  replace rN := Lib.hid (rN.out.ext E)
  replace hE := hE.trans E
  clear E
  go_wp2_with fail
  refine (area_to GU.out rU (by omega)).mono ?_
  rintro e w34 ⟨rfl, E⟩
  replace ra := Lib.hid (ra.out.ext E)
  replace rb := Lib.hid (rb.out.ext E)
  replace rO := Lib.hid (rO.out.ext E)
  replace rU := Lib.hid (rU.out.ext E)
  replace rM := Lib.hid (rM.out.ext E)
  replace rN := Lib.hid (rN.out.ext E)
  replace hE := hE.trans E
  clear E
  go_wp2_with fail
  refine (area_to GN.out rN (by omega)).mono ?_
  rintro e w35 ⟨rfl, E⟩
  replace ra := Lib.hid (ra.out.ext E)
  replace rb := Lib.hid (rb.out.ext E)
  replace rO := Lib.hid (rO.out.ext E)
  replace rU := Lib.hid (rU.out.ext E)
  replace rM := Lib.hid (rM.out.ext E)
  replace rN := Lib.hid (rN.out.ext E)
  replace hE := hE.trans E
  clear E
  go_wp2_with fail
  refine (area_to Ga.out ra (by omega)).mono ?_
  rintro e w36 ⟨rfl, E⟩
  replace ra := Lib.hid (ra.out.ext E)
  replace rb := Lib.hid (rb.out.ext E)
  replace rO := Lib.hid (rO.out.ext E)
  replace rU := Lib.hid (rU.out.ext E)
  replace rM := Lib.hid (rM.out.ext E)
  replace rN := Lib.hid (rN.out.ext E)
  replace hE := hE.trans E
  clear E
  go_wp2_with fail
  refine (area_to Gb.out rb (by omega)).mono ?_
  rintro e w37 ⟨rfl, E⟩
  replace ra := Lib.hid (ra.out.ext E)
  replace rb := Lib.hid (rb.out.ext E)
  replace rO := Lib.hid (rO.out.ext E)
  replace rU := Lib.hid (rU.out.ext E)
  replace rM := Lib.hid (rM.out.ext E)
  replace rN := Lib.hid (rN.out.ext E)
  replace hE := hE.trans E
  clear E
  go_wp2_with fail
  refine (area_to GM.out rM (by omega)).mono ?_
  rintro e w38 ⟨rfl, E⟩
  replace ra := Lib.hid (ra.out.ext E)
  replace rb := Lib.hid (rb.out.ext E)
  replace rO := Lib.hid (rO.out.ext E)
  replace rU := Lib.hid (rU.out.ext E)
  replace rM := Lib.hid (rM.out.ext E)
  replace rN := Lib.hid (rN.out.ext E)
  replace hE := hE.trans E
  clear E
  go_wp2_with fail
  refine (area_to GN.out rN (by omega)).mono ?_
  rintro e w39 ⟨rfl, E⟩
  replace ra := Lib.hid (ra.out.ext E)
  replace rb := Lib.hid (rb.out.ext E)
  replace rO := Lib.hid (rO.out.ext E)
  replace rU := Lib.hid (rU.out.ext E)
  replace rM := Lib.hid (rM.out.ext E)
  replace rN := Lib.hid (rN.out.ext E)
  replace hE := hE.trans E
  clear E
  go_wp2_with fail
  refine (area_to GO.out rO (by omega)).mono ?_
  rintro e w40 ⟨rfl, E⟩
  replace ra := Lib.hid (ra.out.ext E)
  replace rb := Lib.hid (rb.out.ext E)
  replace rO := Lib.hid (rO.out.ext E)
  replace rU := Lib.hid (rU.out.ext E)
  replace rM := Lib.hid (rM.out.ext E)
  replace rN := Lib.hid (rN.out.ext E)
  replace hE := hE.trans E
  clear E
  go_wp2_with fail
  refine (has_to hα.out ra (by omega)).mono ?_
  rintro e w41 ⟨rfl, E⟩
  replace ra := Lib.hid (ra.out.ext E)
  replace rb := Lib.hid (rb.out.ext E)
  replace rO := Lib.hid (rO.out.ext E)
  replace rU := Lib.hid (rU.out.ext E)
  replace rM := Lib.hid (rM.out.ext E)
  replace rN := Lib.hid (rN.out.ext E)
  replace hE := hE.trans E
  clear E
  go_wp2_with fail
  refine (has_to hγ.out rb (by omega)).mono ?_
  rintro e w42 ⟨rfl, E⟩
  replace ra := Lib.hid (ra.out.ext E)
  replace rb := Lib.hid (rb.out.ext E)
  replace rO := Lib.hid (rO.out.ext E)
  replace rU := Lib.hid (rU.out.ext E)
  replace rM := Lib.hid (rM.out.ext E)
  replace rN := Lib.hid (rN.out.ext E)
  replace hE := hE.trans E
  clear E
  go_wp2_with fail
  refine (has_to pO.out rO (by omega)).mono ?_
  rintro e w43 ⟨rfl, E⟩
  replace ra := Lib.hid (ra.out.ext E)
  replace rb := Lib.hid (rb.out.ext E)
  replace rO := Lib.hid (rO.out.ext E)
  replace rU := Lib.hid (rU.out.ext E)
  replace rM := Lib.hid (rM.out.ext E)
  replace rN := Lib.hid (rN.out.ext E)
  replace hE := hE.trans E
  clear E
  go_wp2_with fail
  cases α
  · have c1 : hasL U x y = γ := pU.out.trans (by simp)
    have c2 : hasL M x y = false := pM.out.trans (by simp)
    have c3 : hasL N x y = false := pN.out.trans (by simp)
    replace c1 := Lib.hid c1
    replace c2 := Lib.hid c2
    replace c3 := Lib.hid c3
    try go_wp2_with fail
    refine (has_to c1.out rU (by omega)).mono ?_
    rintro e w44 ⟨rfl, E⟩
    replace ra := Lib.hid (ra.out.ext E)
    replace rb := Lib.hid (rb.out.ext E)
    replace rO := Lib.hid (rO.out.ext E)
    replace rU := Lib.hid (rU.out.ext E)
    replace rM := Lib.hid (rM.out.ext E)
    replace rN := Lib.hid (rN.out.ext E)
    replace hE := hE.trans E
    clear E
    go_wp2_with fail
    refine (has_to c2.out rM (by omega)).mono ?_
    rintro e w45 ⟨rfl, E⟩
    replace ra := Lib.hid (ra.out.ext E)
    replace rb := Lib.hid (rb.out.ext E)
    replace rO := Lib.hid (rO.out.ext E)
    replace rU := Lib.hid (rU.out.ext E)
    replace rM := Lib.hid (rM.out.ext E)
    replace rN := Lib.hid (rN.out.ext E)
    replace hE := hE.trans E
    clear E
    go_wp2_with fail
    refine (has_to c3.out rN (by omega)).mono ?_
    rintro e w46 ⟨rfl, E⟩
    replace ra := Lib.hid (ra.out.ext E)
    replace rb := Lib.hid (rb.out.ext E)
    replace rO := Lib.hid (rO.out.ext E)
    replace rU := Lib.hid (rU.out.ext E)
    replace rM := Lib.hid (rM.out.ext E)
    replace rN := Lib.hid (rN.out.ext E)
    replace hE := hE.trans E
    clear E
    go_wp2_with fail
    refine (same_to i2.out ra rO (by omega) (by omega)).mono ?_
    rintro e w47 ⟨rfl, E⟩
    replace ra := Lib.hid (ra.out.ext E)
    replace rb := Lib.hid (rb.out.ext E)
    replace rO := Lib.hid (rO.out.ext E)
    replace rU := Lib.hid (rU.out.ext E)
    replace rM := Lib.hid (rM.out.ext E)
    replace rN := Lib.hid (rN.out.ext E)
    replace hE := hE.trans E
    clear E
    go_wp2_with fail
    refine (wakes_any _).mono ?_
    rintro e w48 ⟨rfl, E⟩
    replace hE := hE.trans E
    clear E
    go_wp2_with fail
    go_ret
    exact ⟨rfl, hE⟩
  · have c1 : hasL U x y = true := pU.out.trans (by simp)
    have c2 : hasL M x y = !γ := pM.out.trans (by simp)
    have c3 : hasL N x y = γ := pN.out.trans (by simp)
    replace c1 := Lib.hid c1
    replace c2 := Lib.hid c2
    replace c3 := Lib.hid c3
    try go_wp2_with fail
    refine (has_to c1.out rU (by omega)).mono ?_
    rintro e w49 ⟨rfl, E⟩
    replace ra := Lib.hid (ra.out.ext E)
    replace rb := Lib.hid (rb.out.ext E)
    replace rO := Lib.hid (rO.out.ext E)
    replace rU := Lib.hid (rU.out.ext E)
    replace rM := Lib.hid (rM.out.ext E)
    replace rN := Lib.hid (rN.out.ext E)
    replace hE := hE.trans E
    clear E
    go_wp2_with fail
    refine (has_to c2.out rM (by omega)).mono ?_
    rintro e w50 ⟨rfl, E⟩
    replace ra := Lib.hid (ra.out.ext E)
    replace rb := Lib.hid (rb.out.ext E)
    replace rO := Lib.hid (rO.out.ext E)
    replace rU := Lib.hid (rU.out.ext E)
    replace rM := Lib.hid (rM.out.ext E)
    replace rN := Lib.hid (rN.out.ext E)
    replace hE := hE.trans E
    clear E
    go_wp2_with fail
    refine (has_to c3.out rN (by omega)).mono ?_
    rintro e w51 ⟨rfl, E⟩
    replace ra := Lib.hid (ra.out.ext E)
    replace rb := Lib.hid (rb.out.ext E)
    replace rO := Lib.hid (rO.out.ext E)
    replace rU := Lib.hid (rU.out.ext E)
    replace rM := Lib.hid (rM.out.ext E)
    replace rN := Lib.hid (rN.out.ext E)
    replace hE := hE.trans E
    clear E
    go_wp2_with fail
    refine (same_to i2.out ra rO (by omega) (by omega)).mono ?_
    rintro e w52 ⟨rfl, E⟩
    replace ra := Lib.hid (ra.out.ext E)
    replace rb := Lib.hid (rb.out.ext E)
    replace rO := Lib.hid (rO.out.ext E)
    replace rU := Lib.hid (rU.out.ext E)
    replace rM := Lib.hid (rM.out.ext E)
    replace rN := Lib.hid (rN.out.ext E)
    replace hE := hE.trans E
    clear E
    go_wp2_with fail
    refine (bounds_to hbq.out ra (by omega)).mono ?_
    rintro e w53 ⟨rfl, E⟩
    replace ra := Lib.hid (ra.out.ext E)
    replace rb := Lib.hid (rb.out.ext E)
    replace rO := Lib.hid (rO.out.ext E)
    replace rU := Lib.hid (rU.out.ext E)
    replace rM := Lib.hid (rM.out.ext E)
    replace rN := Lib.hid (rN.out.ext E)
    replace hE := hE.trans E
    clear E
    go_wp2_with fail
    have hh := fun w => has_any bq.x bq.y bq.w bq.h x y w
    simp only [show Rect.mk bq.x bq.y bq.w bq.h = bq from rfl, bh.out (by first | exact trivial | rfl)] at hh
    refine (hh _).mono ?_
    rintro e w54 ⟨rfl, E⟩
    replace hE := hE.trans E
    clear E
    go_wp2_with fail
    refine (wakes_any _).mono ?_
    rintro e w55 ⟨rfl, E⟩
    replace hE := hE.trans E
    clear E
    go_wp2_with fail
    go_ret
    exact ⟨rfl, hE⟩
end Go.Proofs.Ytilcggkbancniaa
set_option linter.unusedVariables false
set_option linter.unusedSimpArgs false
namespace Go.Proofs.Ytilcggkbancniaa
open Go.RowKit

set_option maxRecDepth 10000 in
set_option maxHeartbeats 4000000 in
theorem form_any (aA : Option Addr) (ca : Nat) (a : List Rect) (bA : Option Addr) (cb : Nat) (b : List Rect) (x y : Int) (w : World) (ra : RectsAt w aA a) (rb : RectsAt w bA b) (na : aA = none → ca = 0) (nb : bA = none → cb = 0) :
    Calls Try.prog 9 #[.slice aA a.length ca, .slice bA b.length cb, .int .i64 x, .int .i64 y] w fun e w' => e = .returned (.bool true) ∧ Ext w w' := by
  by_cases h1 : a.length ≤ 24
  · by_cases h2 : b.length ≤ 24
    · exact form_in aA bA ca cb a b x y w (Lib.hid ra) (Lib.hid rb) na nb h1 h2
    · have d1 : ((24 : Int) < a.length) = False := by simp; omega
      have d2 : ((24 : Int) < b.length) = True := by simp; omega
      clear ra rb
      go_enter Try.func9, Try.ntmps9
      go_wp2_with fail
      refine (wakes_any _).mono ?_
      rintro e w1 ⟨rfl, hE⟩
      go_wp2_with fail
      go_ret
      exact ⟨rfl, hE⟩
  · have d1 : ((24 : Int) < a.length) = True := by simp; omega
    clear ra rb
    go_enter Try.func9, Try.ntmps9
    go_wp2_with fail
    refine (wakes_any _).mono ?_
    rintro e w1 ⟨rfl, hE⟩
    go_wp2_with fail
    go_ret
    exact ⟨rfl, hE⟩
end Go.Proofs.Ytilcggkbancniaa
namespace Go.Proofs.Ytilcggkbancniaa.rowRegionForm
open Go.ChangeShapes Go.WideShapes Go.ChangeAt Go.RowKit
set_option linter.unusedVariables false
theorem own : ownKnob Try.prog.godebug = none := by kernel_rfl
theorem laidOut : laidOutB Try.prog = true := by kernel_rfl
set_option maxRecDepth 100000 in
theorem lifted (os : Os) (started : os.Started) (H : Type) (enc : TypeId × Value → H) :
    ReturnsInHanded {} Try.checked os 9 .any (Rows.regionFormSpec.pre6 enc Try.prog Try.f9 Rows.regionFormRow.domain false) (Rows.regionFormSpec.post enc Try.prog Try.f9 false true false false) := by
  refine returnsInHanded_of_change_sized (C := Try.checked) own started (by kernel_rfl) Try.func9
    (ChangeSpec.witness6 (enc := enc) (C := Try.checked) false ⟨#[], #[.slice none 0 0, .slice none 0 0, .int .i64 0, .int .i64 0], []⟩ 8 (by kernel_rfl) (by kernel_rfl) (by kernel_rfl) (by kernel_rfl)) ?_
  intro W base args ds gs before hval0 hW hcnd hsz0 _
  have hval : ∀ (j : Nat) t v, Try.f9.params[j]? = some t → args[j]? = some v → Value.okWide Try.prog W .any base t v := hval0
  have hW' := hW
  obtain ⟨p, q, hA0, hV, rfl, hfz, hnd⟩ := hW
  have hA : DataW.TrodAll enc Try.prog W 0 (fun _ => true) true Try.f9.params.toList args.toList ds p := hA0
  rw [Try.params9] at hA hval
  obtain ⟨v0, vs0, d0, ds0, p0, q0, hargs, rfl, rfl, h0, r0⟩ := trodAll_cons hA
  obtain ⟨v1, vs1, d1, ds1, p1, q1, rfl, rfl, rfl, h1, r1⟩ := trodAll_cons r0
  obtain ⟨v2, vs2, d2, ds2, p2, q2, rfl, rfl, rfl, h2, r2⟩ := trodAll_cons r1
  obtain ⟨v3, vs3, d3, ds3, p3, q3, rfl, rfl, rfl, h3, r3⟩ := trodAll_cons r2
  obtain ⟨rfl, rfl, rfl⟩ := trodAll_nil r3
  obtain rfl : args = #[v0, v1, v2, v3] := by cases args; simp_all
  obtain ⟨rfl, rfl⟩ := trodVars_none hV
  have k0 := h0
  have lt0 : ∀ x ∈ p0, x.block < W.heap.size := by obtain ⟨m, hm⟩ := k0; exact DataW.trod_lt m _ _ _ hm
  have k1 := h1
  have lt1 : ∀ x ∈ p1, x.block < W.heap.size := by obtain ⟨m, hm⟩ := k1; exact DataW.trod_lt m _ _ _ hm
  obtain ⟨A0, n0, c0, rfl⟩ := okWide_slice Try.underlying65 (hval 0 65 v0 rfl rfl)
  obtain ⟨m0, e0⟩ := h0
  obtain ⟨l0, rfl, ha0, hl0⟩ := rects_of (opens m0 20 _ shRects _ _ (by kernel_rfl) e0).1
  obtain ⟨A1, n1, c1, rfl⟩ := okWide_slice Try.underlying65 (hval 1 65 v1 rfl rfl)
  obtain ⟨m1, e1⟩ := h1
  obtain ⟨l1, rfl, ha1, hl1⟩ := rects_of (opens m1 20 _ shRects _ _ (by kernel_rfl) e1).1
  obtain ⟨x2, rfl, rfl, rfl, w2⟩ := open_int Try.underlying3 (hval 2 3 v2 rfl rfl) h2
  obtain ⟨x3, rfl, rfl, rfl, w3⟩ := open_int Try.underlying3 (hval 3 3 v3 rfl rfl) h3
  clear hA0 hval0 hsz0
  refine (form_any A0 c0 l0 A1 c1 l1 x2 x3 W ha0 ha1 hl0 hl1).mono fun e W' ⟨he, bel⟩ => ?_
  subst he
  exact ⟨_, rfl, _, _, _, [], _, [], hW', trodAll_mk1 (shut_bool Try.underlying4 _), (trodAll_cons_mk (Below.trod laidOut (by kernel_rfl) (of_decide_eq_true (by kernel_rfl)) k0 bel lt0) (trodAll_cons_mk (Below.trod laidOut (by kernel_rfl) (of_decide_eq_true (by kernel_rfl)) k1 bel lt1) (trodAll_cons_mk (shut_int Try.underlying3 w2) (trodAll_cons_mk (shut_int Try.underlying3 w3) trodAll_mk0)))), rfl, bel.frame _, fun h => by cases h⟩
theorem over : Rows.regionFormRow.holds Try.pinned (OpenSpec.ofChange Rows.regionFormSpec) :=
  OpenClaim.holds_of_wide 9 Try.f9 rfl rfl rfl rfl rfl rfl rfl ⟨rfl, rfl, rfl, rfl, rfl⟩ rfl rfl rfl rfl rfl (by kernel_rfl) Try.func9 (by kernel_rfl)
    (of_decide_eq_true (by kernel_rfl)) (by unfold Func.isWrapper; first | (rw [if_pos (by decide +kernel)]; kernel_rfl) | (rw [if_neg (by decide +kernel)]; exact ⟨rfl, rfl⟩))
    (fun os started H enc _ => lifted os started H enc)
end Go.Proofs.Ytilcggkbancniaa.rowRegionForm
namespace Go.Proofs.Ytilcggkbancniaa
/-- The row RegionForm. -/
theorem regionForm_holds : Rows.RegionFormSaid := rowRegionForm.over
#print axioms regionForm_holds
end Go.Proofs.Ytilcggkbancniaa
