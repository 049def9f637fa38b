/- The walk of the law RegionLooks. Printed by gen_looks.py. -/
import Derived.Test.YtilcggkbancniaaRegX
import Derived.Test.YtilcggkbancniaaRegZ
set_option linter.unusedVariables false
set_option linter.unusedSimpArgs false
namespace Go.Proofs.Ytilcggkbancniaa
open Go.RowKit

attribute [local go_sem ↓] eq_rect
set_option maxHeartbeats 16000000 in
set_option maxRecDepth 10000 in
theorem looks_in (aA bA : Option Addr) (ca cb : Nat) (a b : List Rect) (x y : Int) (w : World) (ra : Hid (RectsAt w aA a)) (rb : Hid (RectsAt w bA b)) (na : aA = none → ca = 0) (nb : bA = none → cb = 0) (hla : a.length ≤ 24) (hlb : b.length ≤ 24) :
    Calls Try.prog 10 #[.slice aA a.length ca, .slice bA b.length cb, .int .i64 x, .int .i64 y] w fun e w' => e = .returned (.bool true) ∧ Ext w w' := by
  have e1 : listOf 0 (listOf 0 a []) [] = listOf 0 a [] := listOf_idem
  obtain ⟨O, hO⟩ : ∃ L, listOf 0 a [] = L := ⟨_, rfl⟩
  have lO : O.length ≤ 2199023255552 := hO ▸ listOf_length 0 a []
  obtain ⟨P, hP⟩ : ∃ L, listOf 0 b [] = L := ⟨_, rfl⟩
  have lP : P.length ≤ 2199023255552 := hP ▸ listOf_length 0 b []
  obtain ⟨Z, hZ⟩ : ∃ L, listOf 0 (shiftL a x y) [] = L := ⟨_, rfl⟩
  have lZ : Z.length ≤ 2199023255552 := hZ ▸ listOf_length 0 (shiftL a x y) []
  rw [hO] at e1
  obtain ⟨β, hβ⟩ : ∃ r, eqR a O = r := ⟨_, rfl⟩
  have hβ2 : eqR a (listOf 0 a []) = β := by rw [hO]; exact hβ
  have i1 : eqR O (listOf 0 O []) = true := eqR_true e1.symm
  obtain ⟨α, hα⟩ : ∃ r, hasL a x y = r := ⟨_, rfl⟩
  obtain ⟨n, hn⟩ : ∃ r, areaL a = r := ⟨_, rfl⟩
  obtain ⟨bq, hbq⟩ : ∃ q, boundsL a = q := ⟨_, rfl⟩
  obtain ⟨γ, hγ⟩ : ∃ r, eqR O P = r := ⟨_, rfl⟩
  have hγ2 : eqR (listOf 0 a []) (listOf 0 b []) = γ := by rw [hO, hP]; exact hγ
  have q1 : (α == α) = true := by simp
  have q2 : (β == β) = true := by simp
  have q3 : (γ == γ) = true := by simp
  have q4 : (n == n) = true := by simp
  have q5 : Rect.eqB ⟨bq.x, bq.y, bq.w, bq.h⟩ ⟨bq.x, bq.y, bq.w, bq.h⟩ = true := Rect.eqB_iff.2 rfl
  replace e1 := Lib.hid e1
  replace hO := Lib.hid hO
  replace hP := Lib.hid hP
  replace hZ := Lib.hid hZ
  replace hβ := Lib.hid hβ
  replace hβ2 := Lib.hid hβ2
  replace i1 := Lib.hid i1
  replace hα := Lib.hid hα
  replace hn := Lib.hid hn
  replace hbq := Lib.hid hbq
  replace hγ := Lib.hid hγ
  replace hγ2 := Lib.hid hγ2
  have hE := Ext.refl w
  have d1 : ((24 : Int) < a.length) = False := by simp; omega
  have d2 : ((24 : Int) < b.length) = False := by simp; omega
  go_enter Try.func10, Try.ntmps10
  go_wp2_with fail
  refine (rof_to hO.out ra (Lib.hid (RectsAt.nil _ none)) (by omega) (by simp)).mono ?_
  rintro e w1 ⟨BO, dO, rfl, o, nO, E⟩
  replace ra := Lib.hid (ra.out.ext E)
  replace rb := Lib.hid (rb.out.ext E)
  have rO := Lib.hid (OwnR.at o)
  clear o
  replace hE := hE.trans E
  clear E
  go_wp2_with fail
  refine (is_to hβ2.out ra (by omega)).mono ?_
  rintro e w2 ⟨rfl, E⟩
  replace ra := Lib.hid (ra.out.ext E)
  replace rb := Lib.hid (rb.out.ext E)
  replace rO := Lib.hid (rO.out.ext E)
  replace hE := hE.trans E
  clear E
  go_wp2_with fail
  refine (rrects_to hβ.out ra rO (by omega) (by omega)).mono ?_
  rintro e w3 ⟨rfl, E⟩
  replace ra := Lib.hid (ra.out.ext E)
  replace rb := Lib.hid (rb.out.ext E)
  replace rO := Lib.hid (rO.out.ext E)
  replace hE := hE.trans E
  clear E
  go_wp2_with fail
  refine (is_to i1.out rO (by omega)).mono ?_
  rintro e w4 ⟨rfl, E⟩
  replace ra := Lib.hid (ra.out.ext E)
  replace rb := Lib.hid (rb.out.ext E)
  replace rO := Lib.hid (rO.out.ext E)
  replace hE := hE.trans E
  clear E
  go_wp2_with fail
  refine (has_to hα.out ra (by omega)).mono ?_
  rintro e w5 ⟨rfl, E⟩
  replace ra := Lib.hid (ra.out.ext E)
  replace rb := Lib.hid (rb.out.ext E)
  replace rO := Lib.hid (rO.out.ext E)
  replace hE := hE.trans E
  clear E
  go_wp2_with fail
  refine (rhas_to hα.out ra (by omega)).mono ?_
  rintro e w6 ⟨rfl, E⟩
  replace ra := Lib.hid (ra.out.ext E)
  replace rb := Lib.hid (rb.out.ext E)
  replace rO := Lib.hid (rO.out.ext E)
  replace hE := hE.trans E
  clear E
  go_wp2_with fail
  refine (area_to hn.out ra (by omega)).mono ?_
  rintro e w7 ⟨rfl, E⟩
  replace ra := Lib.hid (ra.out.ext E)
  replace rb := Lib.hid (rb.out.ext E)
  replace rO := Lib.hid (rO.out.ext E)
  replace hE := hE.trans E
  clear E
  go_wp2_with fail
  refine (rarea_to hn.out ra (by omega)).mono ?_
  rintro e w8 ⟨rfl, E⟩
  replace ra := Lib.hid (ra.out.ext E)
  replace rb := Lib.hid (rb.out.ext E)
  replace rO := Lib.hid (rO.out.ext E)
  replace hE := hE.trans E
  clear E
  go_wp2_with fail
  refine (shift_to hZ.out ra (by omega)).mono ?_
  rintro e w9 ⟨BS, dS, rfl, o, nS, E⟩
  replace ra := Lib.hid (ra.out.ext E)
  replace rb := Lib.hid (rb.out.ext E)
  replace rO := Lib.hid (rO.out.ext E)
  have rS := Lib.hid (OwnR.at o)
  clear o
  replace hE := hE.trans E
  clear E
  go_wp2_with fail
  refine (rshift_to hZ.out ra (by omega)).mono ?_
  rintro e w10 ⟨BT, dT, rfl, o, nT, E⟩
  replace ra := Lib.hid (ra.out.ext E)
  replace rb := Lib.hid (rb.out.ext E)
  replace rO := Lib.hid (rO.out.ext E)
  replace rS := Lib.hid (rS.out.ext E)
  have rT := Lib.hid (OwnR.at o)
  clear o
  replace hE := hE.trans E
  clear E
  go_wp2_with fail
  refine (rrects_to (eqR_true rfl) rS rT (by omega) (by omega)).mono ?_
  rintro e w11 ⟨rfl, E⟩
  replace ra := Lib.hid (ra.out.ext E)
  replace rb := Lib.hid (rb.out.ext E)
  replace rO := Lib.hid (rO.out.ext E)
  replace hE := hE.trans E
  clear E
  go_wp2_with fail
  refine (bounds_to hbq.out ra (by omega)).mono ?_
  rintro e w12 ⟨rfl, E⟩
  replace ra := Lib.hid (ra.out.ext E)
  replace rb := Lib.hid (rb.out.ext E)
  replace rO := Lib.hid (rO.out.ext E)
  replace hE := hE.trans E
  clear E
  go_wp2_with fail
  refine (rbounds_to hbq.out ra (by omega)).mono ?_
  rintro e w13 ⟨rfl, E⟩
  replace ra := Lib.hid (ra.out.ext E)
  replace rb := Lib.hid (rb.out.ext E)
  replace rO := Lib.hid (rO.out.ext E)
  replace hE := hE.trans E
  clear E
  go_wp2_with fail
  refine (same_to hγ2.out ra rb (by omega) (by omega)).mono ?_
  rintro e w14 ⟨rfl, E⟩
  replace ra := Lib.hid (ra.out.ext E)
  replace rb := Lib.hid (rb.out.ext E)
  replace rO := Lib.hid (rO.out.ext E)
  replace hE := hE.trans E
  clear E
  go_wp2_with fail
  refine (rof_to hP.out rb (Lib.hid (RectsAt.nil _ none)) (by omega) (by simp)).mono ?_
  rintro e w15 ⟨BP, dP, rfl, o, nP, E⟩
  replace ra := Lib.hid (ra.out.ext E)
  replace rb := Lib.hid (rb.out.ext E)
  replace rO := Lib.hid (rO.out.ext E)
  have rP := Lib.hid (OwnR.at o)
  clear o
  replace hE := hE.trans E
  clear E
  go_wp2_with fail
  refine (rrects_to hγ.out rO rP (by omega) (by omega)).mono ?_
  rintro e w16 ⟨rfl, E⟩
  replace hE := hE.trans E
  clear E
  go_wp2_with fail
  refine (wakes_any _).mono ?_
  rintro e w17 ⟨rfl, E⟩
  replace hE := hE.trans E
  clear E
  go_wp2_with fail
  go_ret
  exact ⟨rfl, hE⟩

theorem looks_any (aA : Option Addr) (ca : Nat) (a : List Rect) (bA : Option Addr) (cb : Nat) (b : List Rect) (x y : Int) (w : World) (ra : RectsAt w aA a) (rb : RectsAt w bA b) (na : aA = none → ca = 0) (nb : bA = none → cb = 0) :
    Calls Try.prog 10 #[.slice aA a.length ca, .slice bA b.length cb, .int .i64 x, .int .i64 y] w fun e w' => e = .returned (.bool true) ∧ Ext w w' := by
  by_cases h1 : a.length ≤ 24
  · by_cases h2 : b.length ≤ 24
    · exact looks_in aA bA ca cb a b x y w (Lib.hid ra) (Lib.hid rb) na nb h1 h2
    · have d1 : ((24 : Int) < a.length) = False := by simp; omega
      have d2 : ((24 : Int) < b.length) = True := by simp; omega
      clear ra rb
      go_enter Try.func10, Try.ntmps10
      go_wp2_with fail
      refine (wakes_any _).mono ?_
      rintro e w1 ⟨rfl, hE⟩
      go_wp2_with fail
      go_ret
      exact ⟨rfl, hE⟩
  · have d1 : ((24 : Int) < a.length) = True := by simp; omega
    clear ra rb
    go_enter Try.func10, Try.ntmps10
    go_wp2_with fail
    refine (wakes_any _).mono ?_
    rintro e w1 ⟨rfl, hE⟩
    go_wp2_with fail
    go_ret
    exact ⟨rfl, hE⟩
end Go.Proofs.Ytilcggkbancniaa
