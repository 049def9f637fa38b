/- The walk of the law RegionSteps. Printed by gen_steps.py. -/
/- The law RegionSteps, the long lists too. -/
/- The row RegionSteps. -/
import Derived.Test.YtilcggkbancniaaRegO
import Derived.Test.YtilcggkbancniaaRows
import Derived.Test.YtilcggkbancniaaArgs
import Derived.ProofKit
import Derived.OpenShut
import Derived.ChangeOld
import Derived.Below
import Derived.SizedLaws
set_option linter.unusedVariables false
set_option linter.unusedSimpArgs false
namespace Go.Proofs.Ytilcggkbancniaa
open Go.RowKit

theorem steps_or {a b c : List Rect} : listOf 0 (listOf 0 a b) c = listOf 0 a (listOf 0 b c) := listOf_eq fun x y => by simp only [listOf_has]; cases hasL a x y <;> cases hasL b x y <;> cases hasL c x y <;> rfl
theorem steps_and {a b c : List Rect} : listOf 2 (listOf 2 a b) c = listOf 2 a (listOf 2 b c) := listOf_eq fun x y => by simp only [listOf_has]; cases hasL a x y <;> cases hasL b x y <;> cases hasL c x y <;> rfl
theorem steps_minus {a b c : List Rect} : listOf 1 (listOf 1 a b) c = listOf 1 a (listOf 0 b c) := listOf_eq fun x y => by simp only [listOf_has]; cases hasL a x y <;> cases hasL b x y <;> cases hasL c x y <;> rfl
theorem steps_dist {a b c : List Rect} : listOf 2 (listOf 0 a b) c = listOf 0 (listOf 2 a c) (listOf 2 b c) := listOf_eq fun x y => by simp only [listOf_has]; cases hasL a x y <;> cases hasL b x y <;> cases hasL c x y <;> rfl
theorem steps_self {a : List Rect} : listOf 2 a a = listOf 0 a [] := listOf_eq fun x y => by rw [show hasL [] x y = false from rfl]; cases hasL a x y <;> rfl
theorem listOf_none : listOf 0 [] [] = [] := rfl
theorem steps_none {a : List Rect} : listOf 1 a a = [] := by rw [← listOf_none]; exact listOf_eq fun x y => by rw [show hasL [] x y = false from rfl]; cases hasL a x y <;> rfl
set_option maxHeartbeats 8000000 in
theorem steps_in (aA bA cA : Option Addr) (ca cb cc : Nat) (a b c : List Rect) (w : World) (ra : Hid (RectsAt w aA a)) (rb : Hid (RectsAt w bA b)) (rc : Hid (RectsAt w cA c)) (na : aA = none → ca = 0) (nb : bA = none → cb = 0) (nc : cA = none → cc = 0) (hla : a.length ≤ 24) (hlb : b.length ≤ 24) (hlc : c.length ≤ 24) :
    Calls Try.prog 7 #[.slice aA a.length ca, .slice bA b.length cb, .slice cA c.length cc] w fun e w' => e = .returned (.bool true) ∧ Ext w w' := by
  obtain ⟨L0, hL0⟩ : ∃ L, listOf 0 a b = L := ⟨_, rfl⟩
  have lL0 : L0.length ≤ 2199023255552 := hL0 ▸ listOf_length 0 a b
  obtain ⟨L1, hL1⟩ : ∃ L, listOf 0 b c = L := ⟨_, rfl⟩
  have lL1 : L1.length ≤ 2199023255552 := hL1 ▸ listOf_length 0 b c
  obtain ⟨L2, hL2⟩ : ∃ L, listOf 0 L0 c = L := ⟨_, rfl⟩
  have lL2 : L2.length ≤ 2199023255552 := hL2 ▸ listOf_length 0 L0 c
  obtain ⟨L3, hL3⟩ : ∃ L, listOf 0 a L1 = L := ⟨_, rfl⟩
  have lL3 : L3.length ≤ 2199023255552 := hL3 ▸ listOf_length 0 a L1
  obtain ⟨L4, hL4⟩ : ∃ L, listOf 2 a b = L := ⟨_, rfl⟩
  have lL4 : L4.length ≤ 2199023255552 := hL4 ▸ listOf_length 2 a b
  obtain ⟨L5, hL5⟩ : ∃ L, listOf 2 L4 c = L := ⟨_, rfl⟩
  have lL5 : L5.length ≤ 2199023255552 := hL5 ▸ listOf_length 2 L4 c
  obtain ⟨L6, hL6⟩ : ∃ L, listOf 2 b c = L := ⟨_, rfl⟩
  have lL6 : L6.length ≤ 2199023255552 := hL6 ▸ listOf_length 2 b c
  obtain ⟨L7, hL7⟩ : ∃ L, listOf 2 a L6 = L := ⟨_, rfl⟩
  have lL7 : L7.length ≤ 2199023255552 := hL7 ▸ listOf_length 2 a L6
  obtain ⟨L8, hL8⟩ : ∃ L, listOf 1 a b = L := ⟨_, rfl⟩
  have lL8 : L8.length ≤ 2199023255552 := hL8 ▸ listOf_length 1 a b
  obtain ⟨L9, hL9⟩ : ∃ L, listOf 1 L8 c = L := ⟨_, rfl⟩
  have lL9 : L9.length ≤ 2199023255552 := hL9 ▸ listOf_length 1 L8 c
  obtain ⟨L10, hL10⟩ : ∃ L, listOf 1 a L1 = L := ⟨_, rfl⟩
  have lL10 : L10.length ≤ 2199023255552 := hL10 ▸ listOf_length 1 a L1
  obtain ⟨L11, hL11⟩ : ∃ L, listOf 2 L0 c = L := ⟨_, rfl⟩
  have lL11 : L11.length ≤ 2199023255552 := hL11 ▸ listOf_length 2 L0 c
  obtain ⟨L12, hL12⟩ : ∃ L, listOf 2 a c = L := ⟨_, rfl⟩
  have lL12 : L12.length ≤ 2199023255552 := hL12 ▸ listOf_length 2 a c
  obtain ⟨L13, hL13⟩ : ∃ L, listOf 0 L12 L6 = L := ⟨_, rfl⟩
  have lL13 : L13.length ≤ 2199023255552 := hL13 ▸ listOf_length 0 L12 L6
  obtain ⟨L14, hL14⟩ : ∃ L, listOf 1 a a = L := ⟨_, rfl⟩
  have lL14 : L14.length ≤ 2199023255552 := hL14 ▸ listOf_length 1 a a
  obtain ⟨L15, hL15⟩ : ∃ L, listOf 2 a a = L := ⟨_, rfl⟩
  have lL15 : L15.length ≤ 2199023255552 := hL15 ▸ listOf_length 2 a a
  obtain ⟨L16, hL16⟩ : ∃ L, listOf 0 a [] = L := ⟨_, rfl⟩
  have lL16 : L16.length ≤ 2199023255552 := hL16 ▸ listOf_length 0 a []
  have q11 : eqR L2 L3 = true := eqR_true (by rw [← hL2, ← hL0, ← hL3, ← hL1]; first | exact steps_or | exact steps_and | exact steps_minus | exact steps_dist | exact steps_self)
  have q22 : eqR L5 L7 = true := eqR_true (by rw [← hL5, ← hL4, ← hL7, ← hL6]; first | exact steps_or | exact steps_and | exact steps_minus | exact steps_dist | exact steps_self)
  have q30 : eqR L9 L10 = true := eqR_true (by rw [← hL9, ← hL8, ← hL10, ← hL1]; first | exact steps_or | exact steps_and | exact steps_minus | exact steps_dist | exact steps_self)
  have q40 : eqR L11 L13 = true := eqR_true (by rw [← hL11, ← hL0, ← hL13, ← hL12, ← hL6]; first | exact steps_or | exact steps_and | exact steps_minus | exact steps_dist | exact steps_self)
  have q49 : eqR L15 L16 = true := eqR_true (by rw [← hL15, ← hL16]; first | exact steps_or | exact steps_and | exact steps_minus | exact steps_dist | exact steps_self)
  obtain rfl : L14 = [] := hL14.symm.trans steps_none
  have hL0 := Lib.hid hL0
  have hL1 := Lib.hid hL1
  have hL2 := Lib.hid hL2
  have hL3 := Lib.hid hL3
  have hL4 := Lib.hid hL4
  have hL5 := Lib.hid hL5
  have hL6 := Lib.hid hL6
  have hL7 := Lib.hid hL7
  have hL8 := Lib.hid hL8
  have hL9 := Lib.hid hL9
  have hL10 := Lib.hid hL10
  have hL11 := Lib.hid hL11
  have hL12 := Lib.hid hL12
  have hL13 := Lib.hid hL13
  have hL14 := Lib.hid hL14
  have hL15 := Lib.hid hL15
  have hL16 := Lib.hid hL16
  have hE := Ext.refl w
  have d1 : ((24 : Int) < a.length) = False := by simp; omega
  have d2 : ((24 : Int) < b.length) = False := by simp; omega
  have d3 : ((24 : Int) < c.length) = False := by simp; omega
  go_enter Try.func7, Try.ntmps7
  go_wp2_with fail
  refine (own_to ra na (by omega)).mono ?_
  rintro e w1 ⟨B1, d1, rfl, o, n1, E⟩
  replace ra := Lib.hid (ra.out.ext E)
  replace rb := Lib.hid (rb.out.ext E)
  replace rc := Lib.hid (rc.out.ext E)
  have r1 := Lib.hid (OwnR.at o)
  clear o
  replace hE := hE.trans E
  clear E
  go_wp2_with fail
  refine (own_to rb nb (by omega)).mono ?_
  rintro e w2 ⟨B2, d2, rfl, o, n2, E⟩
  replace ra := Lib.hid (ra.out.ext E)
  replace rb := Lib.hid (rb.out.ext E)
  replace rc := Lib.hid (rc.out.ext E)
  replace r1 := Lib.hid (r1.out.ext E)
  have r2 := Lib.hid (OwnR.at o)
  clear o
  replace hE := hE.trans E
  clear E
  go_wp2_with fail
  refine (or_to hL0.out r1 r2 (by omega) (by omega)).mono ?_
  rintro e w3 ⟨B3, d3, rfl, o, n3, E⟩
  replace ra := Lib.hid (ra.out.ext E)
  replace rb := Lib.hid (rb.out.ext E)
  replace rc := Lib.hid (rc.out.ext E)
  have r3 := Lib.hid (OwnR.at o)
  clear o
  replace hE := hE.trans E
  clear E
  go_wp2_with fail
  refine (own_to rb nb (by omega)).mono ?_
  rintro e w4 ⟨B4, d4, rfl, o, n4, E⟩
  replace ra := Lib.hid (ra.out.ext E)
  replace rb := Lib.hid (rb.out.ext E)
  replace rc := Lib.hid (rc.out.ext E)
  replace r3 := Lib.hid (r3.out.ext E)
  have r4 := Lib.hid (OwnR.at o)
  clear o
  replace hE := hE.trans E
  clear E
  go_wp2_with fail
  refine (own_to rc nc (by omega)).mono ?_
  rintro e w5 ⟨B5, d5, rfl, o, n5, E⟩
  replace ra := Lib.hid (ra.out.ext E)
  replace rb := Lib.hid (rb.out.ext E)
  replace rc := Lib.hid (rc.out.ext E)
  replace r3 := Lib.hid (r3.out.ext E)
  replace r4 := Lib.hid (r4.out.ext E)
  have r5 := Lib.hid (OwnR.at o)
  clear o
  replace hE := hE.trans E
  clear E
  go_wp2_with fail
  refine (or_to hL1.out r4 r5 (by omega) (by omega)).mono ?_
  rintro e w6 ⟨B6, d6, rfl, o, n6, E⟩
  replace ra := Lib.hid (ra.out.ext E)
  replace rb := Lib.hid (rb.out.ext E)
  replace rc := Lib.hid (rc.out.ext E)
  replace r3 := Lib.hid (r3.out.ext E)
  have r6 := Lib.hid (OwnR.at o)
  clear o
  replace hE := hE.trans E
  clear E
  go_wp2_with fail
  refine (own_to rc nc (by omega)).mono ?_
  rintro e w7 ⟨B7, d7, rfl, o, n7, E⟩
  replace ra := Lib.hid (ra.out.ext E)
  replace rb := Lib.hid (rb.out.ext E)
  replace rc := Lib.hid (rc.out.ext E)
  replace r3 := Lib.hid (r3.out.ext E)
  replace r6 := Lib.hid (r6.out.ext E)
  have r7 := Lib.hid (OwnR.at o)
  clear o
  replace hE := hE.trans E
  clear E
  go_wp2_with fail
  refine (or_to hL2.out r3 r7 (by omega) (by omega)).mono ?_
  rintro e w8 ⟨B8, d8, rfl, o, n8, E⟩
  replace ra := Lib.hid (ra.out.ext E)
  replace rb := Lib.hid (rb.out.ext E)
  replace rc := Lib.hid (rc.out.ext E)
  replace r3 := Lib.hid (r3.out.ext E)
  replace r6 := Lib.hid (r6.out.ext E)
  have r8 := Lib.hid (OwnR.at o)
  clear o
  replace hE := hE.trans E
  clear E
  go_wp2_with fail
  refine (own_to ra na (by omega)).mono ?_
  rintro e w9 ⟨B9, d9, rfl, o, n9, E⟩
  replace ra := Lib.hid (ra.out.ext E)
  replace rb := Lib.hid (rb.out.ext E)
  replace rc := Lib.hid (rc.out.ext E)
  replace r3 := Lib.hid (r3.out.ext E)
  replace r6 := Lib.hid (r6.out.ext E)
  replace r8 := Lib.hid (r8.out.ext E)
  have r9 := Lib.hid (OwnR.at o)
  clear o
  replace hE := hE.trans E
  clear E
  go_wp2_with fail
  refine (or_to hL3.out r9 r6 (by omega) (by omega)).mono ?_
  rintro e w10 ⟨B10, d10, rfl, o, n10, E⟩
  replace ra := Lib.hid (ra.out.ext E)
  replace rb := Lib.hid (rb.out.ext E)
  replace rc := Lib.hid (rc.out.ext E)
  replace r3 := Lib.hid (r3.out.ext E)
  replace r6 := Lib.hid (r6.out.ext E)
  replace r8 := Lib.hid (r8.out.ext E)
  have r10 := Lib.hid (OwnR.at o)
  clear o
  replace hE := hE.trans E
  clear E
  go_wp2_with fail
  refine (rects_to q11 r8 r10 (by omega) (by omega)).mono ?_
  rintro e w11 ⟨rfl, E⟩
  replace ra := Lib.hid (ra.out.ext E)
  replace rb := Lib.hid (rb.out.ext E)
  replace rc := Lib.hid (rc.out.ext E)
  replace r3 := Lib.hid (r3.out.ext E)
  replace r6 := Lib.hid (r6.out.ext E)
  replace hE := hE.trans E
  clear E
  go_wp2_with fail
  refine (own_to ra na (by omega)).mono ?_
  rintro e w12 ⟨B12, d12, rfl, o, n12, E⟩
  replace ra := Lib.hid (ra.out.ext E)
  replace rb := Lib.hid (rb.out.ext E)
  replace rc := Lib.hid (rc.out.ext E)
  replace r3 := Lib.hid (r3.out.ext E)
  replace r6 := Lib.hid (r6.out.ext E)
  have r12 := Lib.hid (OwnR.at o)
  clear o
  replace hE := hE.trans E
  clear E
  go_wp2_with fail
  refine (own_to rb nb (by omega)).mono ?_
  rintro e w13 ⟨B13, d13, rfl, o, n13, E⟩
  replace ra := Lib.hid (ra.out.ext E)
  replace rb := Lib.hid (rb.out.ext E)
  replace rc := Lib.hid (rc.out.ext E)
  replace r3 := Lib.hid (r3.out.ext E)
  replace r6 := Lib.hid (r6.out.ext E)
  replace r12 := Lib.hid (r12.out.ext E)
  have r13 := Lib.hid (OwnR.at o)
  clear o
  replace hE := hE.trans E
  clear E
  go_wp2_with fail
  refine (and_to hL4.out r12 r13 (by omega) (by omega)).mono ?_
  rintro e w14 ⟨B14, d14, rfl, o, n14, E⟩
  replace ra := Lib.hid (ra.out.ext E)
  replace rb := Lib.hid (rb.out.ext E)
  replace rc := Lib.hid (rc.out.ext E)
  replace r3 := Lib.hid (r3.out.ext E)
  replace r6 := Lib.hid (r6.out.ext E)
  have r14 := Lib.hid (OwnR.at o)
  clear o
  replace hE := hE.trans E
  clear E
  go_wp2_with fail
  refine (own_to rc nc (by omega)).mono ?_
  rintro e w15 ⟨B15, d15, rfl, o, n15, E⟩
  replace ra := Lib.hid (ra.out.ext E)
  replace rb := Lib.hid (rb.out.ext E)
  replace rc := Lib.hid (rc.out.ext E)
  replace r3 := Lib.hid (r3.out.ext E)
  replace r6 := Lib.hid (r6.out.ext E)
  replace r14 := Lib.hid (r14.out.ext E)
  have r15 := Lib.hid (OwnR.at o)
  clear o
  replace hE := hE.trans E
  clear E
  go_wp2_with fail
  refine (and_to hL5.out r14 r15 (by omega) (by omega)).mono ?_
  rintro e w16 ⟨B16, d16, rfl, o, n16, E⟩
  replace ra := Lib.hid (ra.out.ext E)
  replace rb := Lib.hid (rb.out.ext E)
  replace rc := Lib.hid (rc.out.ext E)
  replace r3 := Lib.hid (r3.out.ext E)
  replace r6 := Lib.hid (r6.out.ext E)
  have r16 := Lib.hid (OwnR.at o)
  clear o
  replace hE := hE.trans E
  clear E
  go_wp2_with fail
  refine (own_to ra na (by omega)).mono ?_
  rintro e w17 ⟨B17, d17, rfl, o, n17, E⟩
  replace ra := Lib.hid (ra.out.ext E)
  replace rb := Lib.hid (rb.out.ext E)
  replace rc := Lib.hid (rc.out.ext E)
  replace r3 := Lib.hid (r3.out.ext E)
  replace r6 := Lib.hid (r6.out.ext E)
  replace r16 := Lib.hid (r16.out.ext E)
  have r17 := Lib.hid (OwnR.at o)
  clear o
  replace hE := hE.trans E
  clear E
  go_wp2_with fail
  refine (own_to rb nb (by omega)).mono ?_
  rintro e w18 ⟨B18, d18, rfl, o, n18, E⟩
  replace ra := Lib.hid (ra.out.ext E)
  replace rb := Lib.hid (rb.out.ext E)
  replace rc := Lib.hid (rc.out.ext E)
  replace r3 := Lib.hid (r3.out.ext E)
  replace r6 := Lib.hid (r6.out.ext E)
  replace r16 := Lib.hid (r16.out.ext E)
  replace r17 := Lib.hid (r17.out.ext E)
  have r18 := Lib.hid (OwnR.at o)
  clear o
  replace hE := hE.trans E
  clear E
  go_wp2_with fail
  refine (own_to rc nc (by omega)).mono ?_
  rintro e w19 ⟨B19, d19, rfl, o, n19, E⟩
  replace ra := Lib.hid (ra.out.ext E)
  replace rb := Lib.hid (rb.out.ext E)
  replace rc := Lib.hid (rc.out.ext E)
  replace r3 := Lib.hid (r3.out.ext E)
  replace r6 := Lib.hid (r6.out.ext E)
  replace r16 := Lib.hid (r16.out.ext E)
  replace r17 := Lib.hid (r17.out.ext E)
  replace r18 := Lib.hid (r18.out.ext E)
  have r19 := Lib.hid (OwnR.at o)
  clear o
  replace hE := hE.trans E
  clear E
  go_wp2_with fail
  refine (and_to hL6.out r18 r19 (by omega) (by omega)).mono ?_
  rintro e w20 ⟨B20, d20, rfl, o, n20, E⟩
  replace ra := Lib.hid (ra.out.ext E)
  replace rb := Lib.hid (rb.out.ext E)
  replace rc := Lib.hid (rc.out.ext E)
  replace r3 := Lib.hid (r3.out.ext E)
  replace r6 := Lib.hid (r6.out.ext E)
  replace r16 := Lib.hid (r16.out.ext E)
  replace r17 := Lib.hid (r17.out.ext E)
  have r20 := Lib.hid (OwnR.at o)
  clear o
  replace hE := hE.trans E
  clear E
  go_wp2_with fail
  refine (and_to hL7.out r17 r20 (by omega) (by omega)).mono ?_
  rintro e w21 ⟨B21, d21, rfl, o, n21, E⟩
  replace ra := Lib.hid (ra.out.ext E)
  replace rb := Lib.hid (rb.out.ext E)
  replace rc := Lib.hid (rc.out.ext E)
  replace r3 := Lib.hid (r3.out.ext E)
  replace r6 := Lib.hid (r6.out.ext E)
  replace r16 := Lib.hid (r16.out.ext E)
  have r21 := Lib.hid (OwnR.at o)
  clear o
  replace hE := hE.trans E
  clear E
  go_wp2_with fail
  refine (rects_to q22 r16 r21 (by omega) (by omega)).mono ?_
  rintro e w22 ⟨rfl, E⟩
  replace ra := Lib.hid (ra.out.ext E)
  replace rb := Lib.hid (rb.out.ext E)
  replace rc := Lib.hid (rc.out.ext E)
  replace r3 := Lib.hid (r3.out.ext E)
  replace r6 := Lib.hid (r6.out.ext E)
  replace hE := hE.trans E
  clear E
  go_wp2_with fail
  refine (own_to ra na (by omega)).mono ?_
  rintro e w23 ⟨B23, d23, rfl, o, n23, E⟩
  replace ra := Lib.hid (ra.out.ext E)
  replace rb := Lib.hid (rb.out.ext E)
  replace rc := Lib.hid (rc.out.ext E)
  replace r3 := Lib.hid (r3.out.ext E)
  replace r6 := Lib.hid (r6.out.ext E)
  have r23 := Lib.hid (OwnR.at o)
  clear o
  replace hE := hE.trans E
  clear E
  go_wp2_with fail
  refine (own_to rb nb (by omega)).mono ?_
  rintro e w24 ⟨B24, d24, rfl, o, n24, E⟩
  replace ra := Lib.hid (ra.out.ext E)
  replace rb := Lib.hid (rb.out.ext E)
  replace rc := Lib.hid (rc.out.ext E)
  replace r3 := Lib.hid (r3.out.ext E)
  replace r6 := Lib.hid (r6.out.ext E)
  replace r23 := Lib.hid (r23.out.ext E)
  have r24 := Lib.hid (OwnR.at o)
  clear o
  replace hE := hE.trans E
  clear E
  go_wp2_with fail
  refine (minus_to hL8.out r23 r24 (by omega) (by omega)).mono ?_
  rintro e w25 ⟨B25, d25, rfl, o, n25, E⟩
  replace ra := Lib.hid (ra.out.ext E)
  replace rb := Lib.hid (rb.out.ext E)
  replace rc := Lib.hid (rc.out.ext E)
  replace r3 := Lib.hid (r3.out.ext E)
  replace r6 := Lib.hid (r6.out.ext E)
  have r25 := Lib.hid (OwnR.at o)
  clear o
  replace hE := hE.trans E
  clear E
  go_wp2_with fail
  refine (own_to rc nc (by omega)).mono ?_
  rintro e w26 ⟨B26, d26, rfl, o, n26, E⟩
  replace ra := Lib.hid (ra.out.ext E)
  replace rb := Lib.hid (rb.out.ext E)
  replace rc := Lib.hid (rc.out.ext E)
  replace r3 := Lib.hid (r3.out.ext E)
  replace r6 := Lib.hid (r6.out.ext E)
  replace r25 := Lib.hid (r25.out.ext E)
  have r26 := Lib.hid (OwnR.at o)
  clear o
  replace hE := hE.trans E
  clear E
  go_wp2_with fail
  refine (minus_to hL9.out r25 r26 (by omega) (by omega)).mono ?_
  rintro e w27 ⟨B27, d27, rfl, o, n27, E⟩
  replace ra := Lib.hid (ra.out.ext E)
  replace rb := Lib.hid (rb.out.ext E)
  replace rc := Lib.hid (rc.out.ext E)
  replace r3 := Lib.hid (r3.out.ext E)
  replace r6 := Lib.hid (r6.out.ext E)
  have r27 := Lib.hid (OwnR.at o)
  clear o
  replace hE := hE.trans E
  clear E
  go_wp2_with fail
  refine (own_to ra na (by omega)).mono ?_
  rintro e w28 ⟨B28, d28, rfl, o, n28, E⟩
  replace ra := Lib.hid (ra.out.ext E)
  replace rb := Lib.hid (rb.out.ext E)
  replace rc := Lib.hid (rc.out.ext E)
  replace r3 := Lib.hid (r3.out.ext E)
  replace r6 := Lib.hid (r6.out.ext E)
  replace r27 := Lib.hid (r27.out.ext E)
  have r28 := Lib.hid (OwnR.at o)
  clear o
  replace hE := hE.trans E
  clear E
  go_wp2_with fail
  refine (minus_to hL10.out r28 r6 (by omega) (by omega)).mono ?_
  rintro e w29 ⟨B29, d29, rfl, o, n29, E⟩
  replace ra := Lib.hid (ra.out.ext E)
  replace rb := Lib.hid (rb.out.ext E)
  replace rc := Lib.hid (rc.out.ext E)
  replace r3 := Lib.hid (r3.out.ext E)
  replace r27 := Lib.hid (r27.out.ext E)
  have r29 := Lib.hid (OwnR.at o)
  clear o
  replace hE := hE.trans E
  clear E
  go_wp2_with fail
  refine (rects_to q30 r27 r29 (by omega) (by omega)).mono ?_
  rintro e w30 ⟨rfl, E⟩
  replace ra := Lib.hid (ra.out.ext E)
  replace rb := Lib.hid (rb.out.ext E)
  replace rc := Lib.hid (rc.out.ext E)
  replace r3 := Lib.hid (r3.out.ext E)
  replace hE := hE.trans E
  clear E
  go_wp2_with fail
  refine (own_to rc nc (by omega)).mono ?_
  rintro e w31 ⟨B31, d31, rfl, o, n31, E⟩
  replace ra := Lib.hid (ra.out.ext E)
  replace rb := Lib.hid (rb.out.ext E)
  replace rc := Lib.hid (rc.out.ext E)
  replace r3 := Lib.hid (r3.out.ext E)
  have r31 := Lib.hid (OwnR.at o)
  clear o
  replace hE := hE.trans E
  clear E
  go_wp2_with fail
  refine (and_to hL11.out r3 r31 (by omega) (by omega)).mono ?_
  rintro e w32 ⟨B32, d32, rfl, o, n32, E⟩
  replace ra := Lib.hid (ra.out.ext E)
  replace rb := Lib.hid (rb.out.ext E)
  replace rc := Lib.hid (rc.out.ext E)
  have r32 := Lib.hid (OwnR.at o)
  clear o
  replace hE := hE.trans E
  clear E
  go_wp2_with fail
  refine (own_to ra na (by omega)).mono ?_
  rintro e w33 ⟨B33, d33, rfl, o, n33, E⟩
  replace ra := Lib.hid (ra.out.ext E)
  replace rb := Lib.hid (rb.out.ext E)
  replace rc := Lib.hid (rc.out.ext E)
  replace r32 := Lib.hid (r32.out.ext E)
  have r33 := Lib.hid (OwnR.at o)
  clear o
  replace hE := hE.trans E
  clear E
  go_wp2_with fail
  refine (own_to rc nc (by omega)).mono ?_
  rintro e w34 ⟨B34, d34, rfl, o, n34, E⟩
  replace ra := Lib.hid (ra.out.ext E)
  replace rb := Lib.hid (rb.out.ext E)
  replace rc := Lib.hid (rc.out.ext E)
  replace r32 := Lib.hid (r32.out.ext E)
  replace r33 := Lib.hid (r33.out.ext E)
  have r34 := Lib.hid (OwnR.at o)
  clear o
  replace hE := hE.trans E
  clear E
  go_wp2_with fail
  refine (and_to hL12.out r33 r34 (by omega) (by omega)).mono ?_
  rintro e w35 ⟨B35, d35, rfl, o, n35, E⟩
  replace ra := Lib.hid (ra.out.ext E)
  replace rb := Lib.hid (rb.out.ext E)
  replace rc := Lib.hid (rc.out.ext E)
  replace r32 := Lib.hid (r32.out.ext E)
  have r35 := Lib.hid (OwnR.at o)
  clear o
  replace hE := hE.trans E
  clear E
  go_wp2_with fail
  refine (own_to rb nb (by omega)).mono ?_
  rintro e w36 ⟨B36, d36, rfl, o, n36, E⟩
  replace ra := Lib.hid (ra.out.ext E)
  replace rb := Lib.hid (rb.out.ext E)
  replace rc := Lib.hid (rc.out.ext E)
  replace r32 := Lib.hid (r32.out.ext E)
  replace r35 := Lib.hid (r35.out.ext E)
  have r36 := Lib.hid (OwnR.at o)
  clear o
  replace hE := hE.trans E
  clear E
  go_wp2_with fail
  refine (own_to rc nc (by omega)).mono ?_
  rintro e w37 ⟨B37, d37, rfl, o, n37, E⟩
  replace ra := Lib.hid (ra.out.ext E)
  replace rb := Lib.hid (rb.out.ext E)
  replace rc := Lib.hid (rc.out.ext E)
  replace r32 := Lib.hid (r32.out.ext E)
  replace r35 := Lib.hid (r35.out.ext E)
  replace r36 := Lib.hid (r36.out.ext E)
  have r37 := Lib.hid (OwnR.at o)
  clear o
  replace hE := hE.trans E
  clear E
  go_wp2_with fail
  refine (and_to hL6.out r36 r37 (by omega) (by omega)).mono ?_
  rintro e w38 ⟨B38, d38, rfl, o, n38, E⟩
  replace ra := Lib.hid (ra.out.ext E)
  replace rb := Lib.hid (rb.out.ext E)
  replace rc := Lib.hid (rc.out.ext E)
  replace r32 := Lib.hid (r32.out.ext E)
  replace r35 := Lib.hid (r35.out.ext E)
  have r38 := Lib.hid (OwnR.at o)
  clear o
  replace hE := hE.trans E
  clear E
  go_wp2_with fail
  refine (or_to hL13.out r35 r38 (by omega) (by omega)).mono ?_
  rintro e w39 ⟨B39, d39, rfl, o, n39, E⟩
  replace ra := Lib.hid (ra.out.ext E)
  replace rb := Lib.hid (rb.out.ext E)
  replace rc := Lib.hid (rc.out.ext E)
  replace r32 := Lib.hid (r32.out.ext E)
  have r39 := Lib.hid (OwnR.at o)
  clear o
  replace hE := hE.trans E
  clear E
  go_wp2_with fail
  refine (rects_to q40 r32 r39 (by omega) (by omega)).mono ?_
  rintro e w40 ⟨rfl, E⟩
  replace ra := Lib.hid (ra.out.ext E)
  replace rb := Lib.hid (rb.out.ext E)
  replace rc := Lib.hid (rc.out.ext E)
  replace hE := hE.trans E
  clear E
  go_wp2_with fail
  refine (own_to ra na (by omega)).mono ?_
  rintro e w41 ⟨B41, d41, rfl, o, n41, E⟩
  replace ra := Lib.hid (ra.out.ext E)
  replace rb := Lib.hid (rb.out.ext E)
  replace rc := Lib.hid (rc.out.ext E)
  have r41 := Lib.hid (OwnR.at o)
  clear o
  replace hE := hE.trans E
  clear E
  go_wp2_with fail
  refine (own_to ra na (by omega)).mono ?_
  rintro e w42 ⟨B42, d42, rfl, o, n42, E⟩
  replace ra := Lib.hid (ra.out.ext E)
  replace rb := Lib.hid (rb.out.ext E)
  replace rc := Lib.hid (rc.out.ext E)
  replace r41 := Lib.hid (r41.out.ext E)
  have r42 := Lib.hid (OwnR.at o)
  clear o
  replace hE := hE.trans E
  clear E
  go_wp2_with fail
  refine (minus_to hL14.out r41 r42 (by omega) (by omega)).mono ?_
  rintro e w43 ⟨B43, d43, rfl, o, n43, E⟩
  replace ra := Lib.hid (ra.out.ext E)
  replace rb := Lib.hid (rb.out.ext E)
  replace rc := Lib.hid (rc.out.ext E)
  have r43 := Lib.hid (OwnR.at o)
  clear o
  replace hE := hE.trans E
  clear E
  go_wp2_with fail
  refine (own_to ra na (by omega)).mono ?_
  rintro e w44 ⟨B44, d44, rfl, o, n44, E⟩
  replace ra := Lib.hid (ra.out.ext E)
  replace rb := Lib.hid (rb.out.ext E)
  replace rc := Lib.hid (rc.out.ext E)
  have r44 := Lib.hid (OwnR.at o)
  clear o
  replace hE := hE.trans E
  clear E
  go_wp2_with fail
  refine (own_to ra na (by omega)).mono ?_
  rintro e w45 ⟨B45, d45, rfl, o, n45, E⟩
  replace ra := Lib.hid (ra.out.ext E)
  replace rb := Lib.hid (rb.out.ext E)
  replace rc := Lib.hid (rc.out.ext E)
  replace r44 := Lib.hid (r44.out.ext E)
  have r45 := Lib.hid (OwnR.at o)
  clear o
  replace hE := hE.trans E
  clear E
  go_wp2_with fail
  refine (and_to hL15.out r44 r45 (by omega) (by omega)).mono ?_
  rintro e w46 ⟨B46, d46, rfl, o, n46, E⟩
  replace ra := Lib.hid (ra.out.ext E)
  replace rb := Lib.hid (rb.out.ext E)
  replace rc := Lib.hid (rc.out.ext E)
  have r46 := Lib.hid (OwnR.at o)
  clear o
  replace hE := hE.trans E
  clear E
  go_wp2_with fail
  refine (own_to ra na (by omega)).mono ?_
  rintro e w47 ⟨B47, d47, rfl, o, n47, E⟩
  replace ra := Lib.hid (ra.out.ext E)
  replace rb := Lib.hid (rb.out.ext E)
  replace rc := Lib.hid (rc.out.ext E)
  replace r46 := Lib.hid (r46.out.ext E)
  have r47 := Lib.hid (OwnR.at o)
  clear o
  replace hE := hE.trans E
  clear E
  go_wp2_with fail
  refine (of_to hL16.out r47 (by omega)).mono ?_
  rintro e w48 ⟨B48, d48, rfl, o, n48, E⟩
  replace ra := Lib.hid (ra.out.ext E)
  replace rb := Lib.hid (rb.out.ext E)
  replace rc := Lib.hid (rc.out.ext E)
  replace r46 := Lib.hid (r46.out.ext E)
  have r48 := Lib.hid (OwnR.at o)
  clear o
  replace hE := hE.trans E
  clear E
  go_wp2_with fail
  refine (rects_to q49 r46 r48 (by omega) (by omega)).mono ?_
  rintro e w49 ⟨rfl, E⟩
  replace ra := Lib.hid (ra.out.ext E)
  replace rb := Lib.hid (rb.out.ext E)
  replace rc := Lib.hid (rc.out.ext E)
  replace hE := hE.trans E
  clear E
  go_wp2_with fail
  refine (wakes_any _).mono ?_
  rintro e w50 ⟨rfl, E⟩
  replace ra := Lib.hid (ra.out.ext E)
  replace rb := Lib.hid (rb.out.ext E)
  replace rc := Lib.hid (rc.out.ext E)
  replace hE := hE.trans E
  clear E
  go_wp2_with fail
  go_ret
  exact ⟨rfl, hE⟩
end Go.Proofs.Ytilcggkbancniaa
set_option linter.unusedVariables false
set_option linter.unusedSimpArgs false
namespace Go.Proofs.Ytilcggkbancniaa
open Go.RowKit

set_option maxHeartbeats 4000000 in
theorem steps_any (aA : Option Addr) (ca : Nat) (a : List Rect) (bA : Option Addr) (cb : Nat) (b : List Rect) (cA : Option Addr) (cc : Nat) (c : List Rect) (w : World) (ra : RectsAt w aA a) (rb : RectsAt w bA b) (rc : RectsAt w cA c) (na : aA = none → ca = 0) (nb : bA = none → cb = 0) (nc : cA = none → cc = 0) :
    Calls Try.prog 7 #[.slice aA a.length ca, .slice bA b.length cb, .slice cA c.length cc] w fun e w' => e = .returned (.bool true) ∧ Ext w w' := by
  by_cases h1 : a.length ≤ 24
  · by_cases h2 : b.length ≤ 24
    · by_cases h3 : c.length ≤ 24
      · exact steps_in aA bA cA ca cb cc a b c w (Lib.hid ra) (Lib.hid rb) (Lib.hid rc) na nb nc h1 h2 h3
      · have d1 : ((24 : Int) < a.length) = False := by simp; omega
        have d2 : ((24 : Int) < b.length) = False := by simp; omega
        have d3 : ((24 : Int) < c.length) = True := by simp; omega
        clear ra rb rc
        go_enter Try.func7, Try.ntmps7
        go_wp2_with fail
        refine (wakes_any _).mono ?_
        rintro e w1 ⟨rfl, hE⟩
        go_wp2_with fail
        go_ret
        exact ⟨rfl, hE⟩
    · have d1 : ((24 : Int) < a.length) = False := by simp; omega
      have d2 : ((24 : Int) < b.length) = True := by simp; omega
      clear ra rb rc
      go_enter Try.func7, Try.ntmps7
      go_wp2_with fail
      refine (wakes_any _).mono ?_
      rintro e w1 ⟨rfl, hE⟩
      go_wp2_with fail
      go_ret
      exact ⟨rfl, hE⟩
  · have d1 : ((24 : Int) < a.length) = True := by simp; omega
    clear ra rb rc
    go_enter Try.func7, Try.ntmps7
    go_wp2_with fail
    refine (wakes_any _).mono ?_
    rintro e w1 ⟨rfl, hE⟩
    go_wp2_with fail
    go_ret
    exact ⟨rfl, hE⟩
end Go.Proofs.Ytilcggkbancniaa
namespace Go.Proofs.Ytilcggkbancniaa.rowRegionSteps
open Go.ChangeShapes Go.WideShapes Go.ChangeAt Go.RowKit
set_option linter.unusedVariables false
theorem own : ownKnob Try.prog.godebug = none := by kernel_rfl
theorem laidOut : laidOutB Try.prog = true := by kernel_rfl
set_option maxRecDepth 100000 in
theorem lifted (os : Os) (started : os.Started) (H : Type) (enc : TypeId × Value → H) :
    ReturnsInHanded {} Try.checked os 7 .any (Rows.regionStepsSpec.pre6 enc Try.prog Try.f7 Rows.regionStepsRow.domain false) (Rows.regionStepsSpec.post enc Try.prog Try.f7 false true false false) := by
  refine returnsInHanded_of_change_sized (C := Try.checked) own started (by kernel_rfl) Try.func7
    (ChangeSpec.witness6 (enc := enc) (C := Try.checked) false ⟨#[], #[.slice none 0 0, .slice none 0 0, .slice none 0 0], []⟩ 8 (by kernel_rfl) (by kernel_rfl) (by kernel_rfl) (by kernel_rfl)) ?_
  intro W base args ds gs before hval0 hW hcnd hsz0 _
  have hval : ∀ (j : Nat) t v, Try.f7.params[j]? = some t → args[j]? = some v → Value.okWide Try.prog W .any base t v := hval0
  have hW' := hW
  obtain ⟨p, q, hA0, hV, rfl, hfz, hnd⟩ := hW
  have hA : DataW.TrodAll enc Try.prog W 0 (fun _ => true) true Try.f7.params.toList args.toList ds p := hA0
  rw [Try.params7] at hA hval
  obtain ⟨v0, vs0, d0, ds0, p0, q0, hargs, rfl, rfl, h0, r0⟩ := trodAll_cons hA
  obtain ⟨v1, vs1, d1, ds1, p1, q1, rfl, rfl, rfl, h1, r1⟩ := trodAll_cons r0
  obtain ⟨v2, vs2, d2, ds2, p2, q2, rfl, rfl, rfl, h2, r2⟩ := trodAll_cons r1
  obtain ⟨rfl, rfl, rfl⟩ := trodAll_nil r2
  obtain rfl : args = #[v0, v1, v2] := by cases args; simp_all
  obtain ⟨rfl, rfl⟩ := trodVars_none hV
  have k0 := h0
  have lt0 : ∀ x ∈ p0, x.block < W.heap.size := by obtain ⟨m, hm⟩ := k0; exact DataW.trod_lt m _ _ _ hm
  have k1 := h1
  have lt1 : ∀ x ∈ p1, x.block < W.heap.size := by obtain ⟨m, hm⟩ := k1; exact DataW.trod_lt m _ _ _ hm
  have k2 := h2
  have lt2 : ∀ x ∈ p2, x.block < W.heap.size := by obtain ⟨m, hm⟩ := k2; exact DataW.trod_lt m _ _ _ hm
  obtain ⟨A0, n0, c0, rfl⟩ := okWide_slice Try.underlying65 (hval 0 65 v0 rfl rfl)
  obtain ⟨m0, e0⟩ := h0
  obtain ⟨l0, rfl, ha0, hl0⟩ := rects_of (opens m0 20 _ shRects _ _ (by kernel_rfl) e0).1
  obtain ⟨A1, n1, c1, rfl⟩ := okWide_slice Try.underlying65 (hval 1 65 v1 rfl rfl)
  obtain ⟨m1, e1⟩ := h1
  obtain ⟨l1, rfl, ha1, hl1⟩ := rects_of (opens m1 20 _ shRects _ _ (by kernel_rfl) e1).1
  obtain ⟨A2, n2, c2, rfl⟩ := okWide_slice Try.underlying65 (hval 2 65 v2 rfl rfl)
  obtain ⟨m2, e2⟩ := h2
  obtain ⟨l2, rfl, ha2, hl2⟩ := rects_of (opens m2 20 _ shRects _ _ (by kernel_rfl) e2).1
  clear hA0 hval0 hsz0
  refine (steps_any A0 c0 l0 A1 c1 l1 A2 c2 l2 W ha0 ha1 ha2 hl0 hl1 hl2).mono fun e W' ⟨he, bel⟩ => ?_
  subst he
  exact ⟨_, rfl, _, _, _, [], _, [], hW', trodAll_mk1 (shut_bool Try.underlying4 _), (trodAll_cons_mk (Below.trod laidOut (by kernel_rfl) (of_decide_eq_true (by kernel_rfl)) k0 bel lt0) (trodAll_cons_mk (Below.trod laidOut (by kernel_rfl) (of_decide_eq_true (by kernel_rfl)) k1 bel lt1) (trodAll_cons_mk (Below.trod laidOut (by kernel_rfl) (of_decide_eq_true (by kernel_rfl)) k2 bel lt2) trodAll_mk0))), rfl, bel.frame _, fun h => by cases h⟩
theorem over : Rows.regionStepsRow.holds Try.pinned (OpenSpec.ofChange Rows.regionStepsSpec) :=
  OpenClaim.holds_of_wide 7 Try.f7 rfl rfl rfl rfl rfl rfl rfl ⟨rfl, rfl, rfl, rfl, rfl⟩ rfl rfl rfl rfl rfl (by kernel_rfl) Try.func7 (by kernel_rfl)
    (of_decide_eq_true (by kernel_rfl)) (by unfold Func.isWrapper; first | (rw [if_pos (by decide +kernel)]; kernel_rfl) | (rw [if_neg (by decide +kernel)]; exact ⟨rfl, rfl⟩))
    (fun os started H enc _ => lifted os started H enc)
end Go.Proofs.Ytilcggkbancniaa.rowRegionSteps
namespace Go.Proofs.Ytilcggkbancniaa
/-- The row RegionSteps. -/
theorem regionSteps_holds : Rows.RegionStepsSaid := rowRegionSteps.over
#print axioms regionSteps_holds
end Go.Proofs.Ytilcggkbancniaa
