/- The law PixbufJust. Printed by gen_just.py. -/
import Derived.Test.YtjghghbldifhaaaJustA
set_option linter.unusedVariables false
set_option linter.unusedSimpArgs false
namespace Go.Proofs.Ytjghghbldifhaaa
open Go.RowKit

theorem great_act (W H : Int) (A : Option Addr) (ca n : Nat) (a : ActD) (B : Nat) (w : World) (kB : w.heap[B]? = some (.cells a.cells.toArray 81 (0, 0))) (hr : Reads .u32 w a.A a.zs) (hx : ∀ v ∈ a.zs, 0 ≤ v ∧ v ≤ 4294967295) (hc : 0 ≤ a.c ∧ a.c ≤ 4294967295) (hn : n ≤ 9223372036854775807) (hz : a.zs.length ≤ 9223372036854775807) :
    Calls Try.prog 57 #[.agg #[.int .i64 W, .int .i64 H, .slice A n ca], .slice (some ⟨B, 0, none⟩) 1 1] w fun e w' => e = .returned (.bool (decide (1000 < n) || decide (1000 < a.zs.length))) ∧ Ext w w' := by
  have h := great_any W H A ca n (some ⟨B, 0, none⟩) 1 [a] w hn (acts_block kB hr hx hc hz) (by simp)
  rw [show greatB n [a] = (decide (1000 < n) || decide (1000 < a.zs.length)) by simp [greatB, greatL]] at h
  exact h
theorem grow_keep {w w1 : World} {g k : Nat} {o : Obj} (h : w.grownBy w1 (some g)) (hk : w.heap[k]? = some o) (hne : k ≠ g) : w1.heap[k]? = some o := (h.block k (blk_lt hk) (fun e => hne (by injection e))).trans hk
theorem at_in {w : World} {base bb bp cap : Nat} {W H : Int} {px : List Int} (hB : BufAt 117 58 w base bb bp cap W H px) {x y v : Int} (hh : hasPx W H x y = true) (hv : pxAt W px x y = v) : Calls Try.prog 72 #[.pointer (some ⟨bb, 0, none⟩), .int .i64 x, .int .i64 y] w fun e w' => e = .returned (.tuple #[.int .u32 v, .int .i64 0]) ∧ Ext w w' := by
  have h := at_any hB x y
  rw [hh, if_pos rfl, if_pos rfl, hv] at h
  exact h
set_option maxRecDepth 100000 in
set_option maxHeartbeats 32000000 in
theorem just_in (W H : Int) (A : Option Addr) (ca : Nat) (xs : List Int) (k x y c r0 r1 r2 r3 W' H' : Int) (A' : Option Addr) (mc : Nat) (zs : List Int) (t0 t1 t2 t3 dx dy : Int) (w : World) (rx : Reads .u32 w A xs) (hx : ∀ x ∈ xs, 0 ≤ x ∧ x ≤ 4294967295) (rz : Reads .u32 w A' zs) (hz : ∀ v ∈ zs, 0 ≤ v ∧ v ≤ 4294967295) (hc : 0 ≤ c ∧ c ≤ 4294967295) (hxn : xs.length ≤ 9223372036854775807) (hzn : zs.length ≤ 9223372036854775807) :
    Calls Try.prog 12 #[.agg #[.int .i64 W, .int .i64 H, .slice A xs.length ca], .agg #[.int .i64 k, .int .i64 x, .int .i64 y, .int .u32 c, .int .i64 r0, .int .i64 r1, .int .i64 r2, .int .i64 r3, .int .i64 W', .int .i64 H', .slice A' zs.length mc, .int .i64 t0, .int .i64 t1, .int .i64 t2, .int .i64 t3, .int .i64 dx, .int .i64 dy]] w fun e w' => e = .returned (.bool true) ∧ Ext w w' := by
  have RX := Lib.hid rx
  have HX := Lib.hid hx
  have hE0 : Ext w (((w.alloc (.cells #[.int .i64 W, .int .i64 H, .slice A xs.length ca] 43)).alloc (.cells #[.int .i64 k, .int .i64 x, .int .i64 y, .int .u32 c, .int .i64 r0, .int .i64 r1, .int .i64 r2, .int .i64 r3, .int .i64 W', .int .i64 H', .slice A' zs.length mc, .int .i64 t0, .int .i64 t1, .int .i64 t2, .int .i64 t3, .int .i64 dx, .int .i64 dy] 81)).alloc (.cells #[.int .i64 k, .int .i64 x, .int .i64 y, .int .u32 c, .int .i64 r0, .int .i64 r1, .int .i64 r2, .int .i64 r3, .int .i64 W', .int .i64 H', .slice A' zs.length mc, .int .i64 t0, .int .i64 t1, .int .i64 t2, .int .i64 t3, .int .i64 dx, .int .i64 dy] 81)) := (((Ext.refl w).alloc _).alloc _).alloc _
  have cg := great_act W H A ca xs.length ⟨k, x, y, c, ⟨r0, r1, r2, r3⟩, W', H', A', mc, zs, ⟨t0, t1, t2, t3⟩, dx, dy⟩ (w.heap.size + 1 + 1) _ (blk_new2 w (.cells #[.int .i64 W, .int .i64 H, .slice A xs.length ca] 43) (.cells #[.int .i64 k, .int .i64 x, .int .i64 y, .int .u32 c, .int .i64 r0, .int .i64 r1, .int .i64 r2, .int .i64 r3, .int .i64 W', .int .i64 H', .slice A' zs.length mc, .int .i64 t0, .int .i64 t1, .int .i64 t2, .int .i64 t3, .int .i64 dx, .int .i64 dy] 81) (.cells #[.int .i64 k, .int .i64 x, .int .i64 y, .int .u32 c, .int .i64 r0, .int .i64 r1, .int .i64 r2, .int .i64 r3, .int .i64 W', .int .i64 H', .slice A' zs.length mc, .int .i64 t0, .int .i64 t1, .int .i64 t2, .int .i64 t3, .int .i64 dx, .int .i64 dy] 81)) (rz.ext hE0) hz hc hxn hzn
  have hc0 := hc.1
  have hc1 := hc.2
  clear rx hx rz hz hc hxn
  cases hgr : (decide (1000 < xs.length) || decide (1000 < zs.length))
  · rw [hgr] at cg
    rw [Bool.or_eq_false_iff, decide_eq_false_iff_not] at hgr
    have hxn : xs.length ≤ 1000 := by omega
    clear hgr
    go_enter Try.func12, Try.ntmps12
    go_wp2_with fail
    refine cg.mono ?_
    rintro e w1 ⟨rfl, E⟩
    have ka := E.keep (blk_old (blk_old (blk_new w (.cells #[.int .i64 W, .int .i64 H, .slice A xs.length ca] 43)) (.cells #[.int .i64 k, .int .i64 x, .int .i64 y, .int .u32 c, .int .i64 r0, .int .i64 r1, .int .i64 r2, .int .i64 r3, .int .i64 W', .int .i64 H', .slice A' zs.length mc, .int .i64 t0, .int .i64 t1, .int .i64 t2, .int .i64 t3, .int .i64 dx, .int .i64 dy] 81)) (.cells #[.int .i64 k, .int .i64 x, .int .i64 y, .int .u32 c, .int .i64 r0, .int .i64 r1, .int .i64 r2, .int .i64 r3, .int .i64 W', .int .i64 H', .slice A' zs.length mc, .int .i64 t0, .int .i64 t1, .int .i64 t2, .int .i64 t3, .int .i64 dx, .int .i64 dy] 81))
    have kb := E.keep (blk_old (blk_new1 w (.cells #[.int .i64 W, .int .i64 H, .slice A xs.length ca] 43) (.cells #[.int .i64 k, .int .i64 x, .int .i64 y, .int .u32 c, .int .i64 r0, .int .i64 r1, .int .i64 r2, .int .i64 r3, .int .i64 W', .int .i64 H', .slice A' zs.length mc, .int .i64 t0, .int .i64 t1, .int .i64 t2, .int .i64 t3, .int .i64 dx, .int .i64 dy] 81)) (.cells #[.int .i64 k, .int .i64 x, .int .i64 y, .int .u32 c, .int .i64 r0, .int .i64 r1, .int .i64 r2, .int .i64 r3, .int .i64 W', .int .i64 H', .slice A' zs.length mc, .int .i64 t0, .int .i64 t1, .int .i64 t2, .int .i64 t3, .int .i64 dx, .int .i64 dy] 81))
    have hE := hE0.trans E
    have hsz : w.heap.size + 3 ≤ w1.heap.size := by have := E.size; simpa using this
    clear E cg hE0
    obtain ⟨c0, f0⟩ := blk_rules ka
    go_wp2_with fail
    cases hm : isPic W H xs.length
    · refine (from_bad W H A ca xs _ hm).mono ?_
      rintro e w2 ⟨rfl, E⟩
      replace hE := Ext.trans hE E
      clear E ka kb c0 f0
      go_wp2_with fail
      refine (wakes3_any _).mono ?_
      rintro e w3 ⟨rfl, E⟩
      go_wp2_with fail
      go_ret
      exact ⟨rfl, Ext.trans hE E⟩
    · obtain ⟨⟨⟨⟨i1, i2⟩, i3⟩, i4⟩, i5⟩ : (((1 ≤ W ∧ W ≤ 256) ∧ 1 ≤ H) ∧ H ≤ 256) ∧ (xs.length : Int) = W * H := by simpa [isPic] using hm
      obtain ⟨Wn, rfl⟩ : ∃ n : Nat, W = (n : Int) := ⟨W.toNat, by omega⟩
      obtain ⟨Hn, rfl⟩ : ∃ n : Nat, H = (n : Int) := ⟨H.toNat, by omega⟩
      refine (from_good Wn Hn A ca xs _ hm (RX.out.ext hE) HX.out).mono ?_
      rintro e w2 ⟨ba, pa, cpa, rfl, hBa, E⟩
      replace ka := E.keep ka
      replace kb := E.keep kb
      replace hE := Ext.trans hE E
      have HA := Lib.hid hBa
      have hap := (World.ownsRow.lt hBa.row pa (by simp [Value.ownBlock])).1
      clear E c0 f0 hBa RX HX
      obtain ⟨px, hpx⟩ : ∃ px, xs.map cut24 = px := ⟨_, rfl⟩
      rw [hpx] at HA
      clear hpx
      go_wp2_with fail
      refine (clone_any HA.out).mono ?_
      rintro e w3 ⟨bb, pb, cpb, rfl, hBb, hpb, E⟩
      have za := HA.out
      have la := (World.ownsRow.lt za.row pa (by simp [Value.ownBlock])).2
      have la2 := blk_lt za.head
      replace ka := E.keep ka
      replace kb := E.keep kb
      replace hE := Ext.trans hE E
      replace HA := Lib.hid (HA.out.ext E)
      have HB := Lib.hid hBb
      have hbb := hBb.hb
      have s23 := E.size
      clear E hBb za
      go_wp2_with fail
      refine (clone_any HA.out).mono ?_
      rintro e w4 ⟨bd, pd, cpd, rfl, hBd, hpd, E⟩
      have zb := HB.out
      have lb := (World.ownsRow.lt zb.row pb (by simp [Value.ownBlock])).2
      have lb2 := blk_lt zb.head
      replace ka := E.keep ka
      replace kb := E.keep kb
      replace hE := Ext.trans hE E
      replace HA := Lib.hid (HA.out.ext E)
      replace HB := Lib.hid (HB.out.ext E)
      have HD := Lib.hid hBd
      have hbd := hBd.hb
      have zd := HD.out
      have ld := (World.ownsRow.lt zd.row pd (by simp [Value.ownBlock])).2
      have ld2 := blk_lt zd.head
      clear E hBd zb zd
      obtain ⟨c1, f1⟩ := blk_rules kb
      go_wp2_with fail
      refine (fill_any HB.out r0 r1 r2 r3 c hc0 hc1).mono ?_
      rintro e w5 ⟨rfl, hBb, G⟩
      obtain ⟨qx, hqx⟩ : ∃ qx, fillRows Wn (Rect.and ⟨r0, r1, r2, r3⟩ ⟨0, 0, Wn, Hn⟩) (cut24 c) (List.range (Rect.and ⟨r0, r1, r2, r3⟩ ⟨0, 0, Wn, Hn⟩).h.toNat) px = qx := ⟨_, rfl⟩
      have hpl := HA.out.len
      have hq : ∀ u v : Int, 0 ≤ u → u < Wn → 0 ≤ v → v < Hn → pxAt Wn qx u v = if Rect.has ⟨r0, r1, r2, r3⟩ u v then cut24 c else pxAt Wn px u v := fun u v e1 e2 e3 e4 => by
        rw [← hqx]
        exact fill_part i1 i2 i3 i4 hpl e1 e2 e3 e4
      rw [hqx] at hBb
      have HQ := Lib.hid hq
      replace HB := Lib.hid hBb
      replace ka := grow_keep G ka (by omega)
      replace kb := grow_keep G kb (by omega)
      replace HA := Lib.hid (HA.out.keptT G (by simp; omega) (by simp; omega))
      replace HD := Lib.hid (HD.out.keptT G (by simp; omega) (by simp; omega))
      replace hE := Below.grown hE G hE.size (fun r e => by injection e with e; omega)
      have s45 := G.size
      clear G hqx hq hBb c1 f1
      obtain ⟨c1, f1⟩ := blk_rules kb
      go_wp2_with fail
      refine (copy_law HD.out t0 t1 t2 t3 dx dy).mono ?_
      rintro e w6 ⟨f, dq, rfl, hBd, G, hTold⟩
      have TOLD := Lib.hid hTold
      replace HD := Lib.hid hBd
      replace ka := grow_keep G ka (by omega)
      replace kb := grow_keep G kb (by omega)
      replace HA := Lib.hid (HA.out.keptT G (by simp; omega) (by simp; omega))
      replace HB := Lib.hid (HB.out.keptT G (by simp; omega) (by simp; omega))
      replace hE := Below.grown hE G hE.size (fun r e => by injection e with e; omega)
      have s56 := G.size
      clear G hBd hTold c1 f1
      have hm1 : IntKind.i64.wrap ((Wn : Int) * (Hn : Int)) = (xs.length : Int) := by rw [← i5]; exact IntWalk.i64_in _ (by omega)
      have IL := Lib.hid i5
      have IM := Lib.hid hm
      clear i5 hm hpl
      go_wp2_with fail
      go_loopw [10] (fun iv wr => ∃ i : Nat, i ≤ xs.length ∧ iv = .int .i64 i ∧ Ext w6 wr) (fun iv _ => xs.length - (intOf iv).toNat)
      case atStart => exact ⟨0, Nat.zero_le _, rfl, Ext.refl _⟩
      case round =>
        obtain ⟨i, hi, rfl, hEi⟩ := hrel
        obtain ⟨c0, f0⟩ := blk_rules (hEi.keep ka)
        obtain ⟨c1, f1⟩ := blk_rules (hEi.keep kb)
        by_cases hlt : i < xs.length
        · obtain ⟨u, hu⟩ : ∃ u, (i : Int) % (Wn : Int) = u := ⟨_, rfl⟩
          obtain ⟨v, hv⟩ : ∃ v, (i : Int) / (Wn : Int) = v := ⟨_, rfl⟩
          have e1 : 0 ≤ u := by rw [← hu]; exact Int.emod_nonneg _ (by omega)
          have e2 : u < Wn := by rw [← hu]; exact Int.emod_lt_of_pos _ (by omega)
          have e3 : 0 ≤ v := by rw [← hv]; exact Int.ediv_nonneg (by omega) (by omega)
          have e4 : v < Hn := by
            rw [← hv]
            refine Int.ediv_lt_of_lt_mul (by omega) ?_
            have := IL.out
            rw [Int.mul_comm]
            omega
          have q1 : ((i : Int)).tmod (Wn : Int) = u := by rw [Int.tmod_eq_emod_of_nonneg (by omega)]; exact hu
          have q2 : ((i : Int)).tdiv (Wn : Int) = v := by rw [Int.tdiv_eq_ediv_of_nonneg (by omega)]; exact hv
          have q3 : ((Wn : Int) == 0) = false := by rw [beq_eq_false_iff_ne]; omega
          have q4 : IntKind.i64.wrap u = u := IntWalk.i64_in _ (by omega)
          have q5 : IntKind.i64.wrap v = v := IntWalk.i64_in _ (by omega)
          have hh : hasPx Wn Hn u v = true := (hasPx_iff i1 i2 i3 i4).2 ⟨e1, e2, e3, e4⟩
          obtain ⟨va, hva⟩ : ∃ z, pxAt Wn px u v = z := ⟨_, rfl⟩
          obtain ⟨vb, hvb⟩ : ∃ z, pxAt Wn qx u v = z := ⟨_, rfl⟩
          obtain ⟨vd, hvd⟩ : ∃ z, pxAt Wn dq u v = z := ⟨_, rfl⟩
          have cA := fun w' (h : Ext w6 w') => at_in (HA.out.ext h) hh hva
          have cB := fun w' (h : Ext w6 w') => at_in (HB.out.ext h) hh hvb
          have cD := fun w' (h : Ext w6 w') => at_in (HD.out.ext h) hh hvd
          have hb := HQ.out u v e1 e2 e3 e4
          obtain ⟨hf05, htold⟩ := TOLD.out
          obtain ⟨hd1, hd2⟩ := htold u v e1 e2 e3 e4
          rw [hva, hvb] at hb
          rw [hva, hvd] at hd1
          have cR := fun w' => has_any r0 r1 r2 r3 u v w'
          have cT := fun w' => has_any t0 t1 t2 t3 u v w'
          have hcut : bits .and .u32 c 16777215 = cut24 c := and_cut hc0 (by omega)
          have hcut2 : (cut24 c != cut24 c) = false := by simp
          have hva2 : (va != va) = false := by simp
          have hvd2 : (vd != vd) = false := by simp
          have HD1 := Lib.hid hd1
          have HD2 := Lib.hid hd2
          clear hu hv htold hd1 hd2 hva hvb hvd hh
          cases hR : Rect.has ⟨r0, r1, r2, r3⟩ u v
          · rw [hR, if_neg (by simp)] at hb
            simp only [hR] at cR
            subst hb
            clear hR
            go_wp2_with fail
            go_quiet (fail)
            replace hEi := hEi.drewN nq
            clear c0 f0 c1 f1 q1 q2 q3
            generalize wr.drewN nq = wa at *
            go_wp2_with fail
            refine (cA _ hEi).mono ?_
            rintro e wb ⟨rfl, E⟩
            replace hEi := hEi.trans E
            clear E
            go_wp2_with fail
            refine (cB _ hEi).mono ?_
            rintro e wc ⟨rfl, E⟩
            replace hEi := hEi.trans E
            clear E
            obtain ⟨c1, f1⟩ := blk_rules (hEi.keep kb)
            go_wp2_with fail
            refine (cR _).mono ?_
            rintro e we ⟨rfl, E⟩
            replace hEi := hEi.trans E
            clear E c1 f1
            obtain ⟨c1, f1⟩ := blk_rules (hEi.keep kb)
            go_wp2_with fail
            refine (cR _).mono ?_
            rintro e wf ⟨rfl, E⟩
            replace hEi := hEi.trans E
            clear E c1 f1
            obtain ⟨c1, f1⟩ := blk_rules (hEi.keep kb)
            go_wp2_with fail
            refine (cD _ hEi).mono ?_
            rintro e wg ⟨rfl, E⟩
            replace hEi := hEi.trans E
            clear E c1 f1
            obtain ⟨c1, f1⟩ := blk_rules (hEi.keep kb)
            rcases hf05 with rfl | rfl
            · cases hT : Rect.has ⟨t0, t1, t2, t3⟩ u v
              · simp only [hT] at cT
                have hd := HD1.out
                rw [if_neg (fun h => by rw [hT] at h; have := h.2; cases this)] at hd
                subst hd
                clear hT
                go_wp2_with fail
                refine (cT _).mono ?_
                rintro e wh ⟨rfl, E⟩
                replace hEi := hEi.trans E
                clear E c1 f1
                go_wp2_with fail
                exact ⟨⟨i + 1, by omega, by go_num, hEi⟩, by simp [intOf]; omega⟩
              · simp only [hT] at cT
                have hd := HD1.out
                rw [if_pos ⟨rfl, hT⟩] at hd
                have hp2 := HD2.out rfl hT
                obtain ⟨p1, p2, p3, p4⟩ := (hasPx_iff i1 i2 i3 i4).1 hp2
                have cA2 := fun w' (h : Ext w6 w') => at_in (HA.out.ext h) hp2 hd.symm
                have s1 : IntKind.i64.wrap (u - dx) = u - dx := IntWalk.i64_in _ (by omega)
                have s2 : IntKind.i64.wrap (v - dy) = v - dy := IntWalk.i64_in _ (by omega)
                clear hT hd hp2
                go_wp2_with fail
                refine (cT _).mono ?_
                rintro e wh ⟨rfl, E⟩
                replace hEi := hEi.trans E
                clear E c1 f1
                obtain ⟨c1, f1⟩ := blk_rules (hEi.keep kb)
                go_wp2_with fail
                refine (cA2 _ hEi).mono ?_
                rintro e wj ⟨rfl, E⟩
                replace hEi := hEi.trans E
                clear E c1 f1
                go_wp2_with fail
                exact ⟨⟨i + 1, by omega, by go_num, hEi⟩, by simp [intOf]; omega⟩
            · have hd := HD1.out
              rw [if_neg (fun h => by have := h.1; omega)] at hd
              subst hd
              go_wp2_with fail
              exact ⟨⟨i + 1, by omega, by go_num, hEi⟩, by simp [intOf]; omega⟩
          · rw [hR, if_pos rfl] at hb
            simp only [hR] at cR
            subst hb
            clear hR
            go_wp2_with fail
            go_quiet (fail)
            replace hEi := hEi.drewN nq
            clear c0 f0 c1 f1 q1 q2 q3
            generalize wr.drewN nq = wa at *
            go_wp2_with fail
            refine (cA _ hEi).mono ?_
            rintro e wb ⟨rfl, E⟩
            replace hEi := hEi.trans E
            clear E
            go_wp2_with fail
            refine (cB _ hEi).mono ?_
            rintro e wc ⟨rfl, E⟩
            replace hEi := hEi.trans E
            clear E
            obtain ⟨c1, f1⟩ := blk_rules (hEi.keep kb)
            go_wp2_with fail
            refine (cR _).mono ?_
            rintro e we ⟨rfl, E⟩
            replace hEi := hEi.trans E
            clear E c1 f1
            obtain ⟨c1, f1⟩ := blk_rules (hEi.keep kb)
            go_wp2_with fail
            refine (cR _).mono ?_
            rintro e wf ⟨rfl, E⟩
            replace hEi := hEi.trans E
            clear E c1 f1
            obtain ⟨c1, f1⟩ := blk_rules (hEi.keep kb)
            go_wp2_with fail
            refine (cD _ hEi).mono ?_
            rintro e wg ⟨rfl, E⟩
            replace hEi := hEi.trans E
            clear E c1 f1
            obtain ⟨c1, f1⟩ := blk_rules (hEi.keep kb)
            rcases hf05 with rfl | rfl
            · cases hT : Rect.has ⟨t0, t1, t2, t3⟩ u v
              · simp only [hT] at cT
                have hd := HD1.out
                rw [if_neg (fun h => by rw [hT] at h; have := h.2; cases this)] at hd
                subst hd
                clear hT
                go_wp2_with fail
                refine (cT _).mono ?_
                rintro e wh ⟨rfl, E⟩
                replace hEi := hEi.trans E
                clear E c1 f1
                go_wp2_with fail
                exact ⟨⟨i + 1, by omega, by go_num, hEi⟩, by simp [intOf]; omega⟩
              · simp only [hT] at cT
                have hd := HD1.out
                rw [if_pos ⟨rfl, hT⟩] at hd
                have hp2 := HD2.out rfl hT
                obtain ⟨p1, p2, p3, p4⟩ := (hasPx_iff i1 i2 i3 i4).1 hp2
                have cA2 := fun w' (h : Ext w6 w') => at_in (HA.out.ext h) hp2 hd.symm
                have s1 : IntKind.i64.wrap (u - dx) = u - dx := IntWalk.i64_in _ (by omega)
                have s2 : IntKind.i64.wrap (v - dy) = v - dy := IntWalk.i64_in _ (by omega)
                clear hT hd hp2
                go_wp2_with fail
                refine (cT _).mono ?_
                rintro e wh ⟨rfl, E⟩
                replace hEi := hEi.trans E
                clear E c1 f1
                obtain ⟨c1, f1⟩ := blk_rules (hEi.keep kb)
                go_wp2_with fail
                refine (cA2 _ hEi).mono ?_
                rintro e wj ⟨rfl, E⟩
                replace hEi := hEi.trans E
                clear E c1 f1
                go_wp2_with fail
                exact ⟨⟨i + 1, by omega, by go_num, hEi⟩, by simp [intOf]; omega⟩
            · have hd := HD1.out
              rw [if_neg (fun h => by have := h.1; omega)] at hd
              subst hd
              go_wp2_with fail
              exact ⟨⟨i + 1, by omega, by go_num, hEi⟩, by simp [intOf]; omega⟩
        · have hie : i = xs.length := by omega
          subst hie
          replace ka := hEi.keep ka
          replace kb := hEi.keep kb
          replace HA := Lib.hid (HA.out.ext hEi)
          replace HB := Lib.hid (HB.out.ext hEi)
          replace hE := Ext.trans hE hEi
          have hpl := HA.out.len
          have hql := HB.out.len
          have w1n : 1 ≤ Wn := by omega
          have w2n : Wn ≤ 256 := by omega
          have w3n : 1 ≤ Hn := by omega
          have w4n : Hn ≤ 256 := by omega
          have hF := unF_at w1n w2n w3n w4n px qx
          have hI := unF_in w1n w2n w3n w4n px qx
          have hn := listU_none w1n w2n w3n w4n hpl hql
          have hin := fun (q : Rect) (hq : q ∈ listU (unF Wn Hn px qx) Wn Hn) => listU_in w1n w2n w3n w4n hq
          have hhas := fun u v => listU_has hI (by omega) (by omega) u v
          have hself := listU_self hI (by omega) (by omega)
          have hUl : (listU (unF Wn Hn px qx) Wn Hn).length ≤ 65536 := by
            have h1 := flatS_length (n := Hn) (m := 256) (S := spansU (unF Wn Hn px qx) Wn) (fun y => spansU_true) (fun y => Nat.le_trans (cellsOf_length Wn) w2n) Hn (Nat.le_refl _)
            have h2 : Hn * 256 ≤ 256 * 256 := Nat.mul_le_mul_right _ w4n
            have h3 : flatS (spansU (unF Wn Hn px qx) Wn) Hn Hn = listU (unF Wn Hn px qx) Wn Hn := rfl
            rw [h3] at h1
            omega
          have cdf := diff_good HA.out HB.out _ (Lib.hid hF) hI
          clear hi c1 f1 hF hI HD TOLD IL
          obtain ⟨L, hL⟩ : ∃ L, listU (unF Wn Hn px qx) Wn Hn = L := ⟨_, rfl⟩
          simp only [hL] at hn hin hhas hself hUl cdf
          obtain ⟨z, hz⟩ : ∃ z, eqL px qx = z := ⟨_, rfl⟩
          rw [hz] at hn
          have HN := Lib.hid hn
          have HIN := Lib.hid hin
          have HHAS := Lib.hid hhas
          have HSELF := Lib.hid hself
          have hapa := HA.out.ne
          have lap := (World.ownsRow.lt HA.out.row pa (by simp [Value.ownBlock])).2
          clear hL hn hin hhas hself
          go_wp2_with fail
          clear c0 f0 hm1 hlt hEi
          refine cdf.mono ?_
          rintro e w7 ⟨BL, dL, rfl, oL, nL, E⟩
          have HO := Lib.hid oL
          have s67 := E.size
          replace ka := E.keep ka
          replace kb := E.keep kb
          replace HA := Lib.hid (HA.out.ext E)
          replace HB := Lib.hid (HB.out.ext E)
          replace hE := Ext.trans hE E
          clear E oL nL cdf
          go_wp2_with fail
          refine (is_any BL dL L w7 (OwnR.at HO.out) (by omega)).mono ?_
          rw [HSELF.out, eqR_true rfl]
          rintro e w8 ⟨rfl, E⟩
          replace ka := E.keep ka
          replace kb := E.keep kb
          replace HA := Lib.hid (HA.out.ext E)
          replace HB := Lib.hid (HB.out.ext E)
          replace HO := Lib.hid (row_keep HO.out E)
          replace hE := Ext.trans hE E
          have s78 := E.size
          clear E
          have csm := same_any HA.out HB.out
          rw [show ((Wn : Int) == (Wn : Int) && ((Hn : Int) == (Hn : Int) && eqL px qx)) = z by simp [hz]] at csm
          have hzz : (z != z) = false := by simp
          have hn := HN.out
          clear HSELF HN
          go_wp2_with fail
          refine csm.mono ?_
          rintro e w9 ⟨rfl, E⟩
          replace ka := E.keep ka
          replace kb := E.keep kb
          replace HA := Lib.hid (HA.out.ext E)
          replace HB := Lib.hid (HB.out.ext E)
          replace HO := Lib.hid (row_keep HO.out E)
          replace hE := Ext.trans hE E
          have s89 := E.size
          clear E csm hz
          go_wp2_with fail
          clear hn hzz
          have hns : w.heap.size + 1 ≠ pa := by omega
          go_loopw [19] (fun iv wr => ∃ (i : Nat) (qa : List Int), i ≤ L.length ∧ iv = .int .i64 i ∧ BufAt 117 58 wr w1.heap.size ba pa cpa Wn Hn qa ∧ (∀ u v : Int, 0 ≤ u → u < Wn → 0 ≤ v → v < Hn → pxAt Wn qa u v = if hasL (L.take i) u v then pxAt Wn qx u v else pxAt Wn px u v) ∧ w9.grownBy wr (some pa)) (fun iv _ => L.length - (intOf iv).toNat)
          case atStart => exact ⟨0, px, Nat.zero_le _, rfl, HA.out, fun u v _ _ _ _ => by simp [hasL], World.grownBy.refl _ _⟩
          case round =>
            obtain ⟨i, qa, hi, rfl, hBa, hlaw, G⟩ := hrel
            have HAR := Lib.hid hBa
            have HLAW := Lib.hid hlaw
            have HBR := Lib.hid (HB.out.keptT G (by simp; omega) (by simp; omega))
            have kbr := grow_keep G kb hns
            have hown := World.ownsRow.kept HO.out G (.inr fun e => by have := (World.ownsRow.lt HO.out pa e).1; omega)
            have HOR : Hid (OwnR wr _ (.slice BL L.length dL) L) := Lib.hid hown
            have HG := Lib.hid G
            obtain ⟨c1, f1⟩ := blk_rules kbr
            clear hBa hlaw G hown
            by_cases hlt : i < L.length
            · obtain ⟨b, o, rfl, hc⟩ := (OwnR.at HOR.out).form (by omega)
              obtain ⟨r, hr⟩ : ∃ r, L[i]? = some r := ⟨L[i], List.getElem?_eq_getElem hlt⟩
              obtain ⟨h0, h1, h2, h3⟩ := hc i r hr
              obtain ⟨m1, m2, m3⟩ := HIN.out r (List.mem_of_getElem? hr)
              have hw : r.within ⟨r0, r1, r2, r3⟩ = true := within_pxJ m1 fun u v hh => by
                have h4 := m3 u v hh
                unfold unF at h4
                rw [Bool.and_eq_true] at h4
                obtain ⟨p1, p2, p3, p4⟩ := (hasPx_iff i1 i2 i3 i4).1 h4.1
                have h5 := HQ.out u v p1 p2 p3 p4
                cases h6 : Rect.has ⟨r0, r1, r2, r3⟩ u v
                · rw [h6, if_neg (by simp)] at h5
                  rw [h5] at h4
                  simp at h4
                · rfl
              have htk : ∀ u v, hasL (L.take (i + 1)) u v = (hasL (L.take i) u v || r.has u v) := fun u v => by
                rw [List.take_add_one, hr]
                unfold hasL
                rw [List.any_append]
                simp
              have HW := Lib.hid hw
              have HTK := Lib.hid htk
              have M1 := Lib.hid m1
              have M2 := Lib.hid m2
              have cp := part_good HBR.out r.x r.y r.w r.h m1 m2
              clear hc hr m1 m2 m3 hw htk
              have hi1 : (i : Int) < (L.length : Int) := by omega
              go_wp2_with fail
              refine cp.mono ?_
              rintro e wa ⟨g, cg, rfl, ho, E⟩
              obtain ⟨P, hP⟩ : ∃ P, partRows Wn ⟨r.x, r.y, r.w, r.h⟩ (List.range r.h.toNat) qx = P := ⟨_, rfl⟩
              rw [hP] at ho
              rw [hP]
              have HP := Lib.hid hP
              have rP := row_reads ho rfl
              have RP := Lib.hid rP
              have hEa : Ext wr (wa.alloc (.cells #[.int .i64 r.w, .int .i64 r.h, .slice (some ⟨g, 0, none⟩) P.length cg] 43)) := Ext.alloc E _
              have kI := blk_new wa (.cells #[.int .i64 r.w, .int .i64 r.h, .slice (some ⟨g, 0, none⟩) P.length cg] 43)
              have hEa2 : Ext wa (wa.alloc (.cells #[.int .i64 r.w, .int .i64 r.h, .slice (some ⟨g, 0, none⟩) P.length cg] 43)) := (Ext.refl wa).alloc _
              clear E ho rP hP cp
              go_wp2_with fail
              obtain ⟨wb, hwb⟩ : ∃ wb, wa.alloc (.cells #[.int .i64 r.w, .int .i64 r.h, .slice (some ⟨g, 0, none⟩) P.length cg] 43) = wb := ⟨_, rfl⟩
              rw [hwb] at hEa kI hEa2 ⊢
              have RPb := Lib.hid (RP.out.ext hEa2)
              have g0 := hEa.cellOf h0
              have g1 := hEa.cellOf h1
              have g2 := hEa.cellOf h2
              have g3 := hEa.cellOf h3
              have kb2 := hEa.keep kbr
              clear hwb RP hEa2 h0 h1 h2 h3 c1 f1
              have j0 := fun y : After wb => y.ext.cellOf g0
              have j1 := fun y : After wb => y.ext.cellOf g1
              have j2 := fun y : After wb => y.ext.cellOf g2
              have j3 := fun y : After wb => y.ext.cellOf g3
              have j4 := After.blk kb2
              have cin := fun y : After wb => in_any r.x r.y r.w r.h r0 r1 r2 r3 y.now
              simp only [show Rect.mk r.x r.y r.w r.h = r from rfl, HW.out] at cin
              refine wp_region_after (by kernel_rfl) (by kernel_rfl) ?_
              repeat (go_big_quiet_step (first | with_reducible exact Calls.after (cin _)))
              refine wpQuiet_nil ?_
              intro _ hw'
              obtain ⟨z9, rfl⟩ := hw'
              have RPc := Lib.hid (RPb.out.ext z9.ext)
              replace g0 := z9.ext.cellOf g0
              replace g1 := z9.ext.cellOf g1
              replace g2 := z9.ext.cellOf g2
              replace g3 := z9.ext.cellOf g3
              have kI2 := z9.ext.keep kI
              have hEc : Ext wr z9.now := Ext.trans hEa z9.ext
              clear j0 j1 j2 j3 j4 cin RPb hEa kI
              generalize z9.now = wc at *
              clear z9
              obtain ⟨d0, e0⟩ := blk_rules kI2
              go_wp2_with fail
              go_still_tail 16, (by kernel_rfl)
              change wpList _ _ _ _ _ wc.drew
              have hpix : ∀ v ∈ P, 0 ≤ v ∧ v ≤ 4294967295 := fun v hv => by
                rw [← HP.out] at hv
                have := HBR.out.pix v (partRows_mem hv)
                omega
              have hpic : isPic r.w r.h P.length = true := by
                rw [← HP.out]
                exact partRows_pic (F := r) i1 i2 i3 i4 HBR.out.len M1.out M2.out
              have cb := blit_good ((HAR.out.ext hEc).ext (Ext.refl wc).drew) r.x r.y r.w r.h (some ⟨g, 0, none⟩) cg P r.x r.y r.w r.h hpic (RPc.out.ext (Ext.refl wc).drew) hpix
              go_wp2_with fail
              refine cb.mono ?_
              rintro e wd ⟨rfl, hBd, G2⟩
              go_wp2_with fail
              refine ⟨⟨i + 1, _, by omega, by go_num, hBd, fun u v p1 p2 p3 p4 => ?_, (HG.out.trans (Ext.grow (Ext.trans hEc (Ext.refl wc).drew) _)).trans G2⟩, by simp [intOf]; omega⟩
              have hbp := blit_part (F := r) (px := qa) (qx := qx) i1 i2 i3 i4 HAR.out.len HBR.out.len HBR.out.pix M1.out M2.out p1 p2 p3 p4
              rw [show partRows Wn r (List.range r.h.toNat) qx = P from HP.out] at hbp
              rw [show (⟨r.x, r.y, r.w, r.h⟩ : Rect) = r from rfl, hbp, HLAW.out u v p1 p2 p3 p4, HTK.out]
              cases r.has u v <;> cases hasL (L.take i) u v <;> simp
            · have hie : i = L.length := by omega
              have hqa : qa = qx := px_ext (W := Wn) (H := Hn) i1 i3 HAR.out.len HBR.out.len fun u v p1 p2 p3 p4 => by
                rw [HLAW.out u v p1 p2 p3 p4, hie, List.take_length, HHAS.out]
                cases h4 : unF Wn Hn px qx u v
                · unfold unF at h4
                  rw [(hasPx_iff i1 i2 i3 i4).2 ⟨p1, p2, p3, p4⟩, Bool.true_and] at h4
                  simpa using h4
                · simp
              subst hie
              subst hqa
              have cs1 := same_any HAR.out HBR.out
              rw [show ((Wn : Int) == (Wn : Int) && ((Hn : Int) == (Hn : Int) && eqL qa qa)) = true by simp [eqL]] at cs1
              clear hlt hi HLAW HOR
              go_wp2_with fail
              refine cs1.mono ?_
              rintro e wa ⟨rfl, E⟩
              have cs2 := same_any (HBR.out.ext E) (HAR.out.ext E)
              rw [show ((Wn : Int) == (Wn : Int) && ((Hn : Int) == (Hn : Int) && eqL qa qa)) = true by simp [eqL]] at cs2
              clear cs1
              go_wp2_with fail
              refine cs2.mono ?_
              rintro e wb ⟨rfl, E2⟩
              go_wp2_with fail
              refine (wakes3_any _).mono ?_
              rintro e wc ⟨rfl, E3⟩
              go_wp2_with fail
              go_ret
              have hEf : Ext w wr := Below.grown hE HG.out hE.size (fun r e => by injection e with e; omega)
              exact ⟨rfl, Ext.trans (Ext.trans (Ext.trans hEf E) E2) E3⟩
  · rw [hgr] at cg
    clear hgr RX HX
    go_enter Try.func12, Try.ntmps12
    go_wp2_with fail
    refine cg.mono ?_
    rintro e w1 ⟨rfl, E⟩
    have hE := hE0.trans E
    clear E cg hE0
    go_wp2_with fail
    refine (wakes3_any _).mono ?_
    rintro e w2 ⟨rfl, E⟩
    go_wp2_with fail
    go_ret
    exact ⟨rfl, Ext.trans hE E⟩
theorem just_any (W H : Int) (A : Option Addr) (ca : Nat) (xs : List Int) (a : ActD) (w : World) (rx : Reads .u32 w A xs) (hx : ∀ x ∈ xs, 0 ≤ x ∧ x ≤ 4294967295) (rz : Reads .u32 w a.A a.zs) (hz : ∀ v ∈ a.zs, 0 ≤ v ∧ v ≤ 4294967295) (hc : 0 ≤ a.c ∧ a.c ≤ 4294967295) (hxn : xs.length ≤ 9223372036854775807) (hzn : a.zs.length ≤ 9223372036854775807) :
    Calls Try.prog 12 #[.agg #[.int .i64 W, .int .i64 H, .slice A xs.length ca], a.value] w fun e w' => e = .returned (.bool true) ∧ Ext w w' := by
  obtain ⟨k, x, y, c, ⟨r0, r1, r2, r3⟩, W', H', A', mc, zs, ⟨t0, t1, t2, t3⟩, dx, dy⟩ := a
  exact just_in W H A ca xs k x y c r0 r1 r2 r3 W' H' A' mc zs t0 t1 t2 t3 dx dy w rx hx rz hz hc hxn hzn
end Go.Proofs.Ytjghghbldifhaaa
