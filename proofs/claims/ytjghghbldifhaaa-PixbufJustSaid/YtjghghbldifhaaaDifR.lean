/- The document's list of where two pictures are unlike: a row, across. Printed by gen_dif.py. -/
import Derived.Test.YtjghghbldifhaaaDifP
import Derived.Test.YtjghghbldifhaaaRegC
import Derived.Test.YtjghghbldifhaaaPicA
set_option linter.unusedVariables false
set_option linter.unusedSimpArgs false
namespace Go.Proofs.Ytjghghbldifhaaa
open Go.RowKit

theorem rowU_last {F : Int → Int → Bool} {W : Nat} {y : Int} {i : Nat} (hi : i ≤ W) {L : List Rect} (hL : rowU F W y i = L) (hn : 0 < L.length) : ∃ L0 r, L = L0 ++ [r] ∧ L.length = L0.length + 1 ∧ L[L0.length]? = some r ∧ (0 : Int) ≤ r.x ∧ (0 : Int) ≤ r.w ∧ r.x + r.w ≤ (i : Int) := by
  rcases List.eq_nil_or_concat L with h | ⟨L0, r, h⟩
  · rw [h] at hn; simp at hn
  · rw [List.concat_eq_append] at h
    have hr : r ∈ rowU F W y i := by rw [hL, h]; simp
    have h1 := rowU_mem hi hr
    exact ⟨L0, r, h, by rw [h]; simp, by rw [h, List.getElem?_append_right (Nat.le_refl _)]; simp, h1.1, h1.2.1, h1.2.2.1⟩
/-- The loop over a row's pixels. -/
noncomputable def difB : Code := (Try.f68.body.bind (findBlock 2)).getD .skip

set_option maxRecDepth 100000 in
set_option maxHeartbeats 16000000 in
theorem dif_block (c4 c5 c6 c10 c11 c12 c13 c14 c15 c16 c17 c18 c19 c20 c21 c22 c23 c24 c25 c26 c27 c28 c29 c30 c31 c32 c33 c34 c35 c36 c37 c38 c39 c40 c41 c42 c43 c44 c45 c46 c47 c48 c49 c50 c51 c52 c53 c54 c55 c56 c57 c58 c59 c60 c61 c62 c63 c64 c65 c66 c67 c68 c69 c70 c71 c72 c73 c74 c75 c76 c77 c78 c79 c80 c81 c82 c83 c84 c85 c86 c87 c88 c89 c90 c91 c92 c93 c94 c95 c96 c97 c98 c99 c100 c101 c102 c103 c104 c105 c106 c107 c108 c109 c110 c111 c112 c113 c114 c115 c116 c117 c118 c119 c120 c121 c122 c123 c124 c125 c126 c127 c128 : Value) (w : World) (pb po pc qb qo qc Ba Bb Wn Hn j : Nat) (px qx : List Int) (F : Int → Int → Bool) (K : Act → World → Prop) (Q' : Exit → Act → World → Prop)
    (ka : w.heap[Ba]? = some (.cells #[.int .i64 Wn, .int .i64 Hn, .slice (some ⟨pb, po, none⟩) px.length pc] 43 (0, 0))) (kb : w.heap[Bb]? = some (.cells #[.int .i64 Wn, .int .i64 Hn, .slice (some ⟨qb, qo, none⟩) qx.length qc] 43 (0, 0)))
    (ra : Hid (Reads .u32 w (some ⟨pb, po, none⟩) px)) (rb : Hid (Reads .u32 w (some ⟨qb, qo, none⟩) qx)) (hpx : Hid (px.length = Wn * Hn)) (hqx : Hid (qx.length = Wn * Hn)) (hW : Wn ≤ 256) (hH : Hn ≤ 256) (hj : j < Hn)
    (hF : Hid (∀ i j : Nat, i < Wn → j < Hn → F i j = (px.getD (j * Wn + i) 0 != qx.getD (j * Wn + i) 0)))
    (hK : ∀ (u9 u17 u18 u19 u20 u21 u22 u23 u24 u25 u26 u27 u28 u29 u30 u31 u32 u33 u34 u35 u36 u37 u38 u39 u40 u41 u42 u43 u44 u45 u46 u47 u48 u49 u50 u51 u52 u53 u54 u55 u56 u57 u58 u59 u60 u61 u62 u63 u64 u65 u66 u67 u68 u69 u70 u71 u72 u73 u74 u75 u76 u77 u78 u79 u80 u81 : Value) (B : Option Addr) (d : Nat) (w' : World), OwnR w' w.heap.size (.slice B (rowU F Wn j Wn).length d) (rowU F Wn j Wn) → (B = none → d = 0) → Ext w w' → K { tmps := #[.agg #[.int .i64 Wn, .int .i64 Hn, .slice (some ⟨pb, po, none⟩) px.length pc], .agg #[.int .i64 Wn, .int .i64 Hn, .slice (some ⟨qb, qo, none⟩) qx.length qc], .pointer (some ⟨Ba, 0, none⟩), .pointer (some ⟨Bb, 0, none⟩), c4, c5, c6, .int .i64 (j : Nat), .slice B (rowU F Wn j Wn).length d, u9, c10, c11, c12, c13, c14, c15, c16, u17, u18, u19, u20, u21, u22, u23, u24, u25, u26, u27, u28, u29, u30, u31, u32, u33, u34, u35, u36, u37, u38, u39, u40, u41, u42, u43, u44, u45, u46, u47, u48, u49, u50, u51, u52, u53, u54, u55, u56, u57, u58, u59, u60, u61, u62, u63, u64, u65, u66, u67, u68, u69, u70, u71, u72, u73, u74, u75, u76, u77, u78, u79, u80, u81, c82, c83, c84, c85, c86, c87, c88, c89, c90, c91, c92, c93, c94, c95, c96, c97, c98, c99, c100, c101, c102, c103, c104, c105, c106, c107, c108, c109, c110, c111, c112, c113, c114, c115, c116, c117, c118, c119, c120, c121, c122, c123, c124, c125, c126, c127, c128], defers := [] } w') :
    Code.wp Try.prog difB (Exit.then K Q') { tmps := #[.agg #[.int .i64 Wn, .int .i64 Hn, .slice (some ⟨pb, po, none⟩) px.length pc], .agg #[.int .i64 Wn, .int .i64 Hn, .slice (some ⟨qb, qo, none⟩) qx.length qc], .pointer (some ⟨Ba, 0, none⟩), .pointer (some ⟨Bb, 0, none⟩), c4, c5, c6, .int .i64 (j : Nat), .slice none 0 0, .int .i64 0, c10, c11, c12, c13, c14, c15, c16, c17, c18, c19, c20, c21, c22, c23, c24, c25, c26, c27, c28, c29, c30, c31, c32, c33, c34, c35, c36, c37, c38, c39, c40, c41, c42, c43, c44, c45, c46, c47, c48, c49, c50, c51, c52, c53, c54, c55, c56, c57, c58, c59, c60, c61, c62, c63, c64, c65, c66, c67, c68, c69, c70, c71, c72, c73, c74, c75, c76, c77, c78, c79, c80, c81, c82, c83, c84, c85, c86, c87, c88, c89, c90, c91, c92, c93, c94, c95, c96, c97, c98, c99, c100, c101, c102, c103, c104, c105, c106, c107, c108, c109, c110, c111, c112, c113, c114, c115, c116, c117, c118, c119, c120, c121, c122, c123, c124, c125, c126, c127, c128], defers := [] } w := by
  conv => arg 2; whnf
  have hb1 : j * Wn + Wn ≤ Wn * Hn := by
    have := Nat.mul_le_mul_right Wn (show j + 1 ≤ Hn from hj)
    rw [Nat.succ_mul, Nat.mul_comm Hn] at this
    exact this
  have hb2 : Wn * Hn ≤ 256 * 256 := Nat.mul_le_mul hW hH
  go_wp2_with fail
  go_loopw [8, 9] (fun v iv wr => ∃ (i : Nat) (B : Option Addr) (d : Nat), i ≤ Wn ∧ iv = .int .i64 i ∧ v = .slice B (rowU F Wn j i).length d ∧ OwnR wr w.heap.size (.slice B (rowU F Wn j i).length d) (rowU F Wn j i) ∧ (B = none → d = 0) ∧ Ext w wr) (fun _ iv _ => Wn - (intOf iv).toNat)
  case atStart => exact ⟨0, none, 0, Nat.zero_le _, rfl, rfl, World.ownsRow_nil _ _ _ _, fun _ => rfl, Ext.refl _⟩
  case round =>
    obtain ⟨i, B, d, hi, rfl, rfl, hown, hnil, hE⟩ := hrel
    obtain ⟨c0, f0⟩ := blk_rules (hE.keep ka)
    obtain ⟨c1, f1⟩ := blk_rules (hE.keep kb)
    by_cases hlt : i < Wn
    · have hLn := rowU_length F Wn j i
      obtain ⟨L, hL⟩ : ∃ L, rowU F Wn j i = L := ⟨_, rfl⟩
      rw [hL] at hown hLn
      simp only [hL]
      obtain ⟨k, hk⟩ : ∃ k, j * Wn + i = k := ⟨_, rfl⟩
      have hkn : k < px.length := by rw [hpx.out]; omega
      have hkm : k < qx.length := by rw [hqx.out]; omega
      have hbn : px.length ≤ 65536 := by rw [hpx.out]; omega
      have hbm : qx.length ≤ 65536 := by rw [hqx.out]; omega
      obtain ⟨b1, o1, e1, hp⟩ := (ra.out.ext hE).form (by omega)
      obtain ⟨b2, o2, e2, hq⟩ := (rb.out.ext hE).form (by omega)
      injection e1 with e1; injection e1 with e1 e1'; subst e1; subst e1'
      injection e2 with e2; injection e2 with e2 e2'; subst e2; subst e2'
      have gp := hp k hkn
      have gq := hq k hkm
      have hv := hF.out i j hlt hj
      rw [hk] at hv
      have s1 : IntKind.i64.wrap ((j : Int) * (Wn : Int)) = (j : Int) * (Wn : Int) := IntWalk.i64_in _ (by rw [← Int.natCast_mul]; omega)
      have s2 : IntKind.i64.wrap ((j : Int) * (Wn : Int) + (i : Int)) = (k : Int) := by
        rw [← Int.natCast_mul, ← Int.natCast_add, hk]
        exact IntWalk.i64_in _ (by omega)
      have HLL := Lib.hid hL
      have HO := Lib.hid hown
      have HNIL := Lib.hid hnil
      generalize px.getD k 0 = v1 at *
      generalize qx.getD k 0 = v2 at *
      have kk1 : ((k : Nat) : Int) < (px.length : Int) := by omega
      have kk2 : ((k : Nat) : Int) < (qx.length : Int) := by omega
      clear hp hq hL hown hnil hk hb1
      cases hvv : (v1 != v2)
      · rw [hvv] at hv
        have hsk := rowU_skip hlt hv
        rw [HLL.out] at hsk
        have HSK := Lib.hid hsk
        have hve : (v1 == v2) = true := by simpa using hvv
        clear hv hsk hvv
        go_wp2_with fail
        go_quiet (fail)
        have hE2 := hE.drewN nq
        have HO2 : Hid (OwnR (wr.drewN nq) w.heap.size (.slice B L.length d) L) := Lib.hid HO.out
        go_wp2_with fail
        exact ⟨⟨i + 1, B, d, by omega, by go_num, by rw [HSK.out], by rw [HSK.out]; exact HO2.out, HNIL.out, hE2⟩, by simp [intOf]; omega⟩
      · rw [hvv] at hv
        have hve : (v1 == v2) = false := by simpa using hvv
        have HV := Lib.hid hv
        clear hv hvv
        go_wp2_with fail
        go_quiet (fail)
        have HO2 : Hid (OwnR (wr.drewN nq) w.heap.size (.slice B L.length d) L) := Lib.hid HO.out
        replace hE := hE.drewN nq
        clear c0 f0 c1 f1 gp gq HO hve s1 s2
        generalize wr.drewN nq = w1 at *
        have r1 := HO2.out
        by_cases hl0 : L.length = 0
        · have hLe : L = [] := List.eq_nil_of_length_eq_zero hl0
          have hnew := rowU_new hlt HV.out (by rw [HLL.out, hLe]; intro r hr; cases hr)
          rw [HLL.out] at hnew
          have HN := Lib.hid hnew
          clear hnew r1 hLe
          have dl2 : decide ((0 : Int) < ((L.length : Nat) : Int)) = false := by rw [decide_eq_false_iff_not]; omega
          go_wp2_with fail
          go_quiet (fail)
          have HO3 : Hid (OwnR (w1.drewN nq) w.heap.size (.slice B L.length d) L) := Lib.hid HO2.out
          replace hE := hE.drewN nq
          clear dl2 HO2
          generalize w1.drewN nq = w2 at *
          have hown7 := HO3.out
          have hz7 := hE.size
          go_wp2_with (first | (refine wpList_app w.heap.size rfl (.tmp 76) (.tmp 80) 22 26 (.agg #[.int .i64 0, .int .i64 0, .int .i64 0, .int .i64 0]) 4 32 rfl Try.underlying22 info_rect rfl (by decide) (by decide) (.slice B L.length d) L.length (rcells L) rfl (World.ownsRow.alloc hown7 _) (some ⟨w2.heap.size, 0, none⟩) 1 1 (rcell ⟨(i : Int), (j : Int), 1, 1⟩) rfl (fun h => by cases h) rfl (fun _ => ⟨_, rfl, World.news_of_block (blk_new w2 _)⟩) (by simp [rcell, Value.oneCell']) (by omega) (by simp; omega) (fun v' w5 hr5 hg5 => ?_); obtain ⟨B5, d5, rfl⟩ := row_slice hr5))
          have hr6 : OwnR w5 w.heap.size (.slice B5 (L ++ [(⟨(i : Int), (j : Int), 1, 1⟩ : Rect)]).length d5) (L ++ [(⟨(i : Int), (j : Int), 1, 1⟩ : Rect)]) := by
            unfold OwnR
            rw [List.length_append, show rcells (L ++ [⟨(i : Int), (j : Int), 1, 1⟩]) = rcells L ++ rcell ⟨(i : Int), (j : Int), 1, 1⟩ by simp [rcells]]
            exact hr5
          have hE5 : Ext w w5 := row_ext (World.ownsRow.alloc hown7 _) (hE.alloc _) hg5
          have hnil5 : B5 = none → d5 = 0 := fun h => by
            subst h
            obtain ⟨g, e, _⟩ := row_form hr6 (by simp)
            cases e
          clear hr5 hg5 hown7
          go_wp2_with fail
          exact ⟨⟨i + 1, B5, d5, by omega, by go_num, by rw [HN.out]; first | (simp; done) | (simp [hlen]; done) | (simp [List.eq_nil_of_length_eq_zero hl0]; done), by rw [HN.out]; exact hr6, hnil5, hE5⟩, by simp [intOf]; omega⟩
        · obtain ⟨L0, r, hLr, hLm, hlast, hr0, hr1, hr2⟩ := rowU_last hi HLL.out (by omega)
          obtain ⟨g, rfl, hgb⟩ := row_form r1 (by omega)
          have q0 := (World.ownsRow.cellAt r1 (L0.length * 4 + 0) (by omega)).trans (rcells_get hlast 0 (by decide))
          have q2 := (World.ownsRow.cellAt r1 (L0.length * 4 + 2) (by omega)).trans (rcells_get hlast 2 (by decide))
          simp only [rcell, List.getElem?_cons_zero, List.getElem?_cons_succ, Nat.add_zero] at q0 q2
          obtain ⟨m, hm⟩ : ∃ m, L0.length = m := ⟨_, rfl⟩
          rw [hm] at q0 q2 hLm
          have e1 : ((m : Int) + 1) - 1 = m := by omega
          have e4 : IntKind.i64.wrap (m : Int) = m := IntWalk.i64_in _ (by omega)
          have e5 : IntKind.i64.wrap ((m : Int) + 1 - 1) = m := by rw [e1]; exact e4
          have e6 : (m : Int) < (m : Int) + 1 := by omega
          have e3 : IntKind.i64.wrap (r.x + r.w) = r.x + r.w := IntWalk.i64_in _ (by omega)
          have HLR := Lib.hid hLr
          have HM := Lib.hid hm
          have HLM := Lib.hid hLm
          by_cases hsx : r.x + r.w = i
          · have hgr := rowU_grow hlt HV.out (HLL.out.trans hLr) hsx
            have hst := (World.ownsRow.stored r1 (m * 4 + 2) (.int .i64 (r.w + 1))).1
            rw [hLr, rcells_setw hm, ← hLr] at hst
            have hgn : (rowU F Wn j (i + 1)).length = L.length := by rw [hgr, hLr]; simp
            rw [← hgr] at hst
            have HST := Lib.hid hst
            have HGN := Lib.hid hgn
            have HR := Lib.hid r1
            have hsx1 : ((r.x + r.w) == (i : Int)) = true := by simpa using hsx
            have e7 : IntKind.i64.wrap (r.w + 1) = r.w + 1 := IntWalk.i64_in _ (by omega)
            clear hgr hst hgn r1 hLr hlast hsx hm hLm
            have hlen := HLM.out
            simp only [hlen]
            go_wp2_with fail
            go_quiet (fail)
            have HST2 := HST
            replace HR : Hid (OwnR (w1.drewN nq) w.heap.size (.slice (some ⟨g, 0, none⟩) L.length d) L) := Lib.hid HR.out
            replace q2 : (w1.drewN nq).cell? _ = _ := q2
            replace hE := hE.drewN nq
            have HST3 : Hid (((w1.drewN nq).setCell ⟨g, m * 4 + 2, none⟩ (.int .i64 (r.w + 1))).ownsRow w.heap.size 26 4 (.slice (some ⟨g, 0, none⟩) L.length d) L.length (rcells (rowU F Wn j (i + 1)))) := Lib.hid HST.out
            clear q0 HO2 HST HST2 hsx1
            generalize w1.drewN nq = w2 at *
            have hrf := fun j => World.ownsRow.frozenAt HR.out j
            have hgl : g < w2.heap.size := (World.ownsRow.lt HR.out g (by simp [Value.ownBlock])).2
            go_wp2_with fail
            have hset := hE.set (p := ⟨g, m * 4 + 2, none⟩) (by simpa using hgb) (.int .i64 (r.w + 1))
            exact ⟨⟨i + 1, some ⟨g, 0, none⟩, d, by omega, by go_num, by rw [HGN.out, hlen], by unfold OwnR; rw [HGN.out]; exact HST3.out, fun h => (by cases h), hset⟩, by simp [intOf]; omega⟩
          · have hsx1 : ((r.x + r.w) == (i : Int)) = false := by simpa using hsx
            have hnew := rowU_new hlt HV.out (by rw [HLL.out, hLr]; intro t ht; simp at ht; rw [← ht]; exact hsx)
            rw [HLL.out] at hnew
            have HN := Lib.hid hnew
            clear hnew r1 hLr hlast hsx hm hLm
            have hlen := HLM.out
            simp only [hlen]
            go_wp2_with fail
            go_quiet (fail)
            have HO3 : Hid (OwnR (w1.drewN nq) w.heap.size (.slice (some ⟨g, 0, none⟩) L.length d) L) := Lib.hid HO2.out
            replace hE := hE.drewN nq
            clear HO2 q0 q2 e1 e3 e4 e5 e6 hsx1
            generalize w1.drewN nq = w2 at *
            simp only [← hlen]
            have hown7 := HO3.out
            have hz7 := hE.size
            go_wp2_with (first | (refine wpList_app w.heap.size rfl (.tmp 76) (.tmp 80) 22 26 (.agg #[.int .i64 0, .int .i64 0, .int .i64 0, .int .i64 0]) 4 32 rfl Try.underlying22 info_rect rfl (by decide) (by decide) (.slice (some ⟨g, 0, none⟩) L.length d) L.length (rcells L) rfl (World.ownsRow.alloc hown7 _) (some ⟨w2.heap.size, 0, none⟩) 1 1 (rcell ⟨(i : Int), (j : Int), 1, 1⟩) rfl (fun h => by cases h) rfl (fun _ => ⟨_, rfl, World.news_of_block (blk_new w2 _)⟩) (by simp [rcell, Value.oneCell']) (by omega) (by simp; omega) (fun v' w5 hr5 hg5 => ?_); obtain ⟨B5, d5, rfl⟩ := row_slice hr5))
            have hr6 : OwnR w5 w.heap.size (.slice B5 (L ++ [(⟨(i : Int), (j : Int), 1, 1⟩ : Rect)]).length d5) (L ++ [(⟨(i : Int), (j : Int), 1, 1⟩ : Rect)]) := by
              unfold OwnR
              rw [List.length_append, show rcells (L ++ [⟨(i : Int), (j : Int), 1, 1⟩]) = rcells L ++ rcell ⟨(i : Int), (j : Int), 1, 1⟩ by simp [rcells]]
              exact hr5
            have hE5 : Ext w w5 := row_ext (World.ownsRow.alloc hown7 _) (hE.alloc _) hg5
            have hnil5 : B5 = none → d5 = 0 := fun h => by
              subst h
              obtain ⟨g, e, _⟩ := row_form hr6 (by simp)
              cases e
            clear hr5 hg5 hown7
            go_wp2_with fail
            exact ⟨⟨i + 1, B5, d5, by omega, by go_num, by rw [HN.out]; first | (simp; done) | (simp [hlen]; done) | (simp [List.eq_nil_of_length_eq_zero hl0]; done), by rw [HN.out]; exact hr6, hnil5, hE5⟩, by simp [intOf]; omega⟩
    · obtain rfl : i = Wn := by omega
      have HX := Lib.hid hown
      have HNIL := Lib.hid hnil
      clear hown hnil
      go_wp2_with fail
      exact hK _ _ _ _ _ _ _ _ _ _ _ _ _ _ _ _ _ _ _ _ _ _ _ _ _ _ _ _ _ _ _ _ _ _ _ _ _ _ _ _ _ _ _ _ _ _ _ _ _ _ _ _ _ _ _ _ _ _ _ _ _ _ _ _ _ _ B d wr HX.out HNIL.out hE
end Go.Proofs.Ytjghghbldifhaaa
