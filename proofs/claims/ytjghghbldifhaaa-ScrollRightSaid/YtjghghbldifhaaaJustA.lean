/- The document's list of where two pictures are unlike: the whole walk. Printed by gen_difs.py. -/
/- What the laws of two buffers need: vignetteref03.New, Diff of buffers of unlike sizes, where two pictures are unlike. -/
/- What PixbufJust leans on: pixels. Plain. -/
/- (*pixbuf.Buf).Copy, told in one; great with one act; a buffer that another one's turn leaves. -/
import Derived.Test.YtjghghbldifhaaaDifA
import Derived.Test.YtjghghbldifhaaaRegY
import Derived.Test.YtjghghbldifhaaaLawN
import Derived.Test.YtjghghbldifhaaaActB
import Derived.Test.YtjghghbldifhaaaPicC
import Derived.Test.YtjghghbldifhaaaRegU
set_option linter.unusedVariables false
set_option linter.unusedSimpArgs false
namespace Go.Proofs.Ytjghghbldifhaaa
open Go.RowKit
set_option maxHeartbeats 2000000 in
theorem across_any (A B : Option Addr) (c d : Nat) (a b : List Rect) (w : World) (ha : RectsAt w A a) (hb : RectsAt w B b) (hm : a.length ≤ 9223372036854775807) (hn : b.length ≤ 9223372036854775807) :
    Calls Try.prog 108 #[.slice A a.length c, .slice B b.length d] w fun e w' => e = .returned (.bool (alikeR a b)) ∧ Ext w w' := by
  by_cases hl : a.length = b.length
  · have hl1 : ((a.length : Nat) != b.length) = false := by simp [hl]
    go_enter Try.func108, Try.ntmps108
    have Hl := Lib.hid hl
    clear hl
    go_wp2_with fail
    go_loopw [5] (fun i wr => ∃ k : Nat, k ≤ a.length ∧ i = .int .i64 k ∧ (a.take k).map (fun r => (r.x, r.w)) = (b.take k).map (fun r => (r.x, r.w)) ∧ Ext w wr) (fun i _ => a.length - (intOf i).toNat)
    case atStart => exact ⟨0, Nat.zero_le _, rfl, by simp, Ext.refl _⟩
    case round =>
      obtain ⟨k, hk, rfl, ht, hE⟩ := hrel
      have Ht := Lib.hid ht
      clear ht
      by_cases hlt : k < a.length
      · have hlt2 : k < b.length := by have := Hl.out; omega
        obtain ⟨b1, o1, rfl, h1⟩ := (ha.ext hE).form (by omega)
        obtain ⟨b2, o2, rfl, h2⟩ := (hb.ext hE).form (by omega)
        obtain ⟨p0, p1, p2, p3⟩ := h1 k a[k] (List.getElem?_eq_getElem hlt)
        obtain ⟨q0, q1, q2, q3⟩ := h2 k b[k] (List.getElem?_eq_getElem hlt2)
        have Ht2 : Hid (a[k].x = b[k].x ∧ a[k].w = b[k].w → (a.take (k + 1)).map (fun r => (r.x, r.w)) = (b.take (k + 1)).map (fun r => (r.x, r.w))) := fun e => by
          rw [List.take_succ_eq_append_getElem hlt, List.take_succ_eq_append_getElem hlt2, List.map_append, List.map_append, Ht.out]
          simp [e.1, e.2]
        have Ht3 : Hid (¬ (a[k].x = b[k].x ∧ a[k].w = b[k].w) → alikeR a b = false) := fun e => by
          simp only [alikeR, decide_eq_false_iff_not]
          intro e2
          have e3 : (a.map (fun r => (r.x, r.w)))[k]? = (b.map (fun r => (r.x, r.w)))[k]? := by rw [e2]
          simp [List.getElem?_map, List.getElem?_eq_getElem hlt, List.getElem?_eq_getElem hlt2] at e3
          exact e e3
        clear h1 h2
        generalize a[k] = p at *
        generalize b[k] = q at *
        by_cases hx : p.x = q.x
        · have hx1 : (p.x != q.x) = false := by simp [hx]
          by_cases hw : p.w = q.w
          · have hw1 : (p.w != q.w) = false := by simp [hw]
            have HT := Lib.hid (Ht2.out ⟨hx, hw⟩)
            clear hx hw Ht2 Ht3
            go_wp2_with fail
            go_quiet (fail)
            go_wp2_with fail
            exact ⟨⟨k + 1, by omega, by go_num, HT.out, hE.drewN _⟩, by simp [intOf]; omega⟩
          · have hw1 : (p.w != q.w) = true := by simpa using hw
            have HN := Lib.hid (Ht3.out (fun h => hw h.2))
            clear hx hw Ht2 Ht3
            go_wp2_with fail
            go_quiet (fail)
            go_wp2_with fail
            go_ret
            exact ⟨by rw [HN.out]; rfl, hE.drewN _⟩
        · have hx1 : (p.x != q.x) = true := by simpa using hx
          have HN := Lib.hid (Ht3.out (fun h => hx h.1))
          clear hx Ht2 Ht3
          go_wp2_with fail
          go_quiet (fail)
          go_wp2_with fail
          go_ret
          exact ⟨by rw [HN.out]; rfl, hE.drewN _⟩
      · have he : alikeR a b = true := by
          have := Ht.out
          have h2 := Hl.out
          rw [List.take_of_length_le (by omega), List.take_of_length_le (by omega)] at this
          simpa [alikeR] using this
        have He := Lib.hid he
        clear he
        go_wp2_with fail
        go_ret
        exact ⟨by rw [He.out]; rfl, hE⟩
  · have hl1 : ((a.length : Nat) != b.length) = true := by simpa using hl
    rw [alikeR_len hl]
    go_enter Try.func108, Try.ntmps108
    go_wp2_with fail
    go_ret
    exact ⟨rfl, Ext.refl _⟩

section
variable {S : Int → List (Run Bool)}
def piecesS (S : Int → List (Run Bool)) (y : Int) : List Piece := (S y).map Run.piece
def lastS (S : Int → List (Run Bool)) (j : Nat) : List Piece := if j = 0 then [] else piecesS S ((j - 1 : Nat) : Int)
def flatS (S : Int → List (Run Bool)) (n j : Nat) : List Rect := flat (cellsOf [] S (stepsTo n) j)
theorem piecesS_inj (hS : ∀ y, ∀ r ∈ S y, r.v = true) {y z : Int} (h : piecesS S y = piecesS S z) : S y = S z := by
  rw [← runs_pieces (hS y), ← runs_pieces (hS z)]
  exact congrArg (List.map Piece.run) h
theorem piecesS_nil {y : Int} : piecesS S y = [] ↔ S y = [] := by unfold piecesS; rw [List.map_eq_nil_iff]
theorem bandRectsS {y0 y1 y : Int} : bandRects ⟨y0, y1, S y⟩ = (piecesS S y).map (pieceRect y0 y1) := by
  unfold bandRects piecesS
  rw [List.map_map]
  rfl
theorem flatS_same (hS : ∀ y, ∀ r ∈ S y, r.v = true) {n j : Nat} (hj : j < n) (hne : piecesS S (j : Int) ≠ []) (hs : piecesS S (j : Int) = lastS S j) : flatS S n (j + 1) = stretch (flatS S n j) (piecesS S (j : Int)).length 1 := by
  rcases j with _ | j
  · exact absurd hs hne
  · have hs' : piecesS S ((j + 1 : Nat) : Int) = piecesS S (j : Int) := by
      rw [hs]
      unfold lastS
      rw [if_neg (by omega), Nat.add_sub_cancel]
    have hsp := piecesS_inj hS hs'
    have hv : S (j : Int) ≠ [] := fun e => hne (by rw [hs', piecesS_nil]; exact e)
    obtain ⟨l, r, h1, h2, h3⟩ := cellsOf_last (d := ([] : List (Run Bool))) (val := S) (xs := stepsTo n) (i := j) (by rw [stepsTo_get (by omega)]; exact hv)
    rw [stepsTo_get (by omega)] at h2 h3
    have hstep : cellsOf [] S (stepsTo n) (j + 1 + 1) = l ++ [⟨r.a, ((j + 1 + 1 : Nat) : Int), r.v⟩] := by
      show runsPush _ (cellsOf [] S (stepsTo n) (j + 1)) _ _ _ = _
      rw [stepsTo_get (by omega), stepsTo_get (by omega)]
      unfold runsPush
      rw [if_neg (by rw [hsp]; exact hv), h1, show (l ++ [r]).getLast? = some r by simp]
      dsimp only
      rw [if_pos ⟨h2, by rw [h3, hsp]⟩, List.dropLast_concat]
    have hlen : (bandRects r).length = (piecesS S ((j + 1 : Nat) : Int)).length := by
      unfold bandRects piecesS
      rw [List.length_map, List.length_map, h3, hsp]
    unfold flatS
    rw [hstep, h1, flat_append, flat_append, flat_one, flat_one, stretch_append hlen]
    congr 1
    unfold bandRects
    rw [List.map_map]
    refine List.map_congr_left fun s _ => ?_
    simp only [Function.comp]
    congr 1
    omega
theorem flatS_new {n j : Nat} (hj : j < n) (hs : piecesS S (j : Int) = [] ∨ piecesS S (j : Int) ≠ lastS S j) : flatS S n (j + 1) = flatS S n j ++ (piecesS S (j : Int)).map (pieceRect j (j + 1 : Nat)) := by
  by_cases hn : piecesS S (j : Int) = []
  · have hsp := piecesS_nil.1 hn
    unfold flatS
    rw [hn, List.map_nil, List.append_nil]
    show flat (runsPush _ _ _ _ _) = _
    rw [stepsTo_get (i := j) (by omega)]
    unfold runsPush
    rw [if_pos hsp]
  · have hs' := hs.resolve_left hn
    have hsp : S (j : Int) ≠ [] := fun e => hn (piecesS_nil.2 e)
    have hstep : cellsOf [] S (stepsTo n) (j + 1) = cellsOf [] S (stepsTo n) j ++ [⟨(j : Int), ((j + 1 : Nat) : Int), S (j : Int)⟩] := by
      show runsPush _ (cellsOf [] S (stepsTo n) j) _ _ _ = _
      rw [stepsTo_get (by omega), stepsTo_get (by omega)]
      unfold runsPush
      rw [if_neg hsp]
      rcases List.eq_nil_or_concat (cellsOf [] S (stepsTo n) j) with h | ⟨l0, t, h⟩
      · rw [h]; rfl
      · rw [h, List.concat_eq_append, show (l0 ++ [t]).getLast? = some t by simp]
        dsimp only
        rw [if_neg]
        rintro ⟨h1, h2⟩
        rcases j with _ | j
        · simp [cellsOf] at h
        · rw [List.concat_eq_append] at h
          by_cases hv : S (j : Int) = []
          · have hskip : cellsOf [] S (stepsTo n) (j + 1) = cellsOf [] S (stepsTo n) j := by
              show runsPush _ _ _ _ _ = _
              rw [stepsTo_get (i := j) (by omega)]
              unfold runsPush
              rw [if_pos hv]
            have h3 := (runs_steps_mem (F := S) (n := n) (i := j) (by omega) (r := t) (by rw [← hskip, h]; simp)).2
            omega
          · obtain ⟨l, r, e1, e2, e3⟩ := cellsOf_last (d := ([] : List (Run Bool))) (val := S) (xs := stepsTo n) (i := j) (by rw [stepsTo_get (by omega)]; exact hv)
            rw [h] at e1
            rw [stepsTo_get (i := j) (by omega)] at e3
            have : t = r := by
              have := congrArg List.getLast? e1
              simpa using this
            subst this
            refine hs' ?_
            unfold lastS piecesS
            rw [if_neg (by omega), Nat.add_sub_cancel, ← h2, e3]
    unfold flatS
    rw [hstep, flat_append, flat_one, bandRectsS]
theorem flatS_length (hS : ∀ y, ∀ r ∈ S y, r.v = true) {n m : Nat} (hm : ∀ y, (S y).length ≤ m) : ∀ j, j ≤ n → (flatS S n j).length ≤ j * m
  | 0, _ => by simp [flatS, cellsOf, flat]
  | j + 1, hj => by
    have ih := flatS_length (n := n) hS hm j (by omega)
    have h1 : (piecesS S (j : Int)).length ≤ m := by unfold piecesS; rw [List.length_map]; exact hm _
    rw [Nat.succ_mul]
    by_cases hs : piecesS S (j : Int) = [] ∨ piecesS S (j : Int) ≠ lastS S j
    · rw [flatS_new (n := n) (j := j) (by omega) hs, List.length_append, List.length_map]
      omega
    · have h2 : piecesS S (j : Int) ≠ [] := fun e => hs (.inl e)
      have h3 : piecesS S (j : Int) = lastS S j := Classical.byContradiction fun e => hs (.inr e)
      rw [flatS_same (n := n) (j := j) hS (by omega) h2 h3, stretch_length]
      omega
end
theorem spansU_true {F : Int → Int → Bool} {W : Nat} {y : Int} : ∀ r ∈ spansU F W y, r.v = true := fun r hr => by simpa using cellsOf_val _ r hr
theorem rowU_pieces (F : Int → Int → Bool) (W : Nat) (j : Nat) : rowU F W (j : Int) W = (piecesS (spansU F W) (j : Int)).map (pieceRect j (j + 1 : Nat)) := by
  unfold rowU piecesS spansU
  rw [List.map_map]
  refine List.map_congr_left fun s _ => ?_
  simp only [Function.comp, pieceRect, Run.piece]
  congr 1
  omega

theorem stretch_pieces1 {P : List Piece} {Y0 y0 : Int} : ((P.map (pieceRect Y0 y0)).map fun r => (⟨r.x, r.y, r.w, r.h + 1⟩ : Rect)) = P.map (pieceRect Y0 (y0 + 1)) := by
  rw [List.map_map]
  refine List.map_congr_left fun p _ => ?_
  unfold pieceRect
  simp only [Function.comp_apply]
  congr 1
  omega
set_option maxRecDepth 100000 in
set_option maxHeartbeats 16000000 in
theorem rdiff_any (pb po pc qb qo qc Wn Hn : Nat) (px qx : List Int) (F : Int → Int → Bool) (w : World)
    (ra : Hid (Reads .u32 w (some ⟨pb, po, none⟩) px)) (rb : Hid (Reads .u32 w (some ⟨qb, qo, none⟩) qx)) (hpx : Hid (px.length = Wn * Hn)) (hqx : Hid (qx.length = Wn * Hn)) (hW : Wn ≤ 256) (hH : Hn ≤ 256)
    (hF : Hid (∀ i j : Nat, i < Wn → j < Hn → F i j = (px.getD (j * Wn + i) 0 != qx.getD (j * Wn + i) 0))) :
    Calls Try.prog 68 #[.agg #[.int .i64 Wn, .int .i64 Hn, .slice (some ⟨pb, po, none⟩) px.length pc], .agg #[.int .i64 Wn, .int .i64 Hn, .slice (some ⟨qb, qo, none⟩) qx.length qc]] w (GivesR (listU F Wn Hn) w) := by
  have hS : ∀ y, ∀ r ∈ spansU F Wn y, r.v = true := fun y => spansU_true
  have hSl : ∀ y, (spansU F Wn y).length ≤ 256 := fun y => Nat.le_trans (cellsOf_length Wn) hW
  have hfl : ∀ j, j ≤ Hn → (flatS (spansU F Wn) Hn j).length ≤ 65536 := fun j hj => by
    have h1 := flatS_length hS hSl j hj
    have h2 : j * 256 ≤ 256 * 256 := Nat.mul_le_mul_right _ (by omega)
    omega
  have hfl2 : ∀ j, j ≤ Hn → (flatS (spansU F Wn) Hn j).length ≤ 2199023255552 ∧ (lastS (spansU F Wn) j).length ≤ 1048576 := fun j hj => by
    refine ⟨by have := hfl j hj; omega, ?_⟩
    unfold lastS
    split
    · simp
    · unfold piecesS
      rw [List.length_map]
      have := hSl ((j - 1 : Nat) : Int)
      omega
  have hrow : ∀ j : Nat, rowU F Wn (j : Int) Wn = (piecesS (spansU F Wn) (j : Int)).map (pieceRect j (j + 1 : Nat)) := fun j => rowU_pieces F Wn j
  have hall : flatS (spansU F Wn) Hn Hn = listU F Wn Hn := rfl
  obtain ⟨S, hSS⟩ : ∃ S, spansU F Wn = S := ⟨_, rfl⟩
  rw [hSS] at hS hSl hfl2 hrow hall
  have HALL := Lib.hid hall
  have HFL := Lib.hid hfl2
  clear hSS hfl hfl2 hall
  go_enter Try.func68, Try.ntmps68
  go_wp2_with fail
  generalize hw4 : (w.alloc _).alloc _ = w4
  have hE4 : Ext w w4 := by rw [← hw4]; exact ((Ext.refl w).alloc _).alloc _
  have ka : w4.heap[w.heap.size]? = some (.cells #[.int .i64 Wn, .int .i64 Hn, .slice (some ⟨pb, po, none⟩) px.length pc] 43 (0, 0)) := by rw [← hw4]; exact blk_old (blk_new w _) _
  have kb : w4.heap[w.heap.size + 1]? = some (.cells #[.int .i64 Wn, .int .i64 Hn, .slice (some ⟨qb, qo, none⟩) qx.length qc] 43 (0, 0)) := by rw [← hw4]; exact blk_new1 w _ _
  have HP0 := Lib.hid ra.out
  have HQ0 := Lib.hid rb.out
  clear hw4 ra rb
  go_loopw [5, 6, 7, 8, 9, 10] (fun ov lv jv _ _ _ wr => ∃ (j : Nat) (O L : List Rect) (B C : Option Addr) (d e : Nat) (Y0 : Int), j ≤ Hn ∧ jv = .int .i64 j ∧ ov = .slice B O.length d ∧ lv = .slice C L.length e ∧ RofAt w4 wr O L B C d e ∧ O ++ L = flatS S Hn j ∧ L = (lastS S j).map (pieceRect Y0 (j : Int)) ∧ (0 ≤ Y0 ∧ Y0 ≤ 256)) (fun _ _ jv _ _ _ _ => Hn - (intOf jv).toNat)
  case atStart => exact ⟨0, [], [], none, none, 0, 0, 0, Nat.zero_le _, rfl, rfl, rfl, ⟨World.ownsRow_nil _ _ _ _, World.ownsRow_nil _ _ _ _, .inl rfl, Ext.refl _⟩, rfl, rfl, by omega⟩
  case round =>
    obtain ⟨j, O, L, B, C, d, e, Y0, hj, rfl, rfl, rfl, hR, hOL, hLP, hY0⟩ := hrel
    have hlen := HFL.out j hj
    have hOLn : O.length + L.length ≤ 2199023255552 := by rw [← List.length_append, hOL]; exact hlen.1
    have hLn : L.length ≤ 1048576 := by rw [hLP, List.length_map]; exact hlen.2
    have HR := Lib.hid hR
    have HOL := Lib.hid hOL
    have HLP := Lib.hid hLP
    clear hlen hR hOL hLP
    obtain ⟨c0, f0⟩ := blk_rules (HR.out.ext.keep ka)
    by_cases hlt : j < Hn
    · obtain ⟨y0, hy0⟩ : ∃ y : Int, (j : Int) = y := ⟨_, rfl⟩
      obtain ⟨y1, hy1⟩ : ∃ y : Int, ((j + 1 : Nat) : Int) = y := ⟨_, rfl⟩
      have by0 : 0 ≤ y0 ∧ y0 ≤ 256 := by omega
      have by1 : y1 = y0 + 1 := by omega
      have HY0 := Lib.hid hy0
      have HY1 := Lib.hid hy1
      clear hy0 hy1
      go_upto_block 2 with fail
      refine dif_block _ _ _ _ _ _ _ _ _ _ _ _ _ _ _ _ _ _ _ _ _ _ _ _ _ _ _ _ _ _ _ _ _ _ _ _ _ _ _ _ _ _ _ _ _ _ _ _ _ _ _ _ _ _ _ _ _ _ _ _ _ _ _ _ _ _ _ _ _ _ _ _ _ _ _ _ _ _ _ _ _ _ _ _ _ _ _ _ _ _ _ _ _ _ _ _ _ _ _ _ _ _ _ _ _ _ _ _ _ _ _ _ _ _ _ _ _ _ _ _ _ _  wr pb po pc qb qo qc _ _ Wn Hn j px qx F _ _ (HR.out.ext.keep ka) (HR.out.ext.keep kb) (Lib.hid (HP0.out.ext (hE4.trans HR.out.ext))) (Lib.hid (HQ0.out.ext (hE4.trans HR.out.ext))) hpx hqx hW hH hlt hF ?_
      intro _ _ _ _ _ _ _ _ _ _ _ _ _ _ _ _ _ _ _ _ _ _ _ _ _ _ _ _ _ _ _ _ _ _ _ _ _ _ _ _ _ _ _ _ _ _ _ _ _ _ _ _ _ _ _ _ _ _ _ _ _ _ _ _ _ _  D f w6 hM hnilD hE6
      clear c0 f0
      have hrw : rowU F Wn (j : Int) Wn = (piecesS S y0).map (pieceRect y0 y1) := by rw [hrow j, HY0.out, HY1.out]
      rw [hrw] at hM ⊢
      clear hrw
      have hR6 := HR.out.keep hE6
      have hap := own_apart HR.out.own hM
      obtain ⟨P, hP⟩ : ∃ P, piecesS S y0 = P := ⟨_, rfl⟩
      have hPn : P.length ≤ 1048576 := by rw [← hP]; unfold piecesS; rw [List.length_map]; have := hSl y0; omega
      rw [hP] at hM hap
      simp only [hP]
      obtain ⟨M, hMd⟩ : ∃ M, P.map (pieceRect y0 y1) = M := ⟨_, rfl⟩
      have hMl : P.length = M.length := by rw [← hMd, List.length_map]
      rw [hMl] at hPn
      have HML := Lib.hid hMl
      rw [hMd] at hM hap
      simp only [hMd]
      have HP := Lib.hid hP
      have HMD := Lib.hid hMd
      have HM := Lib.hid hM
      have HR6 := Lib.hid hR6
      have HAP := Lib.hid hap
      have hnew : ∀ (hs : P = [] ∨ P ≠ lastS S j), O ++ L ++ M = flatS S Hn (j + 1) := fun hs => by
        rw [flatS_new hlt (by rw [HY0.out, HP.out]; exact hs), HOL.out, HY0.out, HY1.out, HP.out, HMD.out]
      have HNEW := Lib.hid hnew
      have hlast : M = (lastS S (j + 1)).map (pieceRect y0 ((j + 1 : Nat) : Int)) := by
        rw [HY1.out, show lastS S (j + 1) = P from by unfold lastS; rw [if_neg (by omega), Nat.add_sub_cancel, HY0.out, HP.out], HMD.out]
      have HLAST := Lib.hid hlast
      clear hnew hlast hP hMd hM hR6 hap hMl
      have hsize : w4.heap.size ≤ w6.heap.size := HR6.out.ext.size
      rcases Nat.eq_zero_or_pos M.length with hP0 | hPp
      · have t1 : decide (0 < M.length) = false := by rw [decide_eq_false_iff_not]; omega
        have HS : Hid (P = [] ∨ P ≠ lastS S j) := Lib.hid (.inl (List.eq_nil_of_length_eq_zero (HML.out.trans hP0)))
        clear hP0
        go_wp2_with fail
        go_quiet (fail)
        have hE7 : Ext wr (w6.drewN nq) := hE6.trans ((Ext.refl w6).drewN nq)
        have HM7 := Lib.hid (row_keep HM.out ((Ext.refl w6).drewN nq))
        generalize w6.drewN nq = w7 at *
        clear HR6 HM
        have hown7 := row_keep HR.out.own hE7
        have hnil7 := fun h => (row_nil_of HR.out.last h).1
        have hsh7 := ((OwnR.at HR.out.last).ext hE7).shows
        have hsz7 := Nat.le_trans HR.out.ext.size hE7.size
        have hM8 := HM7
        go_wp2_with (first | (refine wpList_app2 w4.heap.size rfl (.tmp 122) (.tmp 123) 22 26 (.agg #[.int .i64 0, .int .i64 0, .int .i64 0, .int .i64 0]) 4 32 rfl Try.underlying22 info_rect rfl (by decide) (by decide) (.slice B O.length d) O.length (rcells O) rfl hown7 C L.length e (rcells L) rfl hnil7 (rcells_length _) hsh7 rcells_one (by omega) hsz7 (fun B5 d5 w5 hr5 hg5 hb5 => ?_)))
        have hr6 : OwnR w5 w4.heap.size (.slice B5 (O ++ L).length d5) (O ++ L) := by
          unfold OwnR
          rw [List.length_append, show rcells (O ++ L) = rcells O ++ rcells L by simp [rcells]]
          exact hr5
        have hN := HR.out.next hE7 HM7.out hg5 hr6 (by rw [List.length_append]; exact hb5)
        exact ⟨⟨j + 1, O ++ L, M, B5, D, d5, f, y0, by omega, by go_num, by rw [List.length_append], rfl, hN, HNEW.out HS.out, HLAST.out, by0⟩, by simp [intOf]; omega⟩
      · have t1 : decide ((0 : Int) < (M.length : Int)) = true := by rw [decide_eq_true_eq]; omega
        have hPne : P ≠ [] := fun h => by have := HML.out; rw [h] at this; simp at this; omega
        rcases Nat.eq_zero_or_pos L.length with hL0 | hLp
        · have t2 : decide (0 < L.length) = false := by rw [decide_eq_false_iff_not]; omega
          have HS : Hid (P = [] ∨ P ≠ lastS S j) := Lib.hid (.inr (fun h => by
            have h1 := congrArg List.length HLP.out
            rw [List.length_map, ← h] at h1
            have := HML.out
            omega))
          clear hL0 hPne
          go_wp2_with fail
          go_quiet (fail)
          have hE7 : Ext wr (w6.drewN nq) := hE6.trans ((Ext.refl w6).drewN nq)
          have HM7 := Lib.hid (row_keep HM.out ((Ext.refl w6).drewN nq))
          generalize w6.drewN nq = w7 at *
          clear HR6 HM
          have hown7 := row_keep HR.out.own hE7
          have hnil7 := fun h => (row_nil_of HR.out.last h).1
          have hsh7 := ((OwnR.at HR.out.last).ext hE7).shows
          have hsz7 := Nat.le_trans HR.out.ext.size hE7.size
          have hM8 := HM7
          go_wp2_with (first | (refine wpList_app2 w4.heap.size rfl (.tmp 122) (.tmp 123) 22 26 (.agg #[.int .i64 0, .int .i64 0, .int .i64 0, .int .i64 0]) 4 32 rfl Try.underlying22 info_rect rfl (by decide) (by decide) (.slice B O.length d) O.length (rcells O) rfl hown7 C L.length e (rcells L) rfl hnil7 (rcells_length _) hsh7 rcells_one (by omega) hsz7 (fun B5 d5 w5 hr5 hg5 hb5 => ?_)))
          have hr6 : OwnR w5 w4.heap.size (.slice B5 (O ++ L).length d5) (O ++ L) := by
            unfold OwnR
            rw [List.length_append, show rcells (O ++ L) = rcells O ++ rcells L by simp [rcells]]
            exact hr5
          have hN := HR.out.next hE7 HM7.out hg5 hr6 (by rw [List.length_append]; exact hb5)
          exact ⟨⟨j + 1, O ++ L, M, B5, D, d5, f, y0, by omega, by go_num, by rw [List.length_append], rfl, hN, HNEW.out HS.out, HLAST.out, by0⟩, by simp [intOf]; omega⟩
        · have t2 : decide ((0 : Int) < (L.length : Int)) = true := by rw [decide_eq_true_eq]; omega
          obtain ⟨g, rfl, hg4⟩ := row_form HR6.out.last hLp
          obtain ⟨r, hr⟩ : ∃ r, L[0]? = some r := ⟨L[0], List.getElem?_eq_getElem hLp⟩
          have hrP : ∃ p, r = pieceRect Y0 y0 p := by
            have h1 : r ∈ L := List.mem_of_getElem? hr
            rw [HLP.out, HY0.out] at h1
            obtain ⟨p, _, e1⟩ := List.mem_map.1 h1
            exact ⟨p, e1.symm⟩
          obtain ⟨p0, rfl⟩ := hrP
          have z1 := (World.ownsRow.cellAt HR6.out.last (0 * 4 + 1) (by omega)).trans (rcells_get hr 1 (by decide))
          have z3 := (World.ownsRow.cellAt HR6.out.last (0 * 4 + 3) (by omega)).trans (rcells_get hr 3 (by decide))
          simp only [rcell, pieceRect, List.getElem?_cons_zero, List.getElem?_cons_succ, Nat.zero_mul, Nat.zero_add] at z1 z3
          have s1 : IntKind.i64.wrap (Y0 + (y0 - Y0)) = y0 := by rw [show Y0 + (y0 - Y0) = y0 by omega]; exact IntWalk.i64_in _ (by omega)
          have s2 : wrap64 (Y0 + (y0 - Y0)) = y0 := by rw [show Y0 + (y0 - Y0) = y0 by omega]; exact IntWalk.wrap64_in _ (by omega)
          have t3 : (y0 == (j : Int)) = true := by rw [HY0.out]; simp
          have t4 : ((0 : Int) < (L.length : Int)) = True := by simp; omega
          have hdec : alikeR L M = decide (lastS S j = P) := by rw [HLP.out, ← HMD.out, alike_pieces]
          have hal2 := fun y : After w6 => across_any (some ⟨g, 0, none⟩) D e f L M y.now ((OwnR.at HR6.out.last).ext y.ext) ((OwnR.at HM.out).ext y.ext) (by omega) (by omega)
          have j1 : ∀ y : After w6, y.now.cell? ⟨g, 1, none⟩ = some (.int .i64 Y0) := fun y => y.ext.cellOf z1
          have j3 : ∀ y : After w6, y.now.cell? ⟨g, 3, none⟩ = some (.int .i64 (y0 - Y0)) := fun y => y.ext.cellOf z3
          clear hr z1 z3
          by_cases hPe : lastS S j = P
          · rw [decide_eq_true hPe] at hdec
            simp only [hdec] at hal2
            have HPE := Lib.hid hPe
            clear hdec hPe
            go_wp2_with fail
            refine wp_region_after (by kernel_rfl) (by kernel_rfl) ?_
            repeat (go_big_quiet_step (first | with_reducible exact Calls.after (hal2 _)))
            refine wpQuiet_nil ?_
            intro _ hw'
            obtain ⟨z, rfl⟩ := hw'
            have hE7 : Ext wr z.now := hE6.trans z.ext
            have hR7 := HR.out.keep hE7
            clear j1 j3 hal2 HM HR6 HAP
            generalize z.now = w7 at *
            have HR7 := Lib.hid hR7
            clear hR7 z
            go_wp2_with fail
            go_loopw [10] (fun kv wq => ∃ k : Nat, k ≤ L.length ∧ kv = .int .i64 k ∧ RofAt w4 wq O (stretchTo L 0 k 1) B (some ⟨g, 0, none⟩) d e) (fun kv _ => L.length - (intOf kv).toNat)
            case atStart => exact ⟨0, Nat.zero_le _, rfl, by rw [stretchTo_zero]; exact HR7.out⟩
            case round =>
              obtain ⟨k, hk, rfl, hRk⟩ := hrel
              have HRK := Lib.hid hRk
              clear hRk
              by_cases hkl : k < L.length
              · obtain ⟨r, hr⟩ : ∃ r, L[0 + k]? = some r := ⟨L[0 + k]'(by omega), List.getElem?_eq_getElem _⟩
                have hr2 := stretchTo_at (dh := 1) hr
                have hrP : ∃ p, r = pieceRect Y0 y0 p := by
                  have h1 : r ∈ L := List.mem_of_getElem? hr
                  rw [HLP.out, HY0.out] at h1
                  obtain ⟨p, _, e1⟩ := List.mem_map.1 h1
                  exact ⟨p, e1.symm⟩
                obtain ⟨p, rfl⟩ := hrP
                have hlast := HRK.out.last
                unfold OwnR at hlast
                rw [stretchTo_length] at hlast
                rw [Nat.zero_add] at hr2
                have hc := (World.ownsRow.cellAt hlast (k * 4 + 1) (by omega)).trans (rcells_get hr2 1 (by decide))
                have hc3 := (World.ownsRow.cellAt hlast (k * 4 + 3) (by omega)).trans (rcells_get hr2 3 (by decide))
                simp only [rcell, pieceRect, List.getElem?_cons_zero, List.getElem?_cons_succ] at hc hc3
                have hfr := World.ownsRow.frozenAt hlast
                have hst := (World.ownsRow.stored hlast (k * 4 + 3) (.int .i64 (y0 - Y0 + 1))).1
                rw [rcells_seth _ hr2, show (y0 - Y0 + 1) = (pieceRect Y0 y0 p).h + 1 by unfold pieceRect; dsimp only] at hst
                have hsu := stretchTo_succ (dh := 1) hr
                rw [Nat.zero_add] at hsu
                rw [hsu, show (pieceRect Y0 y0 p).h + 1 = y0 - Y0 + 1 by unfold pieceRect; dsimp only] at hst
                have hRn := HRK.out.store (j := k * 4 + 3) (u := .int .i64 (y0 - Y0 + 1)) (L' := stretchTo L 0 (k + 1) 1) (by rw [stretchTo_length, stretchTo_length]) (by unfold OwnR; rw [stretchTo_length]; exact hst)
                have HRN := Lib.hid hRn
                have r1 : IntKind.i64.wrap (y0 - Y0 + 1) = y0 - Y0 + 1 := IntWalk.i64_in _ (by omega)
                have hk2 : (k : Int) < (L.length : Int) := by omega
                have hgl : g < wr.heap.size := (World.ownsRow.lt hlast g (by simp [Value.ownBlock])).2
                clear hr hr2 hst hsu hRn hlast
                go_wp2_with fail
                exact ⟨⟨k + 1, by omega, by go_num, HRN.out⟩, by simp [intOf]; omega⟩
              · obtain rfl : k = L.length := by omega
                have hgrow : stretchTo L 0 L.length 1 = (lastS S j).map (pieceRect Y0 y1) := by
                  have h1 := stretchTo_all L L.length 1 (Nat.le_refl _)
                  rw [Nat.sub_self] at h1
                  rw [h1]
                  unfold stretch
                  rw [Nat.sub_self, List.take_zero, List.drop_zero, List.nil_append]
                  rw [HLP.out, HY0.out]
                  rw [show y1 = y0 + 1 from by1]; exact stretch_pieces1
                have hsame := flatS_same (n := Hn) hS hlt (by rw [HY0.out, HP.out]; exact hPne) (by rw [HY0.out, HP.out]; exact HPE.out.symm)
                have hgr2 : L.map (fun r => (⟨r.x, r.y, r.w, r.h + 1⟩ : Rect)) = stretchTo L 0 L.length 1 := by
                  rw [hgrow, HLP.out, HY0.out]
                  rw [show y1 = y0 + 1 from by1]; exact stretch_pieces1
                rw [← HOL.out, HY0.out, HP.out, stretch_append (by rw [← HPE.out]; have := congrArg List.length HLP.out; rw [List.length_map] at this; exact this), hgr2] at hsame
                have hlP : lastS S (j + 1) = lastS S j := by
                  rw [HPE.out]
                  unfold lastS
                  rw [if_neg (by omega), Nat.add_sub_cancel, HY0.out, HP.out]
                have hfin : stretchTo L 0 L.length 1 = (lastS S (j + 1)).map (pieceRect Y0 ((j + 1 : Nat) : Int)) := by rw [hlP, HY1.out]; exact hgrow
                have HF1 := Lib.hid hsame
                have HF2 := Lib.hid hfin
                clear hgrow hsame hgr2 hlP hfin hkl
                go_wp2_with fail
                exact ⟨⟨j + 1, O, stretchTo L 0 L.length 1, B, some ⟨g, 0, none⟩, d, e, Y0, by omega, by go_num, rfl, by rw [stretchTo_length], HRK.out, HF1.out.symm, HF2.out, hY0⟩, by simp [intOf]; omega⟩
          · rw [decide_eq_false hPe] at hdec
            simp only [hdec] at hal2
            have HS : Hid (P = [] ∨ P ≠ lastS S j) := Lib.hid (.inr (fun h => hPe h.symm))
            clear hdec hPe
            go_wp2_with fail
            refine wp_region_after (by kernel_rfl) (by kernel_rfl) ?_
            repeat (go_big_quiet_step (first | with_reducible exact Calls.after (hal2 _)))
            refine wpQuiet_nil ?_
            intro _ hw'
            obtain ⟨z, rfl⟩ := hw'
            have hE7 : Ext wr z.now := hE6.trans z.ext
            have HM7 := Lib.hid (row_keep HM.out z.ext)
            clear j1 j3 hal2 HM HR6 HAP
            generalize z.now = w7 at *
            clear z
            obtain ⟨C, hC⟩ : ∃ C, C = some (⟨g, 0, none⟩ : Addr) := ⟨_, rfl⟩
            rw [← hC] at HR ⊢
            have hown7 := row_keep HR.out.own hE7
            have hnil7 := fun h => (row_nil_of HR.out.last h).1
            have hsh7 := ((OwnR.at HR.out.last).ext hE7).shows
            have hsz7 := Nat.le_trans HR.out.ext.size hE7.size
            have hM8 := HM7
            go_wp2_with (first | (refine wpList_app2 w4.heap.size rfl (.tmp 122) (.tmp 123) 22 26 (.agg #[.int .i64 0, .int .i64 0, .int .i64 0, .int .i64 0]) 4 32 rfl Try.underlying22 info_rect rfl (by decide) (by decide) (.slice B O.length d) O.length (rcells O) rfl hown7 C L.length e (rcells L) rfl hnil7 (rcells_length _) hsh7 rcells_one (by omega) hsz7 (fun B5 d5 w5 hr5 hg5 hb5 => ?_)))
            have hr6 : OwnR w5 w4.heap.size (.slice B5 (O ++ L).length d5) (O ++ L) := by
              unfold OwnR
              rw [List.length_append, show rcells (O ++ L) = rcells O ++ rcells L by simp [rcells]]
              exact hr5
            have hN := HR.out.next hE7 HM7.out hg5 hr6 (by rw [List.length_append]; exact hb5)
            exact ⟨⟨j + 1, O ++ L, M, B5, D, d5, f, y0, by omega, by go_num, by rw [List.length_append], rfl, hN, HNEW.out HS.out, HLAST.out, by0⟩, by simp [intOf]; omega⟩
    · obtain rfl : j = Hn := by omega
      have hres : O ++ L = listU F Wn j := by rw [HOL.out, ← HALL.out]
      have hE7 := Ext.refl wr
      have hown7 := row_keep HR.out.own hE7
      have hnil7 := fun h => (row_nil_of HR.out.last h).1
      have hsh7 := ((OwnR.at HR.out.last).ext hE7).shows
      have hsz7 := Nat.le_trans HR.out.ext.size hE7.size
      have HRES := Lib.hid hres
      clear hres hlt
      go_wp2_with (first | (refine wpList_app2 w4.heap.size rfl (.tmp 126) (.tmp 127) 22 26 (.agg #[.int .i64 0, .int .i64 0, .int .i64 0, .int .i64 0]) 4 32 rfl Try.underlying22 info_rect rfl (by decide) (by decide) (.slice B O.length d) O.length (rcells O) rfl hown7 C L.length e (rcells L) rfl hnil7 (rcells_length _) hsh7 rcells_one (by omega) hsz7 (fun B5 d5 w5 hr5 hg5 hb5 => ?_)))
      go_ret
      have hr6 : OwnR w5 w4.heap.size (.slice B5 (O ++ L).length d5) (O ++ L) := by
        unfold OwnR
        rw [List.length_append, show rcells (O ++ L) = rcells O ++ rcells L by simp [rcells]]
        exact hr5
      refine ⟨B5, d5, by rw [← HRES.out, List.length_append]; rfl, ?_, fun h => (row_nil_of hr5 h).1, hE4.trans (row_ext HR.out.own HR.out.ext hg5)⟩
      rw [← HRES.out]
      exact World.ownsRow.base_le hr6 hE4.size
end Go.Proofs.Ytjghghbldifhaaa
set_option linter.unusedVariables false
set_option linter.unusedSimpArgs false
namespace Go.Proofs.Ytjghghbldifhaaa
open Go.RowKit

set_option maxHeartbeats 1000000 in
theorem rnew_bad (W H : Int) (w : World) (h : okSize W H = false) :
    Calls Try.prog 60 #[.int .i64 W, .int .i64 H] w fun e w' => e = .returned (.tuple #[.agg #[.int .i64 0, .int .i64 0, .slice none 0 0], .int .i64 1]) ∧ Ext w w' := by
  have hh : W < 1 ∨ 1 ≤ W ∧ 256 < W ∨ 1 ≤ W ∧ W ≤ 256 ∧ H < 1 ∨ 1 ≤ W ∧ W ≤ 256 ∧ 1 ≤ H ∧ 256 < H := by
    have : ¬ (okSize W H = true) := by rw [h]; simp
    rw [okSize_iff] at this; omega
  rcases hh with h1 | ⟨h1, h2⟩ | ⟨h1, h2, h3⟩ | ⟨h1, h2, h3, h4⟩
  all_goals
    go_enter Try.func60, Try.ntmps60
    go_wp2
    refine bodyPost_ret (v := .tuple #[.agg #[.int .i64 0, .int .i64 0, .slice none 0 0], .int .i64 1]) (by simp only [results, Try.results60]; go_simp; done) rfl ⟨rfl, ?_⟩
    repeat' (first | exact Ext.refl w | refine Ext.alloc ?_ _ | refine Ext.set ?_ ?_ _ | (simp; done) | omega)
set_option maxHeartbeats 1000000 in
theorem rnew_good (W H : Int) (w : World) (h1 : 1 ≤ W) (h2 : W ≤ 256) (h3 : 1 ≤ H) (h4 : H ≤ 256) :
    Calls Try.prog 60 #[.int .i64 W, .int .i64 H] w fun e w' => ∃ B d, e = .returned (.tuple #[.agg #[.int .i64 W, .int .i64 H, .slice B (List.replicate (W * H).toNat (0 : Int)).length d], .int .i64 0]) ∧ Reads .u32 w' B (List.replicate (W * H).toNat 0) ∧ Ext w w' := by
  obtain ⟨m1, m2⟩ := mul_bd h1 h2 h3 h4
  obtain ⟨n, hn⟩ : ∃ n : Nat, W * H = n := ⟨(W * H).toNat, by omega⟩
  rw [hn] at m1 m2 ⊢
  rw [Int.toNat_natCast]
  have hm := run_make_row' 41 58 (.int .u32 0) 4 Try.underlying41 info_u32 rfl .i64 .i64 n (by omega) (by omega)
  go_enter Try.func60, Try.ntmps60
  go_wp2
  have hl : (List.replicate n (0 : Int)).length = n := by simp
  have hown := own_made (w.alloc (.cells #[.int .i64 W, .int .i64 H, .slice (some ⟨w.heap.size + 1, 0, none⟩) n n] 43)) w.heap.size 58 .u32 n (by simp) (by omega)
  rw [show (w.alloc (.cells #[.int .i64 W, .int .i64 H, .slice (some ⟨w.heap.size + 1, 0, none⟩) n n] 43)).heap.size = w.heap.size + 1 by simp] at hown
  refine bodyPost_ret (v := .tuple #[.agg #[.int .i64 W, .int .i64 H, .slice (some ⟨w.heap.size + 1, 0, none⟩) n n], .int .i64 0]) (by simp only [results, Try.results60]; go_simp; done) rfl ⟨some ⟨w.heap.size + 1, 0, none⟩, n, by rw [hl], ?_, ((Ext.refl w).alloc _).alloc _⟩
  exact row_reads hown hl
theorem diff_unlike {w : World} {base bb bp cap base' b2 p2 c2 : Nat} {W H W' H' : Int} {px px' : List Int} (hB : BufAt 117 58 w base bb bp cap W H px) (hC : BufAt 117 58 w base' b2 p2 c2 W' H' px') (h : W ≠ W' ∨ W = W' ∧ H ≠ H') :
    Calls Try.prog 63 #[.pointer (some ⟨bb, 0, none⟩), .pointer (some ⟨b2, 0, none⟩)] w fun e w' => e = .returned (.tuple #[.slice none 0 0, .int .i64 1]) ∧ Ext w w' := by
  have hz1 := blk_lt hB.head
  have hz2 := blk_lt hC.head
  obtain ⟨c0, f0⟩ := blk_rules hB.head
  obtain ⟨c1, f1⟩ := blk_rules hC.head
  clear hB hC
  rcases h with h | ⟨rfl, h⟩
  · have d1 : (W != W') = true := by simpa using h
    clear h
    go_enter Try.func63, Try.ntmps63
    go_wp2_with fail
    go_quiet (fail)
    go_wp2_with fail
    go_ret2
    exact ⟨rfl, by repeat' (first | exact Ext.refl w | refine Ext.drewN ?_ _ | refine Ext.alloc ?_ _)⟩
  · have d1 : (W != W) = false := by simp
    have d2 : (H != H') = true := by simpa using h
    clear h
    go_enter Try.func63, Try.ntmps63
    go_wp2_with fail
    go_quiet (fail)
    go_wp2_with fail
    go_ret2
    exact ⟨rfl, by repeat' (first | exact Ext.refl w | refine Ext.drewN ?_ _ | refine Ext.alloc ?_ _)⟩
theorem r3rects_any (A B : Option Addr) (c d : Nat) (a b : List Rect) (w : World) (ha : RectsAt w A a) (hb : RectsAt w B b) (hm : a.length ≤ 9223372036854775807) (hn : b.length ≤ 9223372036854775807) :
    Calls Try.prog 67 #[.slice A a.length c, .slice B b.length d] w fun e w' => e = .returned (.bool (eqR a b)) ∧ Ext w w' := by
  go_enter Try.func67, Try.ntmps67
  go_wp2_with fail
  refine (rrects_any A B c d a b w ha hb hm hn).mono ?_
  rintro e w1 ⟨rfl, E⟩
  go_wp2_with fail
  go_ret
  exact ⟨rfl, E⟩
/-- Where two pictures of a size are unlike. -/
def unF (W H : Int) (px qx : List Int) (x y : Int) : Bool := hasPx W H x y && (pxAt W px x y != pxAt W qx x y)
theorem unF_at {Wn Hn : Nat} (h1 : 1 ≤ Wn) (h2 : Wn ≤ 256) (h3 : 1 ≤ Hn) (h4 : Hn ≤ 256) (px qx : List Int) : ∀ i j : Nat, i < Wn → j < Hn → unF Wn Hn px qx i j = (px.getD (j * Wn + i) 0 != qx.getD (j * Wn + i) 0) := fun i j hi hj => by
  unfold unF
  rw [(hasPx_iff (by omega) (by omega) (by omega) (by omega)).2 (by omega), Bool.true_and]
  unfold pxAt
  have e : ((j : Int) * (Wn : Int) + (i : Int)).toNat = j * Wn + i := by rw [← Int.natCast_mul, ← Int.natCast_add, Int.toNat_natCast]
  rw [e]
theorem unF_in {Wn Hn : Nat} (h1 : 1 ≤ Wn) (h2 : Wn ≤ 256) (h3 : 1 ≤ Hn) (h4 : Hn ≤ 256) (px qx : List Int) : Inside (unF Wn Hn px qx) Wn Hn := fun x y h => by
  unfold unF at h
  rw [Bool.and_eq_true] at h
  have := (hasPx_iff (by omega) (by omega) (by omega) (by omega)).1 h.1
  omega
end Go.Proofs.Ytjghghbldifhaaa
set_option linter.unusedVariables false
set_option linter.unusedSimpArgs false
namespace Go.Proofs.Ytjghghbldifhaaa

theorem has_cornerJ {r : Rect} (h : r.empty = false) : r.has r.x r.y = true := by
  have := Rect.empty_iff.1 h
  exact Rect.has_inside.2 ⟨h, by omega, by omega, by omega, by omega⟩
theorem eqB_selfJ (a : Rect) : Rect.eqB a a = true := by simp [Rect.eqB]
/-- What lies within another one, pixel by pixel. -/
theorem within_pxJ {q t : Rect} (hq : q.empty = false) (h : ∀ x y, q.has x y = true → t.has x y = true) : q.within t = true := by
  have g := Rect.empty_iff.1 hq
  have c1 := Rect.has_inside.1 (h _ _ (has_cornerJ hq))
  have c2 := Rect.has_inside.1 (h (q.x + q.w - 1) (q.y + q.h - 1) (Rect.has_inside.2 ⟨hq, by omega, by omega, by omega, by omega⟩))
  have hm : q.and t = q := by
    unfold Rect.and
    rw [hq, c1.1]
    have hmeet : q.meet t = q := by
      unfold Rect.meet
      simp only [mx_eq, mn_eq]
      obtain ⟨a, b, c, d⟩ := q
      dsimp only at *
      congr 1 <;> omega
    rw [hmeet, if_neg]
    simp
    omega
  unfold Rect.within
  rw [hm, eqB_selfJ, Bool.or_true]
/-- A part of another picture that is laid where it was. -/
theorem blit_part {W H : Int} {F : Rect} {px qx : List Int} (w1 : 1 ≤ W) (w2 : W ≤ 256) (w3 : 1 ≤ H) (w4 : H ≤ 256) (hl : (px.length : Int) = W * H) (hl2 : (qx.length : Int) = W * H) (hp : ∀ p ∈ qx, 0 ≤ p ∧ p ≤ 16777215) (h1 : F.empty = false) (h2 : Rect.within F ⟨0, 0, W, H⟩ = true) {u v : Int} (e1 : 0 ≤ u) (e2 : u < W) (e3 : 0 ≤ v) (e4 : v < H) :
    pxAt W (blitRows W F.w F.x F.y (blitAt W H F.w F.h F.x F.y F) ((partRows W F (List.range F.h.toNat) qx).map cut24) (List.range (blitAt W H F.w F.h F.x F.y F).h.toNat) px) u v = if F.has u v then pxAt W qx u v else pxAt W px u v := by
  obtain ⟨r1, r2, r3, r4, r5, r6⟩ := Rect.inside h1 h2 w1 w2 w3 w4
  rw [map_cut (fun v hv => hp v (partRows_mem hv))]
  have hpl : ((partRows W F (List.range F.h.toNat) qx).length : Int) = F.w * F.h := by
    have := partRows_pic w1 w2 w3 w4 hl2 h1 h2
    simp only [isPic, Bool.and_eq_true, decide_eq_true_eq] at this
    exact this.2
  obtain ⟨hin, _⟩ := blitAt_in (W := W) (H := H) (p := F.w) (q := F.h) (x := F.x) (y := F.y) (clip := F) rfl w1 w2 w3 w4 r2 (by omega) r5 (by omega)
  rw [blitRows_px w1 w2 w3 w4 hl r2 (by omega) r5 (by omega) hpl hin e1 e2 e3 e4]
  have hh := blitAt_has (clip := F) (x := F.x) (y := F.y) w1 w2 w3 w4 r2 (by omega) r5 (by omega) e1 e2 e3 e4
  have hg : F.good = true := Rect.good_iff.2 (by omega)
  have hb : F.has u v = true ↔ F.x ≤ u ∧ u < F.x + F.w ∧ F.y ≤ v ∧ v < F.y + F.h := by
    rw [Rect.has_iff]
    simp only [hg, Rect.holds, true_and]
  have hs : F.has u v = true → (Rect.shift ⟨0, 0, F.w, F.h⟩ F.x F.y).has u v = true := fun h => by
    have h5 := hb.1 h
    rw [shift_has r2 (by omega) r5 (by omega) e1 (by omega) e3 (by omega)]
    simp only [blitNear, picHas, Bool.and_eq_true, decide_eq_true_eq]
    omega
  cases h : F.has u v
  · rw [if_neg (fun h5 => by have := hh.1 h5; rw [h] at this; simp at this), if_neg (by simp)]
  · have h5 := hb.1 h
    rw [if_pos (hh.2 (by rw [h, hs h]; rfl)), if_pos rfl, partRows_px w1 w2 w3 w4 hl2 r1 r2 r3 r4 r5 r6 (by omega) (by omega) (by omega) (by omega)]
    congr 1 <;> omega
/-- What a fill turns. -/
theorem fill_part {W H : Int} {r : Rect} {c : Int} {px : List Int} (w1 : 1 ≤ W) (w2 : W ≤ 256) (w3 : 1 ≤ H) (w4 : H ≤ 256) (hl : (px.length : Int) = W * H) {u v : Int} (e1 : 0 ≤ u) (e2 : u < W) (e3 : 0 ≤ v) (e4 : v < H) :
    pxAt W (fillRows W (r.and ⟨0, 0, W, H⟩) c (List.range (r.and ⟨0, 0, W, H⟩).h.toNat) px) u v = if r.has u v then c else pxAt W px u v := by
  obtain ⟨hRx, hRy⟩ := Rect.and_in (r := r) w1 w2 w3 w4 rfl
  have hfit : (r.and ⟨0, 0, W, H⟩).fits W H := by
    rcases hRx with h | h
    · exact .inl h
    · exact .inr (by omega)
  rw [fillRows_px w1 w2 w3 w4 hl hfit e1 e2 e3 e4]
  have ha : (Rect.has ⟨0, 0, W, H⟩ u v) = true := (hasPx_iff w1 w2 w3 w4).2 ⟨e1, e2, e3, e4⟩
  have h1 := Rect.and_has r ⟨0, 0, W, H⟩ u v
  rw [ha, Bool.and_true] at h1
  have hh : (r.and ⟨0, 0, W, H⟩).holds u v ↔ r.has u v = true := by
    rw [← h1, Rect.has_iff]
    rcases hfit with h | h
    · rw [h]
      simp [Rect.zero, Rect.holds]
      omega
    · have hg : (r.and ⟨0, 0, W, H⟩).good = true := Rect.good_iff.2 (by omega)
      simp [hg]
  by_cases h : r.has u v = true
  · rw [if_pos (hh.2 h), if_pos h]
  · rw [if_neg (fun h2 => h (hh.1 h2)), if_neg h]
/-- What a copy tells and turns. -/
def CopyTold (W H : Int) (px px' : List Int) (t : Rect) (dx dy f : Int) : Prop := (f = 0 ∨ f = 5) ∧ ∀ u v, 0 ≤ u → u < W → 0 ≤ v → v < H →
  pxAt W px' u v = (if f = 0 ∧ t.has u v = true then pxAt W px (u - dx) (v - dy) else pxAt W px u v) ∧ (f = 0 → t.has u v = true → hasPx W H (u - dx) (v - dy) = true)
theorem copyTold_same {W H : Int} {px : List Int} {t : Rect} {dx dy : Int} : CopyTold W H px px t dx dy 5 := ⟨.inr rfl, fun u v _ _ _ _ => ⟨by rw [if_neg (fun h => by have := h.1; omega)], fun h => by omega⟩⟩
theorem copyTold_empty {W H : Int} {px : List Int} {t : Rect} {dx dy : Int} (h : t.empty = true) : CopyTold W H px px t dx dy 0 := ⟨.inl rfl, fun u v _ _ _ _ => ⟨by rw [if_neg (fun h2 => by have := h2.2; rw [Rect.has_empty h] at this; cases this)], fun _ h2 => by rw [Rect.has_empty h] at h2; cases h2⟩⟩
theorem copyTold_good {W H x y a b dx dy : Int} {F : Rect} {px : List Int} (w1 : 1 ≤ W) (w2 : W ≤ 256) (w3 : 1 ≤ H) (w4 : H ≤ 256) (hl : (px.length : Int) = W * H) (hp : ∀ p ∈ px, 0 ≤ p ∧ p ≤ 16777215) (h1 : Rect.empty ⟨x, y, a, b⟩ = false) (h2 : Rect.within ⟨x, y, a, b⟩ ⟨0, 0, W, H⟩ = true) (hF : Rect.shift ⟨x, y, a, b⟩ (-dx) (-dy) = F) (h5 : Rect.empty F = false) (h6 : Rect.within F ⟨0, 0, W, H⟩ = true) :
    CopyTold W H px (blitRows W F.w x y (blitAt W H F.w F.h x y ⟨x, y, a, b⟩) ((partRows W F (List.range F.h.toNat) px).map cut24) (List.range (blitAt W H F.w F.h x y ⟨x, y, a, b⟩).h.toNat) px) ⟨x, y, a, b⟩ dx dy 0 := by
  rw [copy_ref w1 w2 w3 w4 hl hp h1 h2 hF h5 h6]
  have hFe : F = ⟨x + -dx, y + -dy, a, b⟩ := by
    unfold Rect.shift at hF
    split at hF
    · exact hF.symm
    · rw [← hF] at h5; simp [Rect.empty, Rect.area, Rect.zero] at h5
  subst hFe
  obtain ⟨r1, r2, r3, r4, r5, r6⟩ := Rect.inside h5 h6 w1 w2 w3 w4
  obtain ⟨q1, q2, q3, q4, q5, q6⟩ := Rect.inside h1 h2 w1 w2 w3 w4
  dsimp only at r1 r2 r3 r4 r5 r6 q1 q2 q3 q4 q5 q6
  have hg : Rect.good ⟨x, y, a, b⟩ = true := Rect.good_iff.2 (by dsimp only; omega)
  refine ⟨.inl rfl, fun u v e1 e2 e3 e4 => ?_⟩
  have hb : Rect.has ⟨x, y, a, b⟩ u v = true ↔ x ≤ u ∧ u < x + a ∧ y ≤ v ∧ v < y + b := by
    rw [Rect.has_iff]
    simp only [hg, Rect.holds, true_and]
  constructor
  · rw [mapAt_px w1 w2 w3 w4 hl e1 e2 e3 e4]
    obtain ⟨d1, d2, d3⟩ := place_div w1 e1 e2 e3
    unfold copyPx
    rw [d1, d2, d3]
    by_cases h : Rect.has ⟨x, y, a, b⟩ u v = true
    · rw [if_pos h, if_pos ⟨rfl, h⟩]
      unfold pxAt
      congr 2
      rw [Int.sub_mul]
      omega
    · rw [if_neg h, if_neg (fun h7 => h h7.2)]
  · intro _ h
    have := hb.1 h
    exact (hasPx_iff w1 w2 w3 w4).2 (by omega)
/-- Nothing is unlike just where the pictures are the same. -/
theorem listU_none {Wn Hn : Nat} {px qx : List Int} (h1 : 1 ≤ Wn) (h2 : Wn ≤ 256) (h3 : 1 ≤ Hn) (h4 : Hn ≤ 256) (hl : (px.length : Int) = (Wn : Int) * Hn) (hl2 : (qx.length : Int) = (Wn : Int) * Hn) : (((listU (unF Wn Hn px qx) Wn Hn).length : Int) == 0) = eqL px qx := by
  have hin := unF_in h1 h2 h3 h4 px qx
  by_cases he : px = qx
  · subst he
    have hF : ∀ x y, meant 0 (hasL [] x y) (hasL [] x y) = unF Wn Hn px px x y := fun x y => by
      unfold unF
      simp [hasL, meant]
    have := listU_form hin hF
    rw [← this]
    simp [eqL]
    decide
  · have hne : (listU (unF Wn Hn px qx) Wn Hn) ≠ [] := fun hnil => he (px_ext (W := Wn) (H := Hn) (by omega) (by omega) hl hl2 fun u v e1 e2 e3 e4 => by
      have h5 := listU_has hin (by omega) (by omega) u v
      rw [hnil] at h5
      have h6 : unF Wn Hn px qx u v = false := h5.symm
      unfold unF at h6
      rw [(hasPx_iff (by omega) (by omega) (by omega) (by omega)).2 ⟨e1, e2, e3, e4⟩, Bool.true_and] at h6
      simpa using h6)
    have h7 : eqL px qx = false := by simp [eqL, he]
    rw [h7, beq_eq_false_iff_ne]
    intro h8
    exact hne (List.eq_nil_of_length_eq_zero (by omega))
/-- What lies in the list of what is unlike. -/
theorem listU_in {Wn Hn : Nat} {px qx : List Int} (h1 : 1 ≤ Wn) (h2 : Wn ≤ 256) (h3 : 1 ≤ Hn) (h4 : Hn ≤ 256) {q : Rect} (hq : q ∈ listU (unF Wn Hn px qx) Wn Hn) : q.empty = false ∧ Rect.within q ⟨0, 0, Wn, Hn⟩ = true ∧ ∀ u v, q.has u v = true → unF Wn Hn px qx u v = true := by
  have hin := unF_in h1 h2 h3 h4 px qx
  have he : q.empty = false := by
    have hself := listU_self hin (by omega) (by omega)
    rw [← hself] at hq
    exact (listOf_good hq).1
  have hun : ∀ u v, q.has u v = true → unF Wn Hn px qx u v = true := fun u v h => by
    rw [← listU_has hin (by omega) (by omega) u v]
    unfold hasL
    exact List.any_eq_true.2 ⟨q, hq, h⟩
  refine ⟨he, within_pxJ he fun u v h => ?_, hun⟩
  have h5 := hun u v h
  unfold unF at h5
  rw [Bool.and_eq_true] at h5
  exact h5.1
end Go.Proofs.Ytjghghbldifhaaa
set_option linter.unusedVariables false
set_option linter.unusedSimpArgs false
namespace Go.Proofs.Ytjghghbldifhaaa
open Go.RowKit

theorem BufAt.grow {T e : TypeId} {w w1 : World} {base bb bp cap : Nat} {W H : Int} {px : List Int} (h : BufAt T e w base bb bp cap W H px) (row : Option Nat) (hE : Ext w w1) : BufAt T e w1 base bb bp cap W H px ∧ w.grownBy w1 row := ⟨h.ext hE, Ext.grow hE row⟩
theorem copy_law {w : World} {base bb bp cap : Nat} {W H : Int} {px : List Int} (hB : BufAt 117 58 w base bb bp cap W H px) (x y a b dx dy : Int) :
    Calls Try.prog 71 #[.pointer (some ⟨bb, 0, none⟩), .agg #[.int .i64 x, .int .i64 y, .int .i64 a, .int .i64 b, .int .i64 dx, .int .i64 dy]] w fun e w' => ∃ f px', e = .returned (.int .i64 f) ∧ BufAt 117 58 w' base bb bp cap W H px' ∧ w.grownBy w' (some bp) ∧ CopyTold W H px px' ⟨x, y, a, b⟩ dx dy f := by
  cases h1 : Rect.empty ⟨x, y, a, b⟩
  · have far : farB dx = true ∨ farB dx = false ∧ farB dy = true ∨ farB dx = false ∧ farB dy = false ∧ Rect.within ⟨x, y, a, b⟩ ⟨0, 0, W, H⟩ = false ∨ farB dx = false ∧ farB dy = false ∧ Rect.within ⟨x, y, a, b⟩ ⟨0, 0, W, H⟩ = true := by
      cases farB dx <;> cases farB dy <;> cases Rect.within ⟨x, y, a, b⟩ ⟨0, 0, W, H⟩ <;> simp
    have tell5 : ∀ {e : Ending} {w' : World}, e = .returned (.int .i64 5) ∧ Ext w w' → ∃ f px', e = .returned (.int .i64 f) ∧ BufAt 117 58 w' base bb bp cap W H px' ∧ w.grownBy w' (some bp) ∧ CopyTold W H px px' ⟨x, y, a, b⟩ dx dy f := fun {e w'} h => ⟨5, px, h.1, hB.ext h.2, Ext.grow h.2 _, copyTold_same⟩
    rcases far with h | h | h | ⟨h2, h3, h4⟩
    · exact (copy_far hB x y a b dx dy h1 (.inl h)).mono fun e w' h => tell5 h
    · exact (copy_far hB x y a b dx dy h1 (.inr (.inl h))).mono fun e w' h => tell5 h
    · exact (copy_far hB x y a b dx dy h1 (.inr (.inr h))).mono fun e w' h => tell5 h
    · obtain ⟨F, hF⟩ : ∃ F, Rect.shift ⟨x, y, a, b⟩ (-dx) (-dy) = F := ⟨_, rfl⟩
      cases h5 : F.empty
      · cases h6 : Rect.within F ⟨0, 0, W, H⟩
        · exact (copy_bad hB x y a b dx dy h1 h2 h3 h4 hF (.inr ⟨h5, h6⟩)).mono fun e w' h => tell5 h
        · exact (copy_good hB x y a b dx dy h1 h2 h3 h4 hF h5 h6).mono fun e w' h => ⟨0, _, h.1, h.2.1, h.2.2, copyTold_good hB.w1 hB.w2 hB.h1 hB.h2 hB.len hB.pix h1 h4 hF h5 h6⟩
      · exact (copy_bad hB x y a b dx dy h1 h2 h3 h4 hF (.inl h5)).mono fun e w' h => tell5 h
  · exact (copy_empty (w := w) (p := ⟨bb, 0, none⟩) x y a b dx dy h1).mono fun e w' h => ⟨0, px, h.1, hB.ext h.2, Ext.grow h.2 _, copyTold_empty h1⟩
theorem acts_block {w : World} {B : Nat} {t : TypeId} {fr : Nat × Nat} {a : ActD} (h : w.heap[B]? = some (.cells a.cells.toArray t fr)) (hr : Reads .u32 w a.A a.zs) (hx : ∀ v ∈ a.zs, 0 ≤ v ∧ v ≤ 4294967295) (hc : 0 ≤ a.c ∧ a.c ≤ 4294967295) (hn : a.zs.length ≤ 9223372036854775807) : ActsAt w (some ⟨B, 0, none⟩) [a] := fun i b hi => by
  have hi0 : i = 0 := by
    have := (List.getElem?_eq_some_iff.1 hi).1
    simp at this
    omega
  subst hi0
  have : b = a := by simpa using hi.symm
  subst this
  refine ⟨B, 0, rfl, fun j hj => ?_, hr, hx, hc, hn⟩
  rw [show 0 + 0 * 17 + j = j by omega, blk_cell h j, ← Array.getElem?_toList]
end Go.Proofs.Ytjghghbldifhaaa
