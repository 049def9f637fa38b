/- The walk of vignetteref02.Of: the document's list in form. Printed by gen_rof.py. -/
import Derived.Test.YtjghghbldifhaaaRegC
import Derived.Test.YtjghghbldifhaaaRunsG
set_option linter.unusedVariables false
set_option linter.unusedSimpArgs false
namespace Go.Proofs.Ytjghghbldifhaaa
open Go.RowKit

theorem flatTo_length (how : Int) (a b : List Rect) {j : Nat} (hj : j < (cutsOf true a b).length ∨ j = 0) : (flatTo how a b (cutsOf true a b) j).length ≤ 2199023255552 ∧ (lastP how a b (cutsOf true a b) j).length ≤ 1048576 := by
  have hsrt := cutsOf_sorted true a b
  have hbd : ∀ z ∈ cutsOf true a b, -1048576 ≤ z ∧ z ≤ 1048576 := fun z hz => cuts_bd hz
  have hlen := cutsOf_length a b
  generalize cutsOf true a b = ys at *
  have h1 := ofRounds_range (how := how) (a := a) (b := b) hsrt j hj
  have hI := ofInv_rounds hbd _ (List.range j) rfl (how := how) (a := a) (b := b) (fun i hi => by have := List.mem_range.1 hi; omega)
  rw [h1, List.length_range] at hI
  have h2 := hI.many
  have h4 := hI.last
  dsimp only at h2 h4
  have h3 : j * 1048576 ≤ 2097152 * 1048576 := Nat.mul_le_mul_right _ (by omega)
  omega
theorem cutsOf_len (down : Bool) (a b : List Rect) : (cutsOf down a b).length ≤ 10000000 := by
  rcases sorted_length _ (-1048576) 1048576 (cutsOf_sorted down a b) (fun z hz => cuts_bd hz) with h | h
  · omega
  · rw [h]; simp
theorem bandL_pieces (how : Int) (a b : List Rect) (y0 y1 : Int) : bandL how a b (cutsOf false a b) y0 y1 ((cutsOf false a b).length - 1) = (piecesOf how a b y0).map (pieceRect y0 y1) := by
  unfold bandL piecesOf
  rw [List.map_map]
  rfl
theorem RectsAt.lt {w : World} {A : Option Addr} {l : List Rect} (h : RectsAt w A l) (hn : 0 < l.length) : ∀ b off, A = some ⟨b, off, none⟩ → b < w.heap.size := by
  rintro b off rfl
  obtain ⟨b', off', e, hc⟩ := h.form hn
  injection e with e
  injection e with e1 e2
  subst e1
  have h0 := (hc 0 l[0] (List.getElem?_eq_getElem hn)).1
  unfold World.cell? at h0
  cases hb : w.heap[b]? with
  | none => simp [hb] at h0
  | some o => exact blk_lt hb
theorem row_reads' {k : IntKind} {w : World} {base n d : Nat} {A : Option Addr} {e : TypeId} {px : List Int} (h : w.ownsRow base e 1 (.slice A n d) n (nums k px)) (hl : px.length = n) : Reads k w A px := by
  rcases Nat.eq_zero_or_pos n with h0 | hp
  · intro i hi
    omega
  · obtain ⟨g, rfl, _⟩ := row_form h hp
    exact row_reads h hl
theorem own_apart {w W W2 : World} {B D : Option Addr} {d f : Nat} {O M : List Rect} (hB : OwnR W w.heap.size (.slice B O.length d) O) (hM : OwnR W2 W.heap.size (.slice D M.length f) M) : (Value.slice D M.length f).ownBlock = none ∨ (Value.slice D M.length f).ownBlock ≠ (Value.slice B O.length d).ownBlock := by
  cases hv : (Value.slice D M.length f).ownBlock with
  | none => exact .inl rfl
  | some g =>
    refine .inr fun e => ?_
    have h1 := World.ownsRow.lt hM g hv
    have h2 := World.ownsRow.lt hB g e.symm
    omega
/-- Ahead of a round: what is out, and the band that may still grow. -/
structure RofAt (w W : World) (O L : List Rect) (B C : Option Addr) (d e : Nat) : Prop where
  own : OwnR W w.heap.size (.slice B O.length d) O
  last : OwnR W w.heap.size (.slice C L.length e) L
  ne : (Value.slice C L.length e).ownBlock = none ∨ (Value.slice C L.length e).ownBlock ≠ (Value.slice B O.length d).ownBlock
  ext : Ext w W
section
variable {w W W2 W3 : World} {O L M O3 : List Rect} {B C D B3 : Option Addr} {d e f d3 : Nat}
theorem RofAt.keep (h : RofAt w W O L B C d e) (hE : Ext W W2) : RofAt w W2 O L B C d e := ⟨row_keep h.own hE, row_keep h.last hE, h.ne, h.ext.trans hE⟩
theorem RofAt.next (h : RofAt w W O L B C d e) (hE : Ext W W2) (hM : OwnR W2 W.heap.size (.slice D M.length f) M) (hg : W2.grownBy W3 (Value.slice B O.length d).ownBlock) (hr : OwnR W3 w.heap.size (.slice B3 O3.length d3) O3)
    (hb : (Value.slice B3 O3.length d3).ownBlock = (Value.slice B O.length d).ownBlock ∨ (Value.slice B3 O3.length d3).ownBlock = some W2.heap.size) : RofAt w W3 O3 M B3 D d3 f := by
  refine ⟨hr, World.ownsRow.base_le (World.ownsRow.kept hM hg (own_apart h.own hM)) h.ext.size, ?_, row_ext (row_keep h.own hE) (h.ext.trans hE) hg⟩
  cases hv : (Value.slice D M.length f).ownBlock with
  | none => exact .inl rfl
  | some g =>
    refine .inr fun e => ?_
    have h1 := World.ownsRow.lt hM g hv
    rcases hb with hb | hb
    · have h2 := World.ownsRow.lt h.own g (hb.symm.trans e.symm)
      omega
    · have := hb.symm.trans e.symm
      injection this with this
      omega
theorem RofAt.store {g j : Nat} {u : Value} {L' : List Rect} (h : RofAt w W O L (B := B) (some ⟨g, 0, none⟩) d e) (hl : L'.length = L.length) (hr : OwnR (W.setCell ⟨g, j, none⟩ u) w.heap.size (.slice (some ⟨g, 0, none⟩) L'.length e) L') : RofAt w (W.setCell ⟨g, j, none⟩ u) O L' B (some ⟨g, 0, none⟩) d e := by
  have hg : w.heap.size ≤ g := (World.ownsRow.lt h.last g (by simp [Value.ownBlock])).1
  refine ⟨World.ownsRow.kept h.own (grown_set W g j u) ?_, hr, by rw [hl]; exact h.ne, h.ext.set (p := ⟨g, j, none⟩) hg _⟩
  rcases h.ne with h1 | h1
  · simp [Value.ownBlock] at h1
  · exact .inr fun e => h1 (by rw [e]; rfl)
end
theorem alike_pieces {P Q : List Piece} {y0 y1 z0 z1 : Int} : alikeR (P.map (pieceRect y0 y1)) (Q.map (pieceRect z0 z1)) = decide (P = Q) := by
  unfold alikeR
  have hinj : ∀ (P Q : List Piece), ((P.map (pieceRect y0 y1)).map fun r => (r.x, r.w)) = ((Q.map (pieceRect z0 z1)).map fun r => (r.x, r.w)) → P = Q := by
    intro P
    induction P with
    | nil => intro Q h; cases Q with
      | nil => rfl
      | cons q Q => simp at h
    | cons p P ih => intro Q h; cases Q with
      | nil => simp at h
      | cons q Q =>
        simp only [List.map_cons, List.cons.injEq, pieceRect, Prod.mk.injEq] at h
        have := ih Q h.2
        obtain ⟨p1, p2⟩ := p
        obtain ⟨q1, q2⟩ := q
        dsimp only at h
        rw [this]
        congr 1
        exact Prod.ext (by dsimp only; omega) (by dsimp only; omega)
  by_cases h : P = Q
  · subst h
    simp [pieceRect]
  · rw [decide_eq_false h, decide_eq_false fun e => h (hinj P Q e)]
theorem stretch_pieces {P : List Piece} {Y0 y0 y1 : Int} : ((P.map (pieceRect Y0 y0)).map fun r => (⟨r.x, r.y, r.w, r.h + (y1 - y0)⟩ : Rect)) = P.map (pieceRect Y0 y1) := by
  rw [List.map_map]
  refine List.map_congr_left fun p _ => ?_
  unfold pieceRect
  simp only [Function.comp_apply]
  congr 1
  omega

set_option maxRecDepth 100000 in
set_option maxHeartbeats 16000000 in
theorem rof_any (aA bA : Option Addr) (ca cb : Nat) (a b : List Rect) (how : Int) (w : World) (ha : RectsAt w aA a) (hb : RectsAt w bA b) (hal : a.length ≤ 1000000) (hbl : b.length ≤ 1000000) :
    Calls Try.prog 32 #[.slice aA a.length ca, .slice bA b.length cb, .int .i64 how] w (GivesR (listOf how a b) w) := by
  go_enter Try.func32, Try.ntmps32
  go_wp2_with fail
  refine (edges_any aA ca a false none 0 w.heap.size [] w ha (fun h => ha.lt h) hal (World.ownsRow_nil _ _ _ _) (Nat.le_refl _) (by simp)).mono ?_
  rintro e w1 ⟨B1, d1, rfl, h1, E1⟩
  have hn1 : (edgesP false a []).length ≤ 10000000 := cutsOf_len false a []
  replace E1 : Ext w w1 := E1
  go_wp2_with fail
  refine (edges_any bA cb b false B1 d1 w.heap.size _ w1 (hb.ext E1) (fun h => hb.lt h) hbl h1 E1.size hn1).mono ?_
  rintro e w2 ⟨xA, xc, rfl, hx, E2⟩
  replace E2 : Ext w w2 := Below.trans E1 E2
  clear h1 hn1
  go_wp2_with fail
  refine (edges_any aA ca a true none 0 w2.heap.size [] w2 (ha.ext E2) (fun h => (ha.ext E2).lt h) hal (World.ownsRow_nil _ _ _ _) (Nat.le_refl _) (by simp)).mono ?_
  rintro e w3 ⟨B1, d1, rfl, h1, E3⟩
  have hn1 : (edgesP true a []).length ≤ 10000000 := cutsOf_len true a []
  replace E3 : Ext w2 w3 := E3
  go_wp2_with fail
  refine (edges_any bA cb b true B1 d1 w2.heap.size _ w3 (hb.ext (E2.trans E3)) (fun h => (hb.ext E2).lt h) hbl h1 E3.size hn1).mono ?_
  rintro e w4 ⟨yA, yc, rfl, hy, E4⟩
  replace E4 : Ext w2 w4 := Below.trans E3 E4
  have hE4 := E2.trans E4
  replace hx := row_reads' (row_keep hx E4) rfl
  replace hy := row_reads' hy rfl
  clear h1 hn1 E1 E3 E4 E2
  have hbx : ∀ z ∈ cutsOf false a b, -1048576 ≤ z ∧ z ≤ 1048576 := fun z hz => cuts_bd hz
  have hby : ∀ z ∈ cutsOf true a b, -1048576 ≤ z ∧ z ≤ 1048576 := fun z hz => cuts_bd hz
  have hsy := cutsOf_sorted true a b
  have hnx := cutsOf_len false a b
  have hny := cutsOf_len true a b
  have hall := flatTo_all how a b
  have hfl := fun j h => flatTo_length how a b (j := j) h
  have hbp := bandL_pieces how a b
  rw [show edgesP false b (edgesP false a []) = cutsOf false a b from rfl] at hx ⊢
  rw [show edgesP true b (edgesP true a []) = cutsOf true a b from rfl] at hy ⊢
  obtain ⟨xs, hxs⟩ : ∃ xs, cutsOf false a b = xs := ⟨_, rfl⟩
  obtain ⟨ys, hys⟩ : ∃ ys, cutsOf true a b = ys := ⟨_, rfl⟩
  rw [hxs] at hx hbx hnx hbp
  rw [hys] at hy hby hsy hny hall hfl
  simp only [hxs, hys]
  have HBX := Lib.hid hbx
  have HBY := Lib.hid hby
  have HSY := Lib.hid hsy
  have HALL := Lib.hid hall
  have HFL := Lib.hid hfl
  have HBP := Lib.hid hbp
  have HX := Lib.hid hx
  have HY := Lib.hid hy
  clear hxs hys hbx hby hsy hall hfl hbp hx hy
  go_wp2_with fail
  go_loopw [9, 10, 11, 12, 13, 14] (fun ov lv jv _ _ _ wr => ∃ (j : Nat) (O L : List Rect) (B C : Option Addr) (d e : Nat) (Y0 : Int), (j + 1 ≤ ys.length ∨ j = 0) ∧ jv = .int .i64 j ∧ ov = .slice B O.length d ∧ lv = .slice C L.length e ∧ RofAt w4 wr O L B C d e ∧ O ++ L = flatTo how a b ys j ∧ L = (lastP how a b ys j).map (pieceRect Y0 (ys.getD j 0)) ∧ (-1048576 ≤ Y0 ∧ Y0 ≤ 1048576)) (fun _ _ jv _ _ _ _ => ys.length - (intOf jv).toNat)
  case atStart => exact ⟨0, [], [], none, none, 0, 0, 0, .inr rfl, rfl, rfl, rfl, ⟨World.ownsRow_nil _ _ _ _, World.ownsRow_nil _ _ _ _, .inl rfl, Ext.refl _⟩, rfl, rfl, by omega⟩
  case round =>
    obtain ⟨j, O, L, B, C, d, e, Y0, hj, rfl, rfl, rfl, hR, hOL, hLP, hY0⟩ := hrel
    have hlen := HFL.out j (by omega)
    have hOLn : O.length + L.length ≤ 2199023255552 := by rw [← List.length_append, hOL]; exact hlen.1
    have hLn : L.length ≤ 1048576 := by rw [hLP, List.length_map]; exact hlen.2
    have HR := Lib.hid hR
    have HOL := Lib.hid hOL
    have HLP := Lib.hid hLP
    clear hlen hR hOL hLP
    by_cases hlt : j + 1 < ys.length
    · have c1 : ((j : Int) + 1 < (ys.length : Int)) = True := by simp; omega
      have q1 : IntKind.i64.wrap ((j : Int) + 1) = (j : Int) + 1 := IntWalk.i64_in _ (by omega)
      obtain ⟨y0, hy0⟩ : ∃ y, ys.getD j 0 = y := ⟨_, rfl⟩
      obtain ⟨y1, hy1⟩ : ∃ y, ys.getD (j + 1) 0 = y := ⟨_, rfl⟩
      have by0 := HBY.out _ (getD_mem (show j < ys.length by omega))
      have by1 := HBY.out _ (getD_mem hlt)
      rw [hy0] at by0
      rw [hy1] at by1
      have HY0 := Lib.hid hy0
      have HY1 := Lib.hid hy1
      clear hy0 hy1
      go_upto_block 2 with fail
      refine band_block _ _ _ _ _ _ _ _ _ _ _ _ _ _ _ _ _ _ _ _ _ _ _ _ _ _ _ _ _ _ _ _ _ _ _ _ _ _ _ _ _ _ _ _ _ _ _ _ _ _ _ _ _ _ _ _ _ _ _ _ _ _ _ _ _ _ _ _ _ _ _ _ _ _ _ _ _ _ _ _ _ _ _ _ _ _ _ _ _ _ _ _ _ _ _ _ _ _ _ _ _ _ _ _ _ _ _ _ _ _ _ _ _ _ _ _ _ _ _ _ _ _ _ _ _ _ _ _ _ _ _ _ _ _ _ _ _ _ _ _ _ _ _ _ _ _ _ _ _ _ _ _ _ _ _ _ _ _ _ _ _ _ _ _ _ _ _ _ _ _ _ _ _ _ _ wr aA bA xA yA ca cb xc yc j a b how xs ys y0 y1 _ _ (ha.ext (hE4.trans HR.out.ext)) (hb.ext (hE4.trans HR.out.ext)) hal hbl (HX.out.ext HR.out.ext) (HY.out.ext HR.out.ext) HBX.out HBY.out hnx hny hlt HY0.out HY1.out ?_
      intro _ _ _ _ _ _ _ _ _ _ _ _ _ _ _ _ _ _ _ _ _ _ _ _ _ _ _ _ _ _ _ _ _ _ _ _ _ _ _ _ _ _ _ _ _ _ _ _ _ _ _ _ _ _ _ _ _ _ _ _ _ _ _ _ _ _ _ _ _ _ _ _ _ _ _ _ _ _ _ _ _ _ _ _ _ _ _ _ _ _ _ _ _ _ _ _ _ D f w6 hM hE6
      rw [HBP.out y0 y1] at hM ⊢
      have hR6 := HR.out.keep hE6
      have hap := own_apart HR.out.own hM
      obtain ⟨P, hP⟩ : ∃ P, piecesOf how a b y0 = P := ⟨_, rfl⟩
      have hPn : P.length ≤ 1048576 := hP ▸ piecesOf_length2 _ _ _ _
      rw [hP] at hM hap
      simp only [hP]
      obtain ⟨M, hMd⟩ : ∃ M, P.map (pieceRect y0 y1) = M := ⟨_, rfl⟩
      have hMl : P.length = M.length := by rw [← hMd, List.length_map]
      rw [hMl] at hPn
      have HML := Lib.hid hMl
      rw [hMd] at hM hap
      simp only [hMd]
      have HP := Lib.hid hP
      have HMD := Lib.hid hMd
      have HM := Lib.hid hM
      have HR6 := Lib.hid hR6
      have HAP := Lib.hid hap
      have hyj := (HY.out.ext (HR.out.ext.trans hE6))
      have hnew : ∀ (hs : P = [] ∨ P ≠ lastP how a b ys j), O ++ L ++ M = flatTo how a b ys (j + 1) := fun hs => by
        rw [flatTo_new HSY.out hlt (by rw [HY0.out, HP.out]; exact hs), HOL.out, HY0.out, HY1.out, HP.out, HMD.out]
      have HNEW := Lib.hid hnew
      have hlast : M = (lastP how a b ys (j + 1)).map (pieceRect y0 (ys.getD (j + 1) 0)) := by
        rw [HY1.out, show lastP how a b ys (j + 1) = P from by unfold lastP; rw [if_neg (by omega), Nat.add_sub_cancel, HY0.out, HP.out], HMD.out]
      have HLAST := Lib.hid hlast
      clear hnew hlast hP hMd hM hR6 hap hMl
      have hsize : w4.heap.size ≤ w6.heap.size := HR6.out.ext.size
      rcases Nat.eq_zero_or_pos M.length with hP0 | hPp
      · have t1 : decide (0 < M.length) = false := by rw [decide_eq_false_iff_not]; omega
        have HS : Hid (P = [] ∨ P ≠ lastP how a b ys j) := Lib.hid (.inl (List.eq_nil_of_length_eq_zero (HML.out.trans hP0)))
        clear hP0
        go_wp2_with fail
        go_quiet (fail)
        have hE7 : Ext wr (w6.drewN nq) := hE6.trans ((Ext.refl w6).drewN nq)
        have HM7 := Lib.hid (row_keep HM.out ((Ext.refl w6).drewN nq))
        generalize w6.drewN nq = w7 at *
        clear HR6 HM
        have hown7 := row_keep HR.out.own hE7
        have hnil7 := fun h => (row_nil_of HR.out.last h).1
        have hsh7 := ((OwnR.at HR.out.last).ext hE7).shows
        have hsz7 := Nat.le_trans HR.out.ext.size hE7.size
        have hM8 := HM7
        go_wp2_with (first | (refine wpList_app2 w4.heap.size rfl (.tmp 176) (.tmp 177) 22 26 (.agg #[.int .i64 0, .int .i64 0, .int .i64 0, .int .i64 0]) 4 32 rfl Try.underlying22 info_rect rfl (by decide) (by decide) (.slice B O.length d) O.length (rcells O) rfl hown7 C L.length e (rcells L) rfl hnil7 (rcells_length _) hsh7 rcells_one (by omega) hsz7 (fun B5 d5 w5 hr5 hg5 hb5 => ?_)))
        have hr6 : OwnR w5 w4.heap.size (.slice B5 (O ++ L).length d5) (O ++ L) := by
          unfold OwnR
          rw [List.length_append, show rcells (O ++ L) = rcells O ++ rcells L by simp [rcells]]
          exact hr5
        have hN := HR.out.next hE7 HM7.out hg5 hr6 (by rw [List.length_append]; exact hb5)
        exact ⟨⟨j + 1, O ++ L, M, B5, D, d5, f, y0, .inl (by omega), by go_num, by rw [List.length_append], rfl, hN, HNEW.out HS.out, HLAST.out, by0⟩, by simp [intOf]; omega⟩
      · have t1 : decide ((0 : Int) < (M.length : Int)) = true := by rw [decide_eq_true_eq]; omega
        have hPne : P ≠ [] := fun h => by have := HML.out; rw [h] at this; simp at this; omega
        rcases Nat.eq_zero_or_pos L.length with hL0 | hLp
        · have t2 : decide (0 < L.length) = false := by rw [decide_eq_false_iff_not]; omega
          have HS : Hid (P = [] ∨ P ≠ lastP how a b ys j) := Lib.hid (.inr (fun h => by
            have h1 := congrArg List.length HLP.out
            rw [List.length_map, ← h] at h1
            have := HML.out
            omega))
          clear hL0 hPne
          go_wp2_with fail
          go_quiet (fail)
          have hE7 : Ext wr (w6.drewN nq) := hE6.trans ((Ext.refl w6).drewN nq)
          have HM7 := Lib.hid (row_keep HM.out ((Ext.refl w6).drewN nq))
          generalize w6.drewN nq = w7 at *
          clear HR6 HM
          have hown7 := row_keep HR.out.own hE7
          have hnil7 := fun h => (row_nil_of HR.out.last h).1
          have hsh7 := ((OwnR.at HR.out.last).ext hE7).shows
          have hsz7 := Nat.le_trans HR.out.ext.size hE7.size
          have hM8 := HM7
          go_wp2_with (first | (refine wpList_app2 w4.heap.size rfl (.tmp 176) (.tmp 177) 22 26 (.agg #[.int .i64 0, .int .i64 0, .int .i64 0, .int .i64 0]) 4 32 rfl Try.underlying22 info_rect rfl (by decide) (by decide) (.slice B O.length d) O.length (rcells O) rfl hown7 C L.length e (rcells L) rfl hnil7 (rcells_length _) hsh7 rcells_one (by omega) hsz7 (fun B5 d5 w5 hr5 hg5 hb5 => ?_)))
          have hr6 : OwnR w5 w4.heap.size (.slice B5 (O ++ L).length d5) (O ++ L) := by
            unfold OwnR
            rw [List.length_append, show rcells (O ++ L) = rcells O ++ rcells L by simp [rcells]]
            exact hr5
          have hN := HR.out.next hE7 HM7.out hg5 hr6 (by rw [List.length_append]; exact hb5)
          exact ⟨⟨j + 1, O ++ L, M, B5, D, d5, f, y0, .inl (by omega), by go_num, by rw [List.length_append], rfl, hN, HNEW.out HS.out, HLAST.out, by0⟩, by simp [intOf]; omega⟩
        · have t2 : decide ((0 : Int) < (L.length : Int)) = true := by rw [decide_eq_true_eq]; omega
          obtain ⟨g, rfl, hg4⟩ := row_form HR6.out.last hLp
          obtain ⟨yb, yo, rfl, hyc⟩ := hyj.form (by omega)
          have hyj0 := hyc j (by omega)
          rw [HY0.out] at hyj0
          obtain ⟨r, hr⟩ : ∃ r, L[0]? = some r := ⟨L[0], List.getElem?_eq_getElem hLp⟩
          have hrP : ∃ p, r = pieceRect Y0 y0 p := by
            have h1 : r ∈ L := List.mem_of_getElem? hr
            rw [HLP.out, HY0.out] at h1
            obtain ⟨p, _, e1⟩ := List.mem_map.1 h1
            exact ⟨p, e1.symm⟩
          obtain ⟨p0, rfl⟩ := hrP
          have z1 := (World.ownsRow.cellAt HR6.out.last (0 * 4 + 1) (by omega)).trans (rcells_get hr 1 (by decide))
          have z3 := (World.ownsRow.cellAt HR6.out.last (0 * 4 + 3) (by omega)).trans (rcells_get hr 3 (by decide))
          simp only [rcell, pieceRect, List.getElem?_cons_zero, List.getElem?_cons_succ, Nat.zero_mul, Nat.zero_add] at z1 z3
          have s1 : IntKind.i64.wrap (Y0 + (y0 - Y0)) = y0 := by rw [show Y0 + (y0 - Y0) = y0 by omega]; exact IntWalk.i64_in _ (by omega)
          have s2 : wrap64 (Y0 + (y0 - Y0)) = y0 := by rw [show Y0 + (y0 - Y0) = y0 by omega]; exact IntWalk.wrap64_in _ (by omega)
          have t3 : (y0 == y0) = true := by simp
          have t4 : ((0 : Int) < (L.length : Int)) = True := by simp; omega
          have hdec : alikeR L M = decide (lastP how a b ys j = P) := by rw [HLP.out, ← HMD.out, alike_pieces]
          have hal2 := fun y : After w6 => ralike_any (some ⟨g, 0, none⟩) D e f L M y.now ((OwnR.at HR6.out.last).ext y.ext) ((OwnR.at HM.out).ext y.ext) (by omega) (by omega)
          have j1 : ∀ y : After w6, y.now.cell? ⟨g, 1, none⟩ = some (.int .i64 Y0) := fun y => y.ext.cellOf z1
          have j3 : ∀ y : After w6, y.now.cell? ⟨g, 3, none⟩ = some (.int .i64 (y0 - Y0)) := fun y => y.ext.cellOf z3
          have j4 : ∀ y : After w6, y.now.cell? ⟨yb, yo + j, none⟩ = some (.int .i64 y0) := fun y => y.ext.cellOf hyj0
          have hj0 : j < ys.length := by omega
          clear hr z1 z3 hyc hyj0 hyj
          by_cases hPe : lastP how a b ys j = P
          · rw [decide_eq_true hPe] at hdec
            simp only [hdec] at hal2
            have HPE := Lib.hid hPe
            clear hdec hPe
            go_wp2_with fail
            refine wp_region_after (by kernel_rfl) (by kernel_rfl) ?_
            repeat (go_big_quiet_step (first | with_reducible exact Calls.after (hal2 _)))
            refine wpQuiet_nil ?_
            intro _ hw'
            obtain ⟨z, rfl⟩ := hw'
            have hE7 : Ext wr z.now := hE6.trans z.ext
            have hR7 := HR.out.keep hE7
            clear j1 j3 j4 hal2 HM HR6 HAP
            generalize z.now = w7 at *
            have HR7 := Lib.hid hR7
            clear hR7 z
            go_wp2_with fail
            go_loopw [14] (fun kv wq => ∃ k : Nat, k ≤ L.length ∧ kv = .int .i64 k ∧ RofAt w4 wq O (stretchTo L 0 k (y1 - y0)) B (some ⟨g, 0, none⟩) d e) (fun kv _ => L.length - (intOf kv).toNat)
            case atStart => exact ⟨0, Nat.zero_le _, rfl, by rw [stretchTo_zero]; exact HR7.out⟩
            case round =>
              obtain ⟨k, hk, rfl, hRk⟩ := hrel
              have HRK := Lib.hid hRk
              clear hRk
              by_cases hkl : k < L.length
              · obtain ⟨r, hr⟩ : ∃ r, L[0 + k]? = some r := ⟨L[0 + k]'(by omega), List.getElem?_eq_getElem _⟩
                have hr2 := stretchTo_at (dh := y1 - y0) hr
                have hrP : ∃ p, r = pieceRect Y0 y0 p := by
                  have h1 : r ∈ L := List.mem_of_getElem? hr
                  rw [HLP.out, HY0.out] at h1
                  obtain ⟨p, _, e1⟩ := List.mem_map.1 h1
                  exact ⟨p, e1.symm⟩
                obtain ⟨p, rfl⟩ := hrP
                have hlast := HRK.out.last
                unfold OwnR at hlast
                rw [stretchTo_length] at hlast
                rw [Nat.zero_add] at hr2
                have hc := (World.ownsRow.cellAt hlast (k * 4 + 1) (by omega)).trans (rcells_get hr2 1 (by decide))
                have hc3 := (World.ownsRow.cellAt hlast (k * 4 + 3) (by omega)).trans (rcells_get hr2 3 (by decide))
                simp only [rcell, pieceRect, List.getElem?_cons_zero, List.getElem?_cons_succ] at hc hc3
                have hfr := World.ownsRow.frozenAt hlast
                have hst := (World.ownsRow.stored hlast (k * 4 + 3) (.int .i64 (y1 - Y0))).1
                rw [rcells_seth _ hr2, show (y1 - Y0) = (pieceRect Y0 y0 p).h + (y1 - y0) by unfold pieceRect; dsimp only; omega] at hst
                have hsu := stretchTo_succ (dh := y1 - y0) hr
                rw [Nat.zero_add] at hsu
                rw [hsu, show (pieceRect Y0 y0 p).h + (y1 - y0) = y1 - Y0 by unfold pieceRect; dsimp only; omega] at hst
                have hRn := HRK.out.store (j := k * 4 + 3) (u := .int .i64 (y1 - Y0)) (L' := stretchTo L 0 (k + 1) (y1 - y0)) (by rw [stretchTo_length, stretchTo_length]) (by unfold OwnR; rw [stretchTo_length]; exact hst)
                have HRN := Lib.hid (hRn.keep (Ext.refl _).drew)
                have hyq := (HY.out.ext HRK.out.ext)
                obtain ⟨yb', yo', e1, hyc⟩ := hyq.form (by omega)
                injection e1 with e1
                injection e1 with e11 e12
                subst e11
                subst e12
                have hyj1 := hyc (j + 1) hlt
                rw [HY1.out] at hyj1
                have r1 : IntKind.i64.wrap (y1 - Y0) = y1 - Y0 := IntWalk.i64_in _ (by omega)
                have hI2 : (0 : Int) ≤ (j : Int) + 1 := by omega
                have hI3 : ((j : Int) + 1).toNat = j + 1 := by omega
                have c2 : (j : Int) + 1 < (ys.length : Int) := by omega
                have hk2 : (k : Int) < (L.length : Int) := by omega
                clear hr hr2 hst hsu hRn hyc hyq hlast
                go_wp2_with fail
                go_still_tail 15, (by kernel_rfl)
                change wpList _ _ _ _ _ wr.drew
                go_wp2_with fail
                exact ⟨⟨k + 1, by omega, by go_num, HRN.out⟩, by simp [intOf]; omega⟩
              · obtain rfl : k = L.length := by omega
                have hgrow : stretchTo L 0 L.length (y1 - y0) = (lastP how a b ys j).map (pieceRect Y0 y1) := by
                  have h1 := stretchTo_all L L.length (y1 - y0) (Nat.le_refl _)
                  rw [Nat.sub_self] at h1
                  rw [h1]
                  unfold stretch
                  rw [Nat.sub_self, List.take_zero, List.drop_zero, List.nil_append]
                  rw [HLP.out, HY0.out]
                  exact stretch_pieces
                have hsame := (flatTo_same (ys := ys) (i := j) (how := how) (a := a) (b := b) (by rw [HY0.out, HP.out]; exact hPne) (by rw [HY0.out, HP.out]; exact HPE.out.symm)).1
                have hgr2 : L.map (fun r => (⟨r.x, r.y, r.w, r.h + (y1 - y0)⟩ : Rect)) = stretchTo L 0 L.length (y1 - y0) := by
                  rw [hgrow, HLP.out, HY0.out]
                  exact stretch_pieces
                rw [← HOL.out, HY0.out, HY1.out, HP.out, stretch_append (by rw [← HPE.out]; have := congrArg List.length HLP.out; rw [List.length_map] at this; exact this), hgr2] at hsame
                have hlP : lastP how a b ys (j + 1) = lastP how a b ys j := by
                  rw [HPE.out]
                  unfold lastP
                  rw [if_neg (by omega), Nat.add_sub_cancel, HY0.out, HP.out]
                have hfin : stretchTo L 0 L.length (y1 - y0) = (lastP how a b ys (j + 1)).map (pieceRect Y0 (ys.getD (j + 1) 0)) := by rw [hlP, HY1.out]; exact hgrow
                have HF1 := Lib.hid hsame
                have HF2 := Lib.hid hfin
                clear hgrow hsame hgr2 hlP hfin hkl
                go_wp2_with fail
                exact ⟨⟨j + 1, O, stretchTo L 0 L.length (y1 - y0), B, some ⟨g, 0, none⟩, d, e, Y0, .inl (by omega), by go_num, rfl, by rw [stretchTo_length], HRK.out, HF1.out.symm, HF2.out, hY0⟩, by simp [intOf]; omega⟩
          · rw [decide_eq_false hPe] at hdec
            simp only [hdec] at hal2
            have HS : Hid (P = [] ∨ P ≠ lastP how a b ys j) := Lib.hid (.inr (fun h => hPe h.symm))
            clear hdec hPe
            go_wp2_with fail
            refine wp_region_after (by kernel_rfl) (by kernel_rfl) ?_
            repeat (go_big_quiet_step (first | with_reducible exact Calls.after (hal2 _)))
            refine wpQuiet_nil ?_
            intro _ hw'
            obtain ⟨z, rfl⟩ := hw'
            have hE7 : Ext wr z.now := hE6.trans z.ext
            have HM7 := Lib.hid (row_keep HM.out z.ext)
            clear j1 j3 j4 hal2 HM HR6 HAP
            generalize z.now = w7 at *
            clear z
            obtain ⟨C, hC⟩ : ∃ C, C = some (⟨g, 0, none⟩ : Addr) := ⟨_, rfl⟩
            rw [← hC] at HR ⊢
            have hown7 := row_keep HR.out.own hE7
            have hnil7 := fun h => (row_nil_of HR.out.last h).1
            have hsh7 := ((OwnR.at HR.out.last).ext hE7).shows
            have hsz7 := Nat.le_trans HR.out.ext.size hE7.size
            have hM8 := HM7
            go_wp2_with (first | (refine wpList_app2 w4.heap.size rfl (.tmp 176) (.tmp 177) 22 26 (.agg #[.int .i64 0, .int .i64 0, .int .i64 0, .int .i64 0]) 4 32 rfl Try.underlying22 info_rect rfl (by decide) (by decide) (.slice B O.length d) O.length (rcells O) rfl hown7 C L.length e (rcells L) rfl hnil7 (rcells_length _) hsh7 rcells_one (by omega) hsz7 (fun B5 d5 w5 hr5 hg5 hb5 => ?_)))
            have hr6 : OwnR w5 w4.heap.size (.slice B5 (O ++ L).length d5) (O ++ L) := by
              unfold OwnR
              rw [List.length_append, show rcells (O ++ L) = rcells O ++ rcells L by simp [rcells]]
              exact hr5
            have hN := HR.out.next hE7 HM7.out hg5 hr6 (by rw [List.length_append]; exact hb5)
            exact ⟨⟨j + 1, O ++ L, M, B5, D, d5, f, y0, .inl (by omega), by go_num, by rw [List.length_append], rfl, hN, HNEW.out HS.out, HLAST.out, by0⟩, by simp [intOf]; omega⟩
    · have hje : j = ys.length - 1 := by omega
      have hres : O ++ L = listOf how a b := by rw [HOL.out, ← HALL.out, hje]
      have hE7 := Ext.refl wr
      have hown7 := row_keep HR.out.own hE7
      have hnil7 := fun h => (row_nil_of HR.out.last h).1
      have hsh7 := ((OwnR.at HR.out.last).ext hE7).shows
      have hsz7 := Nat.le_trans HR.out.ext.size hE7.size
      have HRES := Lib.hid hres
      have c1 : ((j : Int) + 1 < (ys.length : Int)) = False := by simp; omega
      have q1 : IntKind.i64.wrap ((j : Int) + 1) = (j : Int) + 1 := IntWalk.i64_in _ (by omega)
      clear hres hlt
      go_wp2_with (first | (refine wpList_app2 w4.heap.size rfl (.tmp 180) (.tmp 181) 22 26 (.agg #[.int .i64 0, .int .i64 0, .int .i64 0, .int .i64 0]) 4 32 rfl Try.underlying22 info_rect rfl (by decide) (by decide) (.slice B O.length d) O.length (rcells O) rfl hown7 C L.length e (rcells L) rfl hnil7 (rcells_length _) hsh7 rcells_one (by omega) hsz7 (fun B5 d5 w5 hr5 hg5 hb5 => ?_)))
      go_ret
      have hr6 : OwnR w5 w4.heap.size (.slice B5 (O ++ L).length d5) (O ++ L) := by
        unfold OwnR
        rw [List.length_append, show rcells (O ++ L) = rcells O ++ rcells L by simp [rcells]]
        exact hr5
      refine ⟨B5, d5, by rw [← HRES.out, List.length_append]; rfl, ?_, fun h => (row_nil_of hr5 h).1, hE4.trans (row_ext HR.out.own HR.out.ext hg5)⟩
      rw [← HRES.out]
      exact World.ownsRow.base_le hr6 hE4.size
end Go.Proofs.Ytjghghbldifhaaa
