/- The walk of region.of: the list in form of what is meant. -/
/- The walks of region's exported functions but Shift, Area and Bounds. -/
import Derived.Test.YtjghghbldifhaaaRegK
set_option linter.unusedVariables false
set_option linter.unusedSimpArgs false
namespace Go.Proofs.Ytjghghbldifhaaa
open Go.RowKit Go.Shelf
attribute [local go_sem] Oper.semAt_some

set_option maxRecDepth 100000 in
set_option maxHeartbeats 16000000 in
theorem of_any (aA bA : Option Addr) (ca cb : Nat) (a b : List Rect) (how : Int) (K : Nat) (w : World) (ha : RectsAt w aA a) (hb : RectsAt w bA b) (hal : a.length ≤ 4398046511104) (hbl : b.length ≤ 4398046511104)
    (eg : ∀ args w, (callFunc K args).run Try.prog w = .ok (.enter K args) w) (hin : ∀ (p q : Bool) (W : World), Calls Try.prog K #[.bool p, .bool q] W fun e w' => e = .returned (.bool (meant how p q)) ∧ Ext W w') :
    Calls Try.prog 81 #[.slice aA a.length ca, .slice bA b.length cb, .func (.func K) #[] #[]] w fun e w' => ∃ B d, e = .returned (.slice B (listOf how a b).length d) ∧ OwnR w' w.heap.size (.slice B (listOf how a b).length d) (listOf how a b) ∧ Ext w w' := by
  refine (callsIn_wide (n := 5)).1 ?_
  refine callsIn_of_wp_marks Try.func81 rfl trivial ?_ rfl
  simp only [Try.ntmps81, List.size_toArray, List.length_cons, List.length_nil, Nat.reduceAdd, Nat.reduceSub, Array.replicate_succ, Array.replicate_zero, List.push_toArray, List.append_toArray, List.nil_append, List.cons_append]
  have HIN := Lib.hid hin
  have HEG := Lib.hid eg
  clear hin eg
  gi_wp2
  generalize hw0 : (((((((w.alloc (.cells #[.slice aA a.length ca] 22)).alloc (.cells #[.slice bA b.length cb] 22)).alloc (.cells #[.func (.func K) #[] #[]] 96)).alloc (.cells #[.slice none 0 0] 22)).alloc (.cells #[.slice none 0 0] 127)).alloc (.cells #[.int .i64 0] 3)).alloc (.cells #[.int .i64 0] 3)).alloc (.cells #[.slice aA a.length ca, .slice bA b.length cb] 22) = w0
  have k0 : w0.heap[w.heap.size]? = some (.cells #[.slice aA a.length ca] 22 (0, 0)) := by rw [← hw0]; exact blk_old (blk_old (blk_old (blk_old (blk_old (blk_old (blk_old (blk_newL w [] (.cells #[.slice aA a.length ca] 22)) _) _) _) _) _) _) _
  have k1 : w0.heap[w.heap.size + 1]? = some (.cells #[.slice bA b.length cb] 22 (0, 0)) := by rw [← hw0]; exact blk_old (blk_old (blk_old (blk_old (blk_old (blk_old (blk_newL w [(.cells #[.slice aA a.length ca] 22)] (.cells #[.slice bA b.length cb] 22)) _) _) _) _) _) _
  have k2 : w0.heap[w.heap.size + 1 + 1]? = some (.cells #[.func (.func K) #[] #[]] 96 (0, 0)) := by rw [← hw0]; exact blk_old (blk_old (blk_old (blk_old (blk_old (blk_newL w [(.cells #[.slice aA a.length ca] 22), (.cells #[.slice bA b.length cb] 22)] (.cells #[.func (.func K) #[] #[]] 96)) _) _) _) _) _
  have k3 : w0.heap[w.heap.size + 1 + 1 + 1]? = some (.cells #[.slice none 0 0] 22 (0, 0)) := by rw [← hw0]; exact blk_old (blk_old (blk_old (blk_old (blk_newL w [(.cells #[.slice aA a.length ca] 22), (.cells #[.slice bA b.length cb] 22), (.cells #[.func (.func K) #[] #[]] 96)] (.cells #[.slice none 0 0] 22)) _) _) _) _
  have k4 : w0.heap[w.heap.size + 1 + 1 + 1 + 1]? = some (.cells #[.slice none 0 0] 127 (0, 0)) := by rw [← hw0]; exact blk_old (blk_old (blk_old (blk_newL w [(.cells #[.slice aA a.length ca] 22), (.cells #[.slice bA b.length cb] 22), (.cells #[.func (.func K) #[] #[]] 96), (.cells #[.slice none 0 0] 22)] (.cells #[.slice none 0 0] 127)) _) _) _
  have k5 : w0.heap[w.heap.size + 1 + 1 + 1 + 1 + 1]? = some (.cells #[.int .i64 0] 3 (0, 0)) := by rw [← hw0]; exact blk_old (blk_old (blk_newL w [(.cells #[.slice aA a.length ca] 22), (.cells #[.slice bA b.length cb] 22), (.cells #[.func (.func K) #[] #[]] 96), (.cells #[.slice none 0 0] 22), (.cells #[.slice none 0 0] 127)] (.cells #[.int .i64 0] 3)) _) _
  have k6 : w0.heap[w.heap.size + 1 + 1 + 1 + 1 + 1 + 1]? = some (.cells #[.int .i64 0] 3 (0, 0)) := by rw [← hw0]; exact blk_old (blk_newL w [(.cells #[.slice aA a.length ca] 22), (.cells #[.slice bA b.length cb] 22), (.cells #[.func (.func K) #[] #[]] 96), (.cells #[.slice none 0 0] 22), (.cells #[.slice none 0 0] 127), (.cells #[.int .i64 0] 3)] (.cells #[.int .i64 0] 3)) _
  have k7 : w0.heap[w.heap.size + 1 + 1 + 1 + 1 + 1 + 1 + 1]? = some (.cells #[.slice aA a.length ca, .slice bA b.length cb] 22 (0, 0)) := by rw [← hw0]; exact blk_newL w [(.cells #[.slice aA a.length ca] 22), (.cells #[.slice bA b.length cb] 22), (.cells #[.func (.func K) #[] #[]] 96), (.cells #[.slice none 0 0] 22), (.cells #[.slice none 0 0] 127), (.cells #[.int .i64 0] 3), (.cells #[.int .i64 0] 3)] (.cells #[.slice aA a.length ca, .slice bA b.length cb] 22)
  have hs0 : w0.heap.size = w.heap.size + 8 := by rw [← hw0]; simp
  have hE0 : Ext w w0 := by rw [← hw0]; exact ((((((((Ext.refl w).alloc _).alloc _).alloc _).alloc _).alloc _).alloc _).alloc _).alloc _
  clear hw0
  refine ⟨trivial, (callsIn_wide.2 (cuts_any aA aA bA ca ca cb _ a b w0 k7 (ha.ext hE0) (hb.ext hE0) hal hbl)).mono ?_⟩
  rintro e w1 ⟨YB, yd, Y, rfl, hC⟩
  have hO1 : OfAt w w1 w.heap.size w1.heap.size aA bA a.length b.length ca cb K ofStart none none 0 0 := ⟨hC.ext.keep k0, hC.ext.keep k1, hC.ext.keep k2, hC.ext.keep k3, hC.ext.keep k4, hC.ext.keep k5, hC.ext.keep k6, World.ownsRow_nil _ _ _ _, by have := hC.ext.size; omega, Nat.le_refl _, .inl rfl, hE0.trans hC.ext, Nat.le_refl _⟩
  have HO1 := Lib.hid hO1
  have HC := Lib.hid hC
  have hYs : w.heap.size + 8 ≤ Y := by have := hC.le; omega
  clear k0 k1 k2 k3 k4 k5 k6 k7 hs0 hE0 hO1 hC
  gi_wp2
  obtain ⟨ys, hys⟩ : ∃ ys, cutsOf true a b = ys := ⟨_, rfl⟩
  have hsrt := cutsOf_sorted true a b
  have hbd : ∀ z ∈ cutsOf true a b, -1048576 ≤ z ∧ z ≤ 1048576 := fun z hz => cuts_bd hz
  have hlen := cutsOf_length a b
  have hfl := flatTo_all how a b
  have hCC := HC.out
  rw [hys] at hsrt hbd hlen hfl hCC
  have HSRT := Lib.hid hsrt
  have HBD := Lib.hid hbd
  have HFL := Lib.hid hfl
  have HC2 := Lib.hid hCC
  have hbs : w.heap.size + 8 ≤ w1.heap.size := HO1.out.sb
  clear hys hsrt hbd hfl hCC HC
  obtain ⟨N, hN⟩ : ∃ N, N = ys.length - 1 := ⟨_, rfl⟩
  have HN := Lib.hid hN
  have hNb : N ≤ 2097152 := by omega
  clear hN
  refine wpIn_rangeFunc_ownF (F := Fence.wide) (n := 5) (α := Fin N) rfl (by decide) (gf := 129) (lb := #[.pointer (some ⟨Y, 0, none⟩)]) rfl trivial (enters_of Try.func129 (by kernel_rfl) rfl)
    (encs := fun i => bandArgs ys i.val) (Kp := KeptP (fun k => w.heap.size + 8 ≤ k ∧ k < w1.heap.size)) (S := fun zs => zs.map Fin.val = List.range N) (Sp := fun _ => True) (N := N) (w0 := w1) ?seq KeptP.trans (fun W l o o' _ h ho _ => keptP_b _ W l o o' h ho) (Below.refl _ _) (fun _ => rfl)
    (fun pre W1 => ∃ B LA d lc, OfAt w W1 w.heap.size w1.heap.size aA bA a.length b.length ca cb K (ofRounds how a b ys (pre.map Fin.val)) B LA d lc)
    (fun _ _ _ => False)
    (fun s A' B' row hs hg hr => by
      obtain ⟨B, LA, d, lc, hs⟩ := hs
      exact ⟨B, LA, d, lc, hs.turn hg (fun r e => (hr r e).2) (fun r e => Nat.le_trans (by omega) (hr r e).1)⟩)
    (fun _ _ _ _ _ hs _ _ => hs)
    ⟨none, none, 0, 0, HO1.out⟩
    (fun i => { tmps := #[.slice aA a.length ca, .slice bA b.length cb, .func (.func K) #[] #[], .pointer (some ⟨w.heap.size, 0, none⟩), .pointer (some ⟨w.heap.size + 1, 0, none⟩), .pointer (some ⟨w.heap.size + 1 + 1, 0, none⟩), .slice none 0 0, .pointer (some ⟨w.heap.size + 1 + 1 + 1, 0, none⟩), .pointer (some ⟨w.heap.size + 1 + 1 + 1 + 1, 0, none⟩), .pointer (some ⟨w.heap.size + 1 + 1 + 1 + 1 + 1, 0, none⟩), .pointer (some ⟨w.heap.size + 1 + 1 + 1 + 1 + 1 + 1, 0, none⟩), .int .i64 (ys.getD i.val 0), .int .i64 (ys.getD (i.val + 1) 0), undef, undef, undef, undef, .slice aA a.length ca, .slice bA b.length cb, .slice (some ⟨w.heap.size + 1 + 1 + 1 + 1 + 1 + 1 + 1, 0, none⟩) 2 2, .func (.func 129) #[] #[.pointer (some ⟨Y, 0, none⟩)], .int .i64 (ys.getD i.val 0), .int .i64 (ys.getD (i.val + 1) 0), undef, undef, undef, undef, undef, undef, undef, undef, undef, undef, undef, undef, undef, undef, undef, undef, undef, undef, undef, undef, undef, undef, undef, undef, undef, undef, undef, undef, undef, undef, undef, undef, undef, undef, undef, undef, undef, undef, undef, undef, undef, undef, undef, undef, undef, undef, undef, undef, undef, undef, undef, undef, undef, undef, undef, undef, undef, undef, undef, undef, undef, undef, undef, undef, undef, undef, undef, undef, undef, undef, undef, undef, undef, undef], defers := [] }) ?assign ?body ?done ?stop
  case seq =>
    intro l J Jx W1 hW hJ _ hY h0
    refine (cuts1_in 4 (by decide) l Y YB yd N ys HN.out (by omega) J Jx W1 _ ⟨hYs, by have := HC2.out.size; omega⟩ (fun g o e => ?_) hJ hY (Ext.keep hW HC2.out.cell) (Y + 1) (row_keep HC2.out.own hW) h0).mono ?_
    · have := World.ownsRow.lt HC2.out.own g (by rw [e]; rfl)
      omega
    · rintro e W' ⟨he, ⟨zs, h1, h2⟩ | ⟨pre, h2⟩⟩
      · exact ⟨he, .inl ⟨zs, h1, h2⟩⟩
      · exact ⟨he, .inr ⟨pre, trivial, h2⟩⟩
  case assign =>
    intro l i W1 K hK
    dsimp only [bandArgs]
    gi_wp2
    exact hK
  case done =>
    rintro D zs W1 hD hzs ⟨B, LA, d, lc, hO⟩ hK
    obtain ⟨c3, f3⟩ := blk_rules hO.kout
    have hst : (ofRounds how a b ys (zs.map Fin.val)).O = listOf how a b := by
      rw [hzs, ofRounds_range HSRT.out N (by have := HN.out; omega)]
      dsimp only
      rw [HN.out]
      exact HFL.out
    have hown := hO.own
    rw [hst] at c3 hown
    have HOW := Lib.hid hown
    have HOO := Lib.hid hO
    clear hst hown hO
    gi_wp2
    refine ⟨by simp, .inl ⟨_, _, rfl, run_takeDeferred hK, ?_⟩⟩
    have hg := grownBy_putObj' W1 D (.deferred none)
    have hr : ∀ r, some D = some r → ∃ o : Obj, W1.heap[r]? = some o ∧ o.isCells = false := fun r e => by cases e; exact ⟨_, hK, rfl⟩
    have hO2 := HOO.out.turn hg hr (fun r e => by cases e; omega)
    have hown2 := row_turn hg hr HOW.out
    exact ⟨_, results_tmp rfl _ _ _, B, d, rfl, World.ownsRow.base_le hown2 (by omega), hO2.ext⟩
  case stop =>
    rintro D c pre W1 _ _ h _
    exact h.elim
  case body =>
    rintro l pre i W1 ⟨B, LA, d, lc, hO⟩ hpre
    obtain ⟨y0, hy0⟩ : ∃ y, ys.getD i.val 0 = y := ⟨_, rfl⟩
    obtain ⟨y1, hy1⟩ : ∃ y, ys.getD (i.val + 1) 0 = y := ⟨_, rfl⟩
    obtain ⟨st, hst⟩ : ∃ st, ofRounds how a b ys (pre.map Fin.val) = st := ⟨_, rfl⟩
    have hiN : i.val + 1 < ys.length := by have := i.isLt; have := HN.out; omega
    have hinv : OfInv st pre.length := by
      have := ofInv_rounds HBD.out _ (pre.map Fin.val) rfl (how := how) (a := a) (b := b) (fun j hj => by
        obtain ⟨q, _, rfl⟩ := List.mem_map.1 hj
        have := q.isLt
        have := HN.out
        omega)
      rw [hst] at this
      simpa using this
    have b0 := HBD.out _ (getD_mem (show i.val < ys.length by omega))
    have b1 := HBD.out _ (getD_mem hiN)
    have hstep : ofRounds how a b ys ((pre ++ [i]).map Fin.val) = ofStep how a b ys st i.val := by rw [List.map_append, List.map_cons, List.map_nil, ofRounds_snoc, hst]
    rw [hst] at hO
    rw [hy0] at b0
    rw [hy1] at b1
    simp only [hy0, hy1]
    have HSTEP := Lib.hid hstep
    have HY0 := Lib.hid hy0
    have HY1 := Lib.hid hy1
    have HOO := Lib.hid hO
    have HINV := Lib.hid hinv
    clear hst hstep hy0 hy1 hinv
    have j0 := After.blk hO.k0
    have j1 := After.blk hO.k1
    have j2 := After.blk hO.k2
    have haw := ha.ext hO.ext
    have hbw := hb.ext hO.ext
    clear hO
    gi_wp2
    refine round_region_sched (fun w' => ∃ x : After W1, w' = x.now) (by kernel_rfl) (by kernel_rfl) ?_
    refine held_take [0, 1, 3, 4, 6] _ _ 4 rfl (by kernel_rfl) rfl (by kernel_rfl) ⟨⟨W1.drew, (Ext.refl W1).drew⟩, rfl⟩ ?_
    simp only [List.filterMap_cons, List.filterMap_nil, List.getElem?_toArray, List.getElem?_cons_succ, List.getElem?_cons_zero]
    repeat (quiet_step (fail))
    refine wpQuiet_nil ?_
    refine held_step (k := 2) rfl (by kernel_rfl) ?_
    go_wp2_with fail
    refine (row_any aA ca a y0 W1.drew (haw.ext (Ext.refl W1).drew) hal).mono ?_
    rintro e w2 ⟨B1, d1, rfl, hs1, hE1⟩
    have hE1' : Ext W1 w2 := (Ext.refl W1).drew.trans hE1
    go_wp2_with fail
    refine ⟨⟨⟨w2, hE1'⟩, rfl⟩, ?_⟩
    refine held_step (k := 5) rfl (by kernel_rfl) ?_
    go_wp2_with fail
    refine (row_any bA cb b y0 w2 (hbw.ext hE1') hbl).mono ?_
    rintro e w3 ⟨B2, d2, rfl, hs2, hE2⟩
    have hE2' : Ext W1 w3 := hE1'.trans hE2
    go_wp2_with fail
    refine ⟨⟨⟨w3, hE2'⟩, rfl⟩, ?_⟩
    refine held_step (k := 7) rfl (by kernel_rfl) ?_
    go_wp2_with fail
    refine (mix_any B1 B2 d1 d2 _ _ how K w3 (hs1.ext hE2) hs2 (piecesOf_length _ _ _ _) (piecesOf_length _ _ _ _) (fun p hp => piecesOf_bd hp) (fun p hp => piecesOf_bd hp) HEG.out HIN.out).mono ?_
    rintro e w4 ⟨B3, d3, xs, hperm, hsort, rfl, hs3, hE3⟩
    rw [mix_pieces hperm hsort] at hs3 ⊢
    have hE3' : Ext W1 w4 := hE2'.trans hE3
    go_wp2_with fail
    refine ⟨⟨⟨w4, hE3'⟩, rfl⟩, ?_⟩
    refine held_take [8] _ _ 0 rfl (by kernel_rfl) rfl (by kernel_rfl) ⟨⟨w4, hE3'⟩, rfl⟩ ?_
    simp only [List.filterMap_cons, List.filterMap_nil, List.getElem?_toArray, List.getElem?_cons_succ, List.getElem?_cons_zero]
    repeat (quiet_step (fail))
    refine wpQuiet_nil ?_
    refine held_done (by kernel_rfl) ?_
    obtain ⟨M, hM⟩ : ∃ M, piecesOf how a b y0 = M := ⟨_, rfl⟩
    have hMn : M.length ≤ 1048576 := by rw [← hM]; exact piecesOf_length2 _ _ _ _
    have HMB : Hid (∀ p ∈ M, -1048576 ≤ p.1 ∧ p.1 < p.2 ∧ p.2 ≤ 1048576) := Lib.hid (fun p hp => piecesOf_bd (hM ▸ hp))
    have hlm := HINV.out.last
    rw [hM] at hs3
    simp only [hM]
    have HM := Lib.hid hM
    have hO4 := HOO.out.keep hE3'
    have HO4 := Lib.hid hO4
    have HS3 := Lib.hid hs3
    have hle := HINV.out.le
    have hOl : st.O.length ≤ 2199023255552 := by
      have h1 := HINV.out.many
      have h2 : pre.length * 1048576 ≤ 2097152 * 1048576 := Nat.mul_le_mul_right _ (by omega)
      omega
    obtain ⟨c3, f3⟩ := blk_rules hO4.kout
    obtain ⟨c4, f4⟩ := blk_rules hO4.klast
    obtain ⟨c5, f5⟩ := blk_rules hO4.kend
    obtain ⟨c6, f6⟩ := blk_rules hO4.kn
    clear hM hs1 hs2 hs3 hE1 hE2 hE3 hE1' hE2' hO4 j0 j1 j2 hperm hsort haw hbw
    rcases Nat.eq_zero_or_pos M.length with hM0 | hMp
    · have HNS : Hid (¬ (M ≠ [] ∧ st.last ≠ [] ∧ st.E = y0 ∧ M = st.last)) := Lib.hid (fun h => h.1 (List.eq_nil_of_length_eq_zero hM0))
      have t1 : decide (0 < M.length) = false := by rw [hM0]; rfl
      clear hM0
      gi_wp2
      refine ⟨trivial, ?_⟩
      gi_wp2
      gi_loopw [72] (fun kv wr => ∃ (k : Nat) (B5 : Option Addr) (d5 : Nat), k ≤ M.length ∧ kv = .int .i64 k ∧ OfAt w wr w.heap.size w1.heap.size aA bA a.length b.length ca cb K ⟨st.O ++ (M.take k).map (pieceRect y0 y1), st.last, st.E⟩ B5 LA d5 lc ∧ SpansB wr B3 M ∧ KeepsOthers W1 wr ∧ KeptP (fun k => w.heap.size + 8 ≤ k ∧ k < w1.heap.size) W1 wr) (fun kv _ => M.length - (intOf kv).toNat)
      case atStart => exact ⟨0, B, d, Nat.zero_le _, rfl, by simpa using HO4.out, HS3.out, KeepsOthers.of_ext hE3', KeptP.of_ext hE3'⟩
      case round =>
        obtain ⟨k, B5, d5, hk, rfl, hO5, hs5, hko, hkp⟩ := hrel
        obtain ⟨L, hL⟩ : ∃ L, st.O ++ (M.take k).map (pieceRect y0 y1) = L := ⟨_, rfl⟩
        rw [hL] at hO5
        have hLn : L.length ≤ 2199023255552 + 1048576 := by
          rw [← hL, List.length_append, List.length_map, List.length_take]
          have h1 := HINV.out.many
          have h2 : pre.length * 1048576 ≤ 2097152 * 1048576 := Nat.mul_le_mul_right _ (by omega)
          omega
        have HL := Lib.hid hL
        have HO5 := Lib.hid hO5
        have HS5 := Lib.hid hs5
        obtain ⟨c7, f7⟩ := blk_rules hO5.kout
        have hO5own := hO5.own
        have hsz5 := hO5.size
        have hz3 : w.heap.size + 1 + 1 + 1 < wr.heap.size := blk_lt hO5.kout
        have HOW5 := Lib.hid hO5own
        clear hL hO5own
        by_cases hlt : k < M.length
        · obtain ⟨gb, go, rfl, hc⟩ := (SpansB.at HS5.out).form (by omega)
          obtain ⟨h0, h1⟩ := hc k M[k] (List.getElem?_eq_getElem hlt)
          have hpb := HMB.out M[k] (List.getElem_mem hlt)
          have ht := List.take_succ_eq_append_getElem hlt
          have hs6 : st.O ++ (M.take (k + 1)).map (pieceRect y0 y1) = L ++ [pieceRect y0 y1 M[k]] := by rw [ht, List.map_append, ← List.append_assoc, HL.out]; rfl
          clear hc ht
          generalize M[k] = p at *
          have HS6 := Lib.hid hs6
          have q1 : IntKind.i64.wrap (p.2 - p.1) = p.2 - p.1 := IntWalk.i64_in _ (by omega)
          have q2 : IntKind.i64.wrap (y1 - y0) = y1 - y0 := IntWalk.i64_in _ (by omega)
          clear hs6 hO5 hs5
          gi_wp2_with (first
            | (refine wpListIn_app w1.heap.size rfl (.tmp 76) (.tmp 89) 22 26 (.agg #[.int .i64 0, .int .i64 0, .int .i64 0, .int .i64 0]) 4 32 rfl Try.underlying22 info_rect rfl (by decide) (by decide) (.slice B5 L.length d5) L.length (rcells L) rfl (World.ownsRow.alloc (World.ownsRow.alloc HOW5.out _) _) (some ⟨wr.heap.size + 1, 0, none⟩) 1 1 (rcell (pieceRect y0 y1 p)) rfl (fun h => by cases h) rfl (fun _ => ⟨_, rfl, World.news_of_block (blk_new1 wr _ _)⟩) (by simp [rcell, Value.oneCell']) (by omega) (Nat.le_trans hsz5 (by simp; omega)) (fun v' w5 hr5 hg5 => ?_); obtain ⟨B6, d6, rfl⟩ := row_slice hr5; obtain ⟨c8, f8⟩ := blk_rules ((hg5.block _ (Nat.lt_of_lt_of_le (blk_lt HO5.out.kout) (by simp; omega)) (fun e => by have := (World.ownsRow.lt HOW5.out _ e.symm).1; omega)).trans (blk_old (blk_old HO5.out.kout _) _))))
          have hr6 : OwnR w5 w1.heap.size (.slice B6 (L ++ [pieceRect y0 y1 p]).length d6) (L ++ [pieceRect y0 y1 p]) := by
            unfold OwnR
            rw [List.length_append, rcells_snoc]
            exact hr5
          have hO6 := HO5.out.row (((Ext.refl wr).alloc _).alloc _) hg5 hr6
          have hpo : ∀ r, (Value.slice B5 L.length d5).ownBlock = some r → ¬ (w.heap.size + 8 ≤ r ∧ r < w1.heap.size) := fun r e h => by
            have := (World.ownsRow.lt HOW5.out r e).1
            omega
          have hs6 : SpansB (w5.setCell ⟨w.heap.size + 1 + 1 + 1, 0, none⟩ (.slice B6 (L.length + 1) d6)) (some ⟨gb, go, none⟩) M := HS5.out.keep (fun g cur hc => by
            have hc2 := blk_old (blk_old hc (.cells #[.int .i64 p.1, .int .i64 p.2] 133)) (.cells #[.int .i64 p.1, .int .i64 y0, .int .i64 (p.2 - p.1), .int .i64 (y1 - y0)] 26)
            have hne1 : some g ≠ (Value.slice B5 L.length d5).ownBlock := fun e => by
              rcases HOW5.out.2 with ⟨h3, _⟩ | ⟨g', cap, cur', e1, _, e3, _⟩
              · rw [h3] at e; simp [Value.ownBlock] at e
              · rw [e1] at e
                simp only [Value.ownBlock] at e
                injection e with e
                subst e
                have := hc.symm.trans e3
                injection this with this
                injection this with _ e2 _
                cases e2
            refine blk_set_ne ((hg5.block g (blk_lt hc2) hne1).trans hc2) (fun e => ?_) _ _
            subst e
            have := hc.symm.trans HO5.out.kout
            injection this with this
            injection this with _ e2 _
            cases e2)
          have hk6 : KeptP (fun k => w.heap.size + 8 ≤ k ∧ k < w1.heap.size) W1 (w5.setCell ⟨w.heap.size + 1 + 1 + 1, 0, none⟩ (.slice B6 (L.length + 1) d6)) := ((hkp.trans (KeptP.of_ext (((Ext.refl wr).alloc _).alloc _))).trans (KeptP.of_grown hg5 hpo)).trans (KeptP.set (by omega) _ _)
          have hk7 : KeepsOthers W1 (w5.setCell ⟨w.heap.size + 1 + 1 + 1, 0, none⟩ (.slice B6 (L.length + 1) d6)) := ((hko.trans (KeepsOthers.of_ext (((Ext.refl wr).alloc _).alloc _))).trans (KeepsOthers.of_grownBy hg5 (row_cells (World.ownsRow.alloc (World.ownsRow.alloc HOW5.out _) _)))).trans (KeepsOthers.setCell _ _ _)
          rw [List.length_append] at hO6
          exact ⟨⟨k + 1, B6, d6, by omega, by go_num, by rw [HS6.out]; exact hO6, hs6, hk7, hk6⟩, by simp [intOf]; omega⟩
        · obtain rfl : k = M.length := by omega
          have HF : Hid (L = st.O ++ M.map (pieceRect y0 y1)) := by
            have := HL.out
            rw [List.take_length] at this
            exact Lib.hid this.symm
          obtain ⟨c8, f8⟩ := blk_rules hO5.klast
          obtain ⟨c9, f9⟩ := blk_rules hO5.kend
          obtain ⟨c10, f10⟩ := blk_rules hO5.kn
          have hO6 := HO5.out.setAll (nc := d3) HS5.out y1
          have HO6 := Lib.hid hO6
          clear hO6 hO5 hlt HL
          gi_wp2
          have hpn : ∀ j, j < w.heap.size + 8 → ¬ (w.heap.size + 8 ≤ j ∧ j < w1.heap.size) := fun j h1 h2 => by omega
          refine ⟨((hko.trans (KeepsOthers.setCell _ _ _)).trans (KeepsOthers.setCell _ _ _)).trans (KeepsOthers.setCell _ _ _), ((hkp.trans (KeptP.set (hpn _ (by omega)) _ _)).trans (KeptP.set (hpn _ (by omega)) _ _)).trans (KeptP.set (hpn _ (by omega)) _ _), B5, B3, d5, d3, ?_⟩
          rw [HSTEP.out, show ofStep how a b ys st i.val = ⟨st.O ++ M.map (pieceRect y0 y1), M, y1⟩ by unfold ofStep; rw [HY0.out, HY1.out, HM.out, if_neg (by unfold ofSame; rw [HM.out]; exact HNS.out)], ← HF.out]
          exact HO6.out
    · rcases Nat.eq_zero_or_pos st.last.length with hl0 | hlp
      · have HNS : Hid (¬ (M ≠ [] ∧ st.last ≠ [] ∧ st.E = y0 ∧ M = st.last)) := Lib.hid (fun h => h.2.1 (List.eq_nil_of_length_eq_zero hl0))
        have t1 : decide (0 < M.length) = true := by rw [decide_eq_true_eq]; exact hMp
        have t2 : decide (0 < st.last.length) = false := by rw [hl0]; rfl
        clear hl0
        gi_wp2
        refine ⟨trivial, ?_⟩
        gi_wp2
        gi_loopw [72] (fun kv wr => ∃ (k : Nat) (B5 : Option Addr) (d5 : Nat), k ≤ M.length ∧ kv = .int .i64 k ∧ OfAt w wr w.heap.size w1.heap.size aA bA a.length b.length ca cb K ⟨st.O ++ (M.take k).map (pieceRect y0 y1), st.last, st.E⟩ B5 LA d5 lc ∧ SpansB wr B3 M ∧ KeepsOthers W1 wr ∧ KeptP (fun k => w.heap.size + 8 ≤ k ∧ k < w1.heap.size) W1 wr) (fun kv _ => M.length - (intOf kv).toNat)
        case atStart => exact ⟨0, B, d, Nat.zero_le _, rfl, by simpa using HO4.out, HS3.out, KeepsOthers.of_ext hE3', KeptP.of_ext hE3'⟩
        case round =>
          obtain ⟨k, B5, d5, hk, rfl, hO5, hs5, hko, hkp⟩ := hrel
          obtain ⟨L, hL⟩ : ∃ L, st.O ++ (M.take k).map (pieceRect y0 y1) = L := ⟨_, rfl⟩
          rw [hL] at hO5
          have hLn : L.length ≤ 2199023255552 + 1048576 := by
            rw [← hL, List.length_append, List.length_map, List.length_take]
            have h1 := HINV.out.many
            have h2 : pre.length * 1048576 ≤ 2097152 * 1048576 := Nat.mul_le_mul_right _ (by omega)
            omega
          have HL := Lib.hid hL
          have HO5 := Lib.hid hO5
          have HS5 := Lib.hid hs5
          obtain ⟨c7, f7⟩ := blk_rules hO5.kout
          have hO5own := hO5.own
          have hsz5 := hO5.size
          have hz3 : w.heap.size + 1 + 1 + 1 < wr.heap.size := blk_lt hO5.kout
          have HOW5 := Lib.hid hO5own
          clear hL hO5own
          by_cases hlt : k < M.length
          · obtain ⟨gb, go, rfl, hc⟩ := (SpansB.at HS5.out).form (by omega)
            obtain ⟨h0, h1⟩ := hc k M[k] (List.getElem?_eq_getElem hlt)
            have hpb := HMB.out M[k] (List.getElem_mem hlt)
            have ht := List.take_succ_eq_append_getElem hlt
            have hs6 : st.O ++ (M.take (k + 1)).map (pieceRect y0 y1) = L ++ [pieceRect y0 y1 M[k]] := by rw [ht, List.map_append, ← List.append_assoc, HL.out]; rfl
            clear hc ht
            generalize M[k] = p at *
            have HS6 := Lib.hid hs6
            have q1 : IntKind.i64.wrap (p.2 - p.1) = p.2 - p.1 := IntWalk.i64_in _ (by omega)
            have q2 : IntKind.i64.wrap (y1 - y0) = y1 - y0 := IntWalk.i64_in _ (by omega)
            clear hs6 hO5 hs5
            gi_wp2_with (first
              | (refine wpListIn_app w1.heap.size rfl (.tmp 76) (.tmp 89) 22 26 (.agg #[.int .i64 0, .int .i64 0, .int .i64 0, .int .i64 0]) 4 32 rfl Try.underlying22 info_rect rfl (by decide) (by decide) (.slice B5 L.length d5) L.length (rcells L) rfl (World.ownsRow.alloc (World.ownsRow.alloc HOW5.out _) _) (some ⟨wr.heap.size + 1, 0, none⟩) 1 1 (rcell (pieceRect y0 y1 p)) rfl (fun h => by cases h) rfl (fun _ => ⟨_, rfl, World.news_of_block (blk_new1 wr _ _)⟩) (by simp [rcell, Value.oneCell']) (by omega) (Nat.le_trans hsz5 (by simp; omega)) (fun v' w5 hr5 hg5 => ?_); obtain ⟨B6, d6, rfl⟩ := row_slice hr5; obtain ⟨c8, f8⟩ := blk_rules ((hg5.block _ (Nat.lt_of_lt_of_le (blk_lt HO5.out.kout) (by simp; omega)) (fun e => by have := (World.ownsRow.lt HOW5.out _ e.symm).1; omega)).trans (blk_old (blk_old HO5.out.kout _) _))))
            have hr6 : OwnR w5 w1.heap.size (.slice B6 (L ++ [pieceRect y0 y1 p]).length d6) (L ++ [pieceRect y0 y1 p]) := by
              unfold OwnR
              rw [List.length_append, rcells_snoc]
              exact hr5
            have hO6 := HO5.out.row (((Ext.refl wr).alloc _).alloc _) hg5 hr6
            have hpo : ∀ r, (Value.slice B5 L.length d5).ownBlock = some r → ¬ (w.heap.size + 8 ≤ r ∧ r < w1.heap.size) := fun r e h => by
              have := (World.ownsRow.lt HOW5.out r e).1
              omega
            have hs6 : SpansB (w5.setCell ⟨w.heap.size + 1 + 1 + 1, 0, none⟩ (.slice B6 (L.length + 1) d6)) (some ⟨gb, go, none⟩) M := HS5.out.keep (fun g cur hc => by
              have hc2 := blk_old (blk_old hc (.cells #[.int .i64 p.1, .int .i64 p.2] 133)) (.cells #[.int .i64 p.1, .int .i64 y0, .int .i64 (p.2 - p.1), .int .i64 (y1 - y0)] 26)
              have hne1 : some g ≠ (Value.slice B5 L.length d5).ownBlock := fun e => by
                rcases HOW5.out.2 with ⟨h3, _⟩ | ⟨g', cap, cur', e1, _, e3, _⟩
                · rw [h3] at e; simp [Value.ownBlock] at e
                · rw [e1] at e
                  simp only [Value.ownBlock] at e
                  injection e with e
                  subst e
                  have := hc.symm.trans e3
                  injection this with this
                  injection this with _ e2 _
                  cases e2
              refine blk_set_ne ((hg5.block g (blk_lt hc2) hne1).trans hc2) (fun e => ?_) _ _
              subst e
              have := hc.symm.trans HO5.out.kout
              injection this with this
              injection this with _ e2 _
              cases e2)
            have hk6 : KeptP (fun k => w.heap.size + 8 ≤ k ∧ k < w1.heap.size) W1 (w5.setCell ⟨w.heap.size + 1 + 1 + 1, 0, none⟩ (.slice B6 (L.length + 1) d6)) := ((hkp.trans (KeptP.of_ext (((Ext.refl wr).alloc _).alloc _))).trans (KeptP.of_grown hg5 hpo)).trans (KeptP.set (by omega) _ _)
            have hk7 : KeepsOthers W1 (w5.setCell ⟨w.heap.size + 1 + 1 + 1, 0, none⟩ (.slice B6 (L.length + 1) d6)) := ((hko.trans (KeepsOthers.of_ext (((Ext.refl wr).alloc _).alloc _))).trans (KeepsOthers.of_grownBy hg5 (row_cells (World.ownsRow.alloc (World.ownsRow.alloc HOW5.out _) _)))).trans (KeepsOthers.setCell _ _ _)
            rw [List.length_append] at hO6
            exact ⟨⟨k + 1, B6, d6, by omega, by go_num, by rw [HS6.out]; exact hO6, hs6, hk7, hk6⟩, by simp [intOf]; omega⟩
          · obtain rfl : k = M.length := by omega
            have HF : Hid (L = st.O ++ M.map (pieceRect y0 y1)) := by
              have := HL.out
              rw [List.take_length] at this
              exact Lib.hid this.symm
            obtain ⟨c8, f8⟩ := blk_rules hO5.klast
            obtain ⟨c9, f9⟩ := blk_rules hO5.kend
            obtain ⟨c10, f10⟩ := blk_rules hO5.kn
            have hO6 := HO5.out.setAll (nc := d3) HS5.out y1
            have HO6 := Lib.hid hO6
            clear hO6 hO5 hlt HL
            gi_wp2
            have hpn : ∀ j, j < w.heap.size + 8 → ¬ (w.heap.size + 8 ≤ j ∧ j < w1.heap.size) := fun j h1 h2 => by omega
            refine ⟨((hko.trans (KeepsOthers.setCell _ _ _)).trans (KeepsOthers.setCell _ _ _)).trans (KeepsOthers.setCell _ _ _), ((hkp.trans (KeptP.set (hpn _ (by omega)) _ _)).trans (KeptP.set (hpn _ (by omega)) _ _)).trans (KeptP.set (hpn _ (by omega)) _ _), B5, B3, d5, d3, ?_⟩
            rw [HSTEP.out, show ofStep how a b ys st i.val = ⟨st.O ++ M.map (pieceRect y0 y1), M, y1⟩ by unfold ofStep; rw [HY0.out, HY1.out, HM.out, if_neg (by unfold ofSame; rw [HM.out]; exact HNS.out)], ← HF.out]
            exact HO6.out
      · have t1 : decide (0 < M.length) = true := by rw [decide_eq_true_eq]; exact hMp
        have t2 : decide (0 < st.last.length) = true := by rw [decide_eq_true_eq]; exact hlp
        by_cases hEy : st.E = y0
        · have t3 : (st.E == y0) = true := by simpa using hEy
          have hcon := sequalS_any B3 LA d3 lc M st.last w4 (SpansB.at HS3.out) (SpansB.at HO4.out.spans) (by omega) (by omega)
          cases hv : eqS M st.last
          · have HNS : Hid (¬ (M ≠ [] ∧ st.last ≠ [] ∧ st.E = y0 ∧ M = st.last)) := Lib.hid (fun h => by
              have : eqS M st.last = true := by simp [eqS, h.2.2.2]
              rw [this] at hv
              cases hv)
            rw [hv] at hcon
            clear hv hEy
            gi_wp2
            refine ⟨trivial, (calls_in l hcon).mono ?_⟩
            rintro e w5 ⟨rfl, hE5⟩
            have hO5 := HO4.out.keep hE5
            have hE5' := hE3'.trans hE5
            have HOV := Lib.hid hO5
            have HSV := Lib.hid (HS3.out.ext hE5)
            clear c3 c4 c5 c6 f3 f4 f5 f6 hcon
            obtain ⟨c3, f3⟩ := blk_rules hO5.kout
            clear hO5
            gi_wp2
            gi_loopw [72] (fun kv wr => ∃ (k : Nat) (B5 : Option Addr) (d5 : Nat), k ≤ M.length ∧ kv = .int .i64 k ∧ OfAt w wr w.heap.size w1.heap.size aA bA a.length b.length ca cb K ⟨st.O ++ (M.take k).map (pieceRect y0 y1), st.last, st.E⟩ B5 LA d5 lc ∧ SpansB wr B3 M ∧ KeepsOthers W1 wr ∧ KeptP (fun k => w.heap.size + 8 ≤ k ∧ k < w1.heap.size) W1 wr) (fun kv _ => M.length - (intOf kv).toNat)
            case atStart => exact ⟨0, B, d, Nat.zero_le _, rfl, by simpa using HOV.out, HSV.out, KeepsOthers.of_ext hE5', KeptP.of_ext hE5'⟩
            case round =>
              obtain ⟨k, B5, d5, hk, rfl, hO5, hs5, hko, hkp⟩ := hrel
              obtain ⟨L, hL⟩ : ∃ L, st.O ++ (M.take k).map (pieceRect y0 y1) = L := ⟨_, rfl⟩
              rw [hL] at hO5
              have hLn : L.length ≤ 2199023255552 + 1048576 := by
                rw [← hL, List.length_append, List.length_map, List.length_take]
                have h1 := HINV.out.many
                have h2 : pre.length * 1048576 ≤ 2097152 * 1048576 := Nat.mul_le_mul_right _ (by omega)
                omega
              have HL := Lib.hid hL
              have HO5 := Lib.hid hO5
              have HS5 := Lib.hid hs5
              obtain ⟨c7, f7⟩ := blk_rules hO5.kout
              have hO5own := hO5.own
              have hsz5 := hO5.size
              have hz3 : w.heap.size + 1 + 1 + 1 < wr.heap.size := blk_lt hO5.kout
              have HOW5 := Lib.hid hO5own
              clear hL hO5own
              by_cases hlt : k < M.length
              · obtain ⟨gb, go, rfl, hc⟩ := (SpansB.at HS5.out).form (by omega)
                obtain ⟨h0, h1⟩ := hc k M[k] (List.getElem?_eq_getElem hlt)
                have hpb := HMB.out M[k] (List.getElem_mem hlt)
                have ht := List.take_succ_eq_append_getElem hlt
                have hs6 : st.O ++ (M.take (k + 1)).map (pieceRect y0 y1) = L ++ [pieceRect y0 y1 M[k]] := by rw [ht, List.map_append, ← List.append_assoc, HL.out]; rfl
                clear hc ht
                generalize M[k] = p at *
                have HS6 := Lib.hid hs6
                have q1 : IntKind.i64.wrap (p.2 - p.1) = p.2 - p.1 := IntWalk.i64_in _ (by omega)
                have q2 : IntKind.i64.wrap (y1 - y0) = y1 - y0 := IntWalk.i64_in _ (by omega)
                clear hs6 hO5 hs5
                gi_wp2_with (first
                  | (refine wpListIn_app w1.heap.size rfl (.tmp 76) (.tmp 89) 22 26 (.agg #[.int .i64 0, .int .i64 0, .int .i64 0, .int .i64 0]) 4 32 rfl Try.underlying22 info_rect rfl (by decide) (by decide) (.slice B5 L.length d5) L.length (rcells L) rfl (World.ownsRow.alloc (World.ownsRow.alloc HOW5.out _) _) (some ⟨wr.heap.size + 1, 0, none⟩) 1 1 (rcell (pieceRect y0 y1 p)) rfl (fun h => by cases h) rfl (fun _ => ⟨_, rfl, World.news_of_block (blk_new1 wr _ _)⟩) (by simp [rcell, Value.oneCell']) (by omega) (Nat.le_trans hsz5 (by simp; omega)) (fun v' w5 hr5 hg5 => ?_); obtain ⟨B6, d6, rfl⟩ := row_slice hr5; obtain ⟨c8, f8⟩ := blk_rules ((hg5.block _ (Nat.lt_of_lt_of_le (blk_lt HO5.out.kout) (by simp; omega)) (fun e => by have := (World.ownsRow.lt HOW5.out _ e.symm).1; omega)).trans (blk_old (blk_old HO5.out.kout _) _))))
                have hr6 : OwnR w5 w1.heap.size (.slice B6 (L ++ [pieceRect y0 y1 p]).length d6) (L ++ [pieceRect y0 y1 p]) := by
                  unfold OwnR
                  rw [List.length_append, rcells_snoc]
                  exact hr5
                have hO6 := HO5.out.row (((Ext.refl wr).alloc _).alloc _) hg5 hr6
                have hpo : ∀ r, (Value.slice B5 L.length d5).ownBlock = some r → ¬ (w.heap.size + 8 ≤ r ∧ r < w1.heap.size) := fun r e h => by
                  have := (World.ownsRow.lt HOW5.out r e).1
                  omega
                have hs6 : SpansB (w5.setCell ⟨w.heap.size + 1 + 1 + 1, 0, none⟩ (.slice B6 (L.length + 1) d6)) (some ⟨gb, go, none⟩) M := HS5.out.keep (fun g cur hc => by
                  have hc2 := blk_old (blk_old hc (.cells #[.int .i64 p.1, .int .i64 p.2] 133)) (.cells #[.int .i64 p.1, .int .i64 y0, .int .i64 (p.2 - p.1), .int .i64 (y1 - y0)] 26)
                  have hne1 : some g ≠ (Value.slice B5 L.length d5).ownBlock := fun e => by
                    rcases HOW5.out.2 with ⟨h3, _⟩ | ⟨g', cap, cur', e1, _, e3, _⟩
                    · rw [h3] at e; simp [Value.ownBlock] at e
                    · rw [e1] at e
                      simp only [Value.ownBlock] at e
                      injection e with e
                      subst e
                      have := hc.symm.trans e3
                      injection this with this
                      injection this with _ e2 _
                      cases e2
                  refine blk_set_ne ((hg5.block g (blk_lt hc2) hne1).trans hc2) (fun e => ?_) _ _
                  subst e
                  have := hc.symm.trans HO5.out.kout
                  injection this with this
                  injection this with _ e2 _
                  cases e2)
                have hk6 : KeptP (fun k => w.heap.size + 8 ≤ k ∧ k < w1.heap.size) W1 (w5.setCell ⟨w.heap.size + 1 + 1 + 1, 0, none⟩ (.slice B6 (L.length + 1) d6)) := ((hkp.trans (KeptP.of_ext (((Ext.refl wr).alloc _).alloc _))).trans (KeptP.of_grown hg5 hpo)).trans (KeptP.set (by omega) _ _)
                have hk7 : KeepsOthers W1 (w5.setCell ⟨w.heap.size + 1 + 1 + 1, 0, none⟩ (.slice B6 (L.length + 1) d6)) := ((hko.trans (KeepsOthers.of_ext (((Ext.refl wr).alloc _).alloc _))).trans (KeepsOthers.of_grownBy hg5 (row_cells (World.ownsRow.alloc (World.ownsRow.alloc HOW5.out _) _)))).trans (KeepsOthers.setCell _ _ _)
                rw [List.length_append] at hO6
                exact ⟨⟨k + 1, B6, d6, by omega, by go_num, by rw [HS6.out]; exact hO6, hs6, hk7, hk6⟩, by simp [intOf]; omega⟩
              · obtain rfl : k = M.length := by omega
                have HF : Hid (L = st.O ++ M.map (pieceRect y0 y1)) := by
                  have := HL.out
                  rw [List.take_length] at this
                  exact Lib.hid this.symm
                obtain ⟨c8, f8⟩ := blk_rules hO5.klast
                obtain ⟨c9, f9⟩ := blk_rules hO5.kend
                obtain ⟨c10, f10⟩ := blk_rules hO5.kn
                have hO6 := HO5.out.setAll (nc := d3) HS5.out y1
                have HO6 := Lib.hid hO6
                clear hO6 hO5 hlt HL
                gi_wp2
                have hpn : ∀ j, j < w.heap.size + 8 → ¬ (w.heap.size + 8 ≤ j ∧ j < w1.heap.size) := fun j h1 h2 => by omega
                refine ⟨((hko.trans (KeepsOthers.setCell _ _ _)).trans (KeepsOthers.setCell _ _ _)).trans (KeepsOthers.setCell _ _ _), ((hkp.trans (KeptP.set (hpn _ (by omega)) _ _)).trans (KeptP.set (hpn _ (by omega)) _ _)).trans (KeptP.set (hpn _ (by omega)) _ _), B5, B3, d5, d3, ?_⟩
                rw [HSTEP.out, show ofStep how a b ys st i.val = ⟨st.O ++ M.map (pieceRect y0 y1), M, y1⟩ by unfold ofStep; rw [HY0.out, HY1.out, HM.out, if_neg (by unfold ofSame; rw [HM.out]; exact HNS.out)], ← HF.out]
                exact HO6.out
          · have hML : M = st.last := by simpa [eqS] using hv
            have hq : ∃ q, st.O.length = q + st.last.length := ⟨st.O.length - st.last.length, by omega⟩
            obtain ⟨q, hq⟩ := hq
            rw [hv] at hcon
            have HQ := Lib.hid hq
            have HML := Lib.hid hML
            have HEY := Lib.hid hEy
            have q1 : IntKind.i64.wrap ((st.O.length : Int) - (st.last.length : Int)) = q := by rw [show (st.O.length : Int) - (st.last.length : Int) = q by omega]; exact IntWalk.i64_in _ (by omega)
            have q2 : IntKind.i64.wrap (y1 - y0) = y1 - y0 := IntWalk.i64_in _ (by omega)
            clear hv hEy hq hML
            gi_wp2
            refine ⟨trivial, (calls_in l hcon).mono ?_⟩
            rintro e w5 ⟨rfl, hE5⟩
            have hO5 := HO4.out.keep hE5
            have hE5' := hE3'.trans hE5
            have HOV := Lib.hid hO5
            clear c3 c4 c5 c6 f3 f4 f5 f6 hcon
            obtain ⟨c3, f3⟩ := blk_rules hO5.kout
            obtain ⟨c6, f6⟩ := blk_rules hO5.kn
            clear hO5
            gi_wp2
            clear c3 c6 f3 f6
            gi_loopw [14] (fun jv wr => ∃ k : Nat, k ≤ st.last.length ∧ jv = .int .i64 (q + k : Nat) ∧ OfAt w wr w.heap.size w1.heap.size aA bA a.length b.length ca cb K ⟨stretchTo st.O q k (y1 - y0), st.last, st.E⟩ B LA d lc ∧ KeepsOthers W1 wr ∧ KeptP (fun k => w.heap.size + 8 ≤ k ∧ k < w1.heap.size) W1 wr) (fun jv _ => q + st.last.length - (intOf jv).toNat)
            case atStart => exact ⟨0, Nat.zero_le _, rfl, by rw [stretchTo_zero]; exact HOV.out, KeepsOthers.of_ext hE5', KeptP.of_ext hE5'⟩
            case round =>
              obtain ⟨k, hk, rfl, hO5, hko, hkp⟩ := hrel
              have kout := hO5.kout
              have kend := hO5.kend
              have hown := hO5.own
              dsimp only at kout kend hown
              unfold OwnR at hown
              rw [stretchTo_length] at kout hown
              have HO5 := Lib.hid hO5
              have HOW5 := Lib.hid hown
              obtain ⟨c3, f3⟩ := blk_rules kout
              obtain ⟨c5, f5⟩ := blk_rules kend
              clear hO5 kout kend
              by_cases hlt : k < st.last.length
              · obtain ⟨g, rfl, hgb⟩ := row_form hown (by omega)
                obtain ⟨r, hr⟩ : ∃ r, st.O[q + k]? = some r := ⟨st.O[q + k]'(by have := HQ.out; omega), List.getElem?_eq_getElem _⟩
                have hr2 := stretchTo_at (dh := y1 - y0) hr
                have hc := (World.ownsRow.cellAt hown ((q + k) * 4 + 3) (by have := HQ.out; omega)).trans (rcells_get hr2 3 (by decide))
                simp only [rcell, List.getElem?_cons_zero, List.getElem?_cons_succ] at hc
                have hfr := World.ownsRow.frozenAt hown
                have hen := HINV.out.ends r (by
                  rw [show st.O.length - st.last.length = q by have := HQ.out; omega]
                  exact List.mem_of_getElem? (i := k) (by rw [List.getElem?_drop]; exact hr))
                rw [HEY.out] at hen
                obtain ⟨en1, en2, en3⟩ := hen
                have hst := (World.ownsRow.stored hown ((q + k) * 4 + 3) (.int .i64 (r.h + (y1 - y0)))).1
                rw [rcells_seth _ hr2, stretchTo_succ hr] at hst
                have hO6 := HO5.out.cell (j := (q + k) * 4 + 3) (u := .int .i64 (r.h + (y1 - y0))) (O5 := stretchTo st.O q (k + 1) (y1 - y0)) rfl (by dsimp only; rw [stretchTo_length, stretchTo_length]) (by
                  unfold OwnR
                  rw [stretchTo_length]
                  exact hst)
                have HO6 := Lib.hid hO6
                have r1 : IntKind.i64.wrap (r.h + (y1 - y0)) = r.h + (y1 - y0) := IntWalk.i64_in _ (by omega)
                have r2 : (0 : Int) ≤ (q : Int) + (k : Int) := by omega
                have r3 : (q : Int) + (k : Int) < (st.O.length : Int) := by have := HQ.out; omega
                have r4 : ((q : Int) + (k : Int)).toNat = q + k := by omega
                have r5 : IntKind.i64.wrap ((q : Int) + (k : Int)) = (q : Int) + (k : Int) := IntWalk.i64_in _ (by omega)
                have hpo : ¬ (w.heap.size + 8 ≤ g ∧ g < w1.heap.size) := fun h => by omega
                clear hr hr2 hst hO6 hown
                gi_wp2
                exact ⟨⟨k + 1, by omega, by go_num, HO6.out, hko.trans (KeepsOthers.setCell _ _ _), hkp.trans (KeptP.set hpo _ _)⟩, by simp [intOf]; omega⟩
              · obtain rfl : k = st.last.length := by omega
                have r3 : ¬ ((q : Int) + (st.last.length : Int) < (st.O.length : Int)) := by have := HQ.out; omega
                have r6 : decide ((q : Int) + (st.last.length : Int) < (st.O.length : Int)) = false := by simpa using r3
                clear hown hlt
                gi_wp2
                have hpn : ∀ j, j < w.heap.size + 8 → ¬ (w.heap.size + 8 ≤ j ∧ j < w1.heap.size) := fun j h1 h2 => by omega
                refine ⟨hko.trans (KeepsOthers.setCell _ _ _), hkp.trans (KeptP.set (hpn _ (by omega)) _ _), B, LA, d, lc, ?_⟩
                have hML := HML.out
                have hne : M ≠ [] := fun e => by rw [e] at hMp; simp at hMp
                rw [HSTEP.out, show ofStep how a b ys st i.val = ⟨stretch st.O M.length (y1 - y0), M, y1⟩ by unfold ofStep; rw [HY0.out, HY1.out, HM.out, if_pos (by unfold ofSame; rw [HM.out]; exact ⟨hne, fun e => hne (hML.trans e), HEY.out, hML⟩)]]
                have hO6 := HO5.out.setEnd y1
                dsimp only at hO6
                rw [show q = st.O.length - st.last.length by have := HQ.out; omega, stretchTo_all _ _ _ (by have := HQ.out; omega)] at hO6
                rw [hML]
                exact hO6
        · have HNS : Hid (¬ (M ≠ [] ∧ st.last ≠ [] ∧ st.E = y0 ∧ M = st.last)) := Lib.hid (fun h => hEy h.2.2.1)
          have t3 : (st.E == y0) = false := by simpa using hEy
          clear hEy
          gi_wp2
          refine ⟨trivial, ?_⟩
          gi_wp2
          gi_loopw [72] (fun kv wr => ∃ (k : Nat) (B5 : Option Addr) (d5 : Nat), k ≤ M.length ∧ kv = .int .i64 k ∧ OfAt w wr w.heap.size w1.heap.size aA bA a.length b.length ca cb K ⟨st.O ++ (M.take k).map (pieceRect y0 y1), st.last, st.E⟩ B5 LA d5 lc ∧ SpansB wr B3 M ∧ KeepsOthers W1 wr ∧ KeptP (fun k => w.heap.size + 8 ≤ k ∧ k < w1.heap.size) W1 wr) (fun kv _ => M.length - (intOf kv).toNat)
          case atStart => exact ⟨0, B, d, Nat.zero_le _, rfl, by simpa using HO4.out, HS3.out, KeepsOthers.of_ext hE3', KeptP.of_ext hE3'⟩
          case round =>
            obtain ⟨k, B5, d5, hk, rfl, hO5, hs5, hko, hkp⟩ := hrel
            obtain ⟨L, hL⟩ : ∃ L, st.O ++ (M.take k).map (pieceRect y0 y1) = L := ⟨_, rfl⟩
            rw [hL] at hO5
            have hLn : L.length ≤ 2199023255552 + 1048576 := by
              rw [← hL, List.length_append, List.length_map, List.length_take]
              have h1 := HINV.out.many
              have h2 : pre.length * 1048576 ≤ 2097152 * 1048576 := Nat.mul_le_mul_right _ (by omega)
              omega
            have HL := Lib.hid hL
            have HO5 := Lib.hid hO5
            have HS5 := Lib.hid hs5
            obtain ⟨c7, f7⟩ := blk_rules hO5.kout
            have hO5own := hO5.own
            have hsz5 := hO5.size
            have hz3 : w.heap.size + 1 + 1 + 1 < wr.heap.size := blk_lt hO5.kout
            have HOW5 := Lib.hid hO5own
            clear hL hO5own
            by_cases hlt : k < M.length
            · obtain ⟨gb, go, rfl, hc⟩ := (SpansB.at HS5.out).form (by omega)
              obtain ⟨h0, h1⟩ := hc k M[k] (List.getElem?_eq_getElem hlt)
              have hpb := HMB.out M[k] (List.getElem_mem hlt)
              have ht := List.take_succ_eq_append_getElem hlt
              have hs6 : st.O ++ (M.take (k + 1)).map (pieceRect y0 y1) = L ++ [pieceRect y0 y1 M[k]] := by rw [ht, List.map_append, ← List.append_assoc, HL.out]; rfl
              clear hc ht
              generalize M[k] = p at *
              have HS6 := Lib.hid hs6
              have q1 : IntKind.i64.wrap (p.2 - p.1) = p.2 - p.1 := IntWalk.i64_in _ (by omega)
              have q2 : IntKind.i64.wrap (y1 - y0) = y1 - y0 := IntWalk.i64_in _ (by omega)
              clear hs6 hO5 hs5
              gi_wp2_with (first
                | (refine wpListIn_app w1.heap.size rfl (.tmp 76) (.tmp 89) 22 26 (.agg #[.int .i64 0, .int .i64 0, .int .i64 0, .int .i64 0]) 4 32 rfl Try.underlying22 info_rect rfl (by decide) (by decide) (.slice B5 L.length d5) L.length (rcells L) rfl (World.ownsRow.alloc (World.ownsRow.alloc HOW5.out _) _) (some ⟨wr.heap.size + 1, 0, none⟩) 1 1 (rcell (pieceRect y0 y1 p)) rfl (fun h => by cases h) rfl (fun _ => ⟨_, rfl, World.news_of_block (blk_new1 wr _ _)⟩) (by simp [rcell, Value.oneCell']) (by omega) (Nat.le_trans hsz5 (by simp; omega)) (fun v' w5 hr5 hg5 => ?_); obtain ⟨B6, d6, rfl⟩ := row_slice hr5; obtain ⟨c8, f8⟩ := blk_rules ((hg5.block _ (Nat.lt_of_lt_of_le (blk_lt HO5.out.kout) (by simp; omega)) (fun e => by have := (World.ownsRow.lt HOW5.out _ e.symm).1; omega)).trans (blk_old (blk_old HO5.out.kout _) _))))
              have hr6 : OwnR w5 w1.heap.size (.slice B6 (L ++ [pieceRect y0 y1 p]).length d6) (L ++ [pieceRect y0 y1 p]) := by
                unfold OwnR
                rw [List.length_append, rcells_snoc]
                exact hr5
              have hO6 := HO5.out.row (((Ext.refl wr).alloc _).alloc _) hg5 hr6
              have hpo : ∀ r, (Value.slice B5 L.length d5).ownBlock = some r → ¬ (w.heap.size + 8 ≤ r ∧ r < w1.heap.size) := fun r e h => by
                have := (World.ownsRow.lt HOW5.out r e).1
                omega
              have hs6 : SpansB (w5.setCell ⟨w.heap.size + 1 + 1 + 1, 0, none⟩ (.slice B6 (L.length + 1) d6)) (some ⟨gb, go, none⟩) M := HS5.out.keep (fun g cur hc => by
                have hc2 := blk_old (blk_old hc (.cells #[.int .i64 p.1, .int .i64 p.2] 133)) (.cells #[.int .i64 p.1, .int .i64 y0, .int .i64 (p.2 - p.1), .int .i64 (y1 - y0)] 26)
                have hne1 : some g ≠ (Value.slice B5 L.length d5).ownBlock := fun e => by
                  rcases HOW5.out.2 with ⟨h3, _⟩ | ⟨g', cap, cur', e1, _, e3, _⟩
                  · rw [h3] at e; simp [Value.ownBlock] at e
                  · rw [e1] at e
                    simp only [Value.ownBlock] at e
                    injection e with e
                    subst e
                    have := hc.symm.trans e3
                    injection this with this
                    injection this with _ e2 _
                    cases e2
                refine blk_set_ne ((hg5.block g (blk_lt hc2) hne1).trans hc2) (fun e => ?_) _ _
                subst e
                have := hc.symm.trans HO5.out.kout
                injection this with this
                injection this with _ e2 _
                cases e2)
              have hk6 : KeptP (fun k => w.heap.size + 8 ≤ k ∧ k < w1.heap.size) W1 (w5.setCell ⟨w.heap.size + 1 + 1 + 1, 0, none⟩ (.slice B6 (L.length + 1) d6)) := ((hkp.trans (KeptP.of_ext (((Ext.refl wr).alloc _).alloc _))).trans (KeptP.of_grown hg5 hpo)).trans (KeptP.set (by omega) _ _)
              have hk7 : KeepsOthers W1 (w5.setCell ⟨w.heap.size + 1 + 1 + 1, 0, none⟩ (.slice B6 (L.length + 1) d6)) := ((hko.trans (KeepsOthers.of_ext (((Ext.refl wr).alloc _).alloc _))).trans (KeepsOthers.of_grownBy hg5 (row_cells (World.ownsRow.alloc (World.ownsRow.alloc HOW5.out _) _)))).trans (KeepsOthers.setCell _ _ _)
              rw [List.length_append] at hO6
              exact ⟨⟨k + 1, B6, d6, by omega, by go_num, by rw [HS6.out]; exact hO6, hs6, hk7, hk6⟩, by simp [intOf]; omega⟩
            · obtain rfl : k = M.length := by omega
              have HF : Hid (L = st.O ++ M.map (pieceRect y0 y1)) := by
                have := HL.out
                rw [List.take_length] at this
                exact Lib.hid this.symm
              obtain ⟨c8, f8⟩ := blk_rules hO5.klast
              obtain ⟨c9, f9⟩ := blk_rules hO5.kend
              obtain ⟨c10, f10⟩ := blk_rules hO5.kn
              have hO6 := HO5.out.setAll (nc := d3) HS5.out y1
              have HO6 := Lib.hid hO6
              clear hO6 hO5 hlt HL
              gi_wp2
              have hpn : ∀ j, j < w.heap.size + 8 → ¬ (w.heap.size + 8 ≤ j ∧ j < w1.heap.size) := fun j h1 h2 => by omega
              refine ⟨((hko.trans (KeepsOthers.setCell _ _ _)).trans (KeepsOthers.setCell _ _ _)).trans (KeepsOthers.setCell _ _ _), ((hkp.trans (KeptP.set (hpn _ (by omega)) _ _)).trans (KeptP.set (hpn _ (by omega)) _ _)).trans (KeptP.set (hpn _ (by omega)) _ _), B5, B3, d5, d3, ?_⟩
              rw [HSTEP.out, show ofStep how a b ys st i.val = ⟨st.O ++ M.map (pieceRect y0 y1), M, y1⟩ by unfold ofStep; rw [HY0.out, HY1.out, HM.out, if_neg (by unfold ofSame; rw [HM.out]; exact HNS.out)], ← HF.out]
              exact HO6.out
end Go.Proofs.Ytjghghbldifhaaa
set_option linter.unusedVariables false
set_option linter.unusedSimpArgs false
namespace Go.Proofs.Ytjghghbldifhaaa
open Go.RowKit Go.Shelf Go.Lib

set_option maxHeartbeats 1000000 in
theorem or_list (aA bA : Option Addr) (ca cb : Nat) (a b : List Rect) (w : World) (ha : RectsAt w aA a) (hb : RectsAt w bA b) (hal : a.length ≤ 4398046511104) (hbl : b.length ≤ 4398046511104) :
    Calls Try.prog 25 #[.slice aA a.length ca, .slice bA b.length cb] w (GivesR (listOf 0 a b) w) := by
  have hcon := of_any aA bA ca cb a b 0 82 w ha hb hal hbl (enters_of Try.func82 (by kernel_rfl) rfl) choice_or
  clear ha hb
  go_enter Try.func25, Try.ntmps25
  go_wp2_with fail
  refine hcon.mono ?_
  rintro e w1 ⟨B, d, rfl, h1, h2⟩
  go_wp2_with fail
  go_ret
  exact GivesR.of ⟨B, d, rfl, h1, h2⟩
set_option maxHeartbeats 1000000 in
theorem minus_list (aA bA : Option Addr) (ca cb : Nat) (a b : List Rect) (w : World) (ha : RectsAt w aA a) (hb : RectsAt w bA b) (hal : a.length ≤ 4398046511104) (hbl : b.length ≤ 4398046511104) :
    Calls Try.prog 26 #[.slice aA a.length ca, .slice bA b.length cb] w (GivesR (listOf 1 a b) w) := by
  have hcon := of_any aA bA ca cb a b 1 83 w ha hb hal hbl (enters_of Try.func83 (by kernel_rfl) rfl) choice_minus
  clear ha hb
  go_enter Try.func26, Try.ntmps26
  go_wp2_with fail
  refine hcon.mono ?_
  rintro e w1 ⟨B, d, rfl, h1, h2⟩
  go_wp2_with fail
  go_ret
  exact GivesR.of ⟨B, d, rfl, h1, h2⟩
set_option maxHeartbeats 1000000 in
theorem and_list (aA bA : Option Addr) (ca cb : Nat) (a b : List Rect) (w : World) (ha : RectsAt w aA a) (hb : RectsAt w bA b) (hal : a.length ≤ 4398046511104) (hbl : b.length ≤ 4398046511104) :
    Calls Try.prog 27 #[.slice aA a.length ca, .slice bA b.length cb] w (GivesR (listOf 2 a b) w) := by
  have hcon := of_any aA bA ca cb a b 2 84 w ha hb hal hbl (enters_of Try.func84 (by kernel_rfl) rfl) choice_and
  clear ha hb
  go_enter Try.func27, Try.ntmps27
  go_wp2_with fail
  refine hcon.mono ?_
  rintro e w1 ⟨B, d, rfl, h1, h2⟩
  go_wp2_with fail
  go_ret
  exact GivesR.of ⟨B, d, rfl, h1, h2⟩
set_option maxHeartbeats 1000000 in
theorem of_list (aA : Option Addr) (ca : Nat) (a : List Rect) (w : World) (ha : RectsAt w aA a) (hal : a.length ≤ 4398046511104) :
    Calls Try.prog 24 #[.slice aA a.length ca] w (GivesR (listOf 0 a []) w) := by
  have hcon := or_list aA none ca 0 a [] w ha (RectsAt.nil _ _) hal (by simp)
  clear ha
  go_enter Try.func24, Try.ntmps24
  go_wp2_with fail
  refine hcon.mono ?_
  rintro e w1 ⟨B, d, rfl, h1, h2, h3⟩
  go_wp2_with fail
  go_ret
  exact ⟨B, d, rfl, h1, h2, h3⟩
set_option maxHeartbeats 1000000 in
theorem is_any (aA : Option Addr) (ca : Nat) (a : List Rect) (w : World) (ha : RectsAt w aA a) (hal : a.length ≤ 4398046511104) :
    Calls Try.prog 28 #[.slice aA a.length ca] w fun e w' => e = .returned (.bool (eqR a (listOf 0 a []))) ∧ Ext w w' := by
  have hcon := of_list aA ca a w ha hal
  have hln := listOf_length 0 a []
  obtain ⟨L, hL⟩ : ∃ L, listOf 0 a [] = L := ⟨_, rfl⟩
  rw [hL] at hcon hln ⊢
  clear hL
  go_enter Try.func28, Try.ntmps28
  go_wp2_with fail
  refine hcon.mono ?_
  rintro e w1 ⟨B, d, rfl, h1, h2, h3⟩
  go_wp2_with fail
  refine (sequalR_any aA B ca d a L w1 (ha.ext h3) (OwnR.at h1) (by omega) (by omega)).mono ?_
  rintro e w2 ⟨rfl, hE⟩
  go_wp2_with fail
  go_ret
  exact ⟨rfl, h3.trans hE⟩
set_option maxHeartbeats 1000000 in
theorem rsame_list (aA bA : Option Addr) (ca cb : Nat) (a b : List Rect) (w : World) (ha : RectsAt w aA a) (hb : RectsAt w bA b) (hal : a.length ≤ 4398046511104) (hbl : b.length ≤ 4398046511104) :
    Calls Try.prog 29 #[.slice aA a.length ca, .slice bA b.length cb] w fun e w' => e = .returned (.bool (eqR (listOf 0 a []) (listOf 0 b []))) ∧ Ext w w' := by
  have hcon := of_list aA ca a w ha hal
  have hcon2 := fun w' (h : Ext w w') => of_list bA cb b w' (hb.ext h) hbl
  have hln := listOf_length 0 a []
  have hln2 := listOf_length 0 b []
  obtain ⟨L, hL⟩ : ∃ L, listOf 0 a [] = L := ⟨_, rfl⟩
  obtain ⟨M, hM⟩ : ∃ M, listOf 0 b [] = M := ⟨_, rfl⟩
  rw [hL] at hcon hln ⊢
  rw [hM] at hln2 ⊢
  simp only [hM] at hcon2
  clear hL hM
  go_enter Try.func29, Try.ntmps29
  go_wp2_with fail
  refine hcon.mono ?_
  rintro e w1 ⟨B, d, rfl, h1, h2, h3⟩
  go_wp2_with fail
  refine (hcon2 w1 h3).mono ?_
  rintro e w2 ⟨C, f, rfl, g1, g2, g3⟩
  go_wp2_with fail
  refine (sequalR_any B C d f L M w2 ((OwnR.at h1).ext g3) (OwnR.at g1) (by omega) (by omega)).mono ?_
  rintro e w3 ⟨rfl, hE⟩
  go_wp2_with fail
  go_ret
  exact ⟨rfl, (h3.trans g3).trans hE⟩
instance : Inhabited Rect := ⟨Rect.zero⟩
/-- The closure of region.Has. -/
theorem haspred (x y : Int) (B C : Nat) (w : World) (hB : B < w.heap.size) (hC : C < w.heap.size) (hx : w.cell? ⟨B, 0, none⟩ = some (.int .i64 x)) (hy : w.cell? ⟨C, 0, none⟩ = some (.int .i64 y)) :
    PredBelow Try.prog 80 #[.pointer (some ⟨B, 0, none⟩), .pointer (some ⟨C, 0, none⟩)] (fun r => .agg (rcell r).toArray) (fun r : Rect => r.has x y) w := fun W r hb => by
  have hcx : W.cell? ⟨B, 0, none⟩ = some (.int .i64 x) := (hb.cell (p := ⟨B, 0, none⟩) hB).trans hx
  have hcy : W.cell? ⟨C, 0, none⟩ = some (.int .i64 y) := (hb.cell (p := ⟨C, 0, none⟩) hC).trans hy
  have hBW : B < W.heap.size := Nat.lt_of_lt_of_le hB hb.size
  have hCW : C < W.heap.size := Nat.lt_of_lt_of_le hC hb.size
  have hne : B ≠ W.heap.size := by omega
  have hne2 : C ≠ W.heap.size := by omega
  show Calls Try.prog 80 #[.agg #[.int .i64 r.x, .int .i64 r.y, .int .i64 r.w, .int .i64 r.h], .pointer (some ⟨B, 0, none⟩), .pointer (some ⟨C, 0, none⟩)] W _
  obtain ⟨p, q, m, n⟩ := r
  dsimp only
  go_enter Try.func80, Try.ntmps80
  go_wp2_with (go_at_call 30; refine (has_any _ _ _ _ _ _ _).mono ?_; rintro e w1 ⟨rfl, hb1⟩)
  go_ret
  exact ⟨rfl, (hb.alloc hb.size _).trans (hb1.mono (by simp; have := hb.size; omega))⟩
theorem containsR0 (A : Option Addr) (c : Nat) (fv : Value) (w : World) :
    Calls Try.prog 112 #[.slice A 0 c, fv] w fun e w' => e = .returned (.int .i64 (-1)) ∧ w = w' := by
  go_enter Try.func112, Try.ntmps112
  go_wp2_with fail
  go_loopw [8] (fun iv wr => iv = .int .i64 0 ∧ w = wr) (fun iv _ => 0)
  case atStart => exact ⟨rfl, rfl⟩
  case round =>
    obtain ⟨rfl, rfl⟩ := hrel
    go_wp2_with fail
    go_ret
    exact ⟨rfl, rfl⟩
set_option maxHeartbeats 1000000 in
theorem rhas_list (A : Option Addr) (c : Nat) (l : List Rect) (x y : Int) (w : World) (hl : RectsAt w A l) (hm : l.length ≤ 4398046511104) :
    Calls Try.prog 22 #[.slice A l.length c, .int .i64 x, .int .i64 y] w fun e w' => e = .returned (.bool (hasL l x y)) ∧ Ext w w' := by
  have hcon : Calls Try.prog 79 #[.slice A l.length c, .func (.func 80) #[] #[.pointer (some ⟨w.heap.size, 0, none⟩), .pointer (some ⟨w.heap.size + 1, 0, none⟩)]] ((w.alloc (.cells #[.int .i64 x] 3)).alloc (.cells #[.int .i64 y] 3)) fun e w' => e = .returned (.bool (hasL l x y)) ∧ Ext ((w.alloc (.cells #[.int .i64 x] 3)).alloc (.cells #[.int .i64 y] 3)) w' := by
    rcases Nat.eq_zero_or_pos l.length with h0 | hp
    · have hl0 : l = [] := List.eq_nil_of_length_eq_zero h0
      subst hl0
      clear hl hm h0
      go_enter Try.func79, Try.ntmps79
      go_wp2_with fail
      refine (containsR0 _ _ _ _).mono ?_
      rintro e w1 ⟨rfl, rfl⟩
      go_wp2_with fail
      go_ret
      exact ⟨rfl, Ext.refl _⟩
    · have hl2 := hl.ext (((Ext.refl w).alloc (.cells #[.int .i64 x] 3)).alloc (.cells #[.int .i64 y] 3))
      obtain ⟨b, off, rfl, hc⟩ := hl2.form hp
      have eg : ∀ args w, (callFunc 80 args).run Try.prog w = .ok (.enter 80 args) w := enters_of Try.func80 (by kernel_rfl) rfl
      have hb := World.block_lt_of_cell? _ _ (hc 0 _ (List.getElem?_eq_getElem hp)).1
      have hcon := AnyQ.slices_ContainsFunc Try.layCFr 4 Try.isAgg26 Try.sizeOf26 rcell (fun _ => rfl) (fun r : Rect => r.has x y) 80 #[.pointer (some ⟨w.heap.size, 0, none⟩), .pointer (some ⟨w.heap.size + 1, 0, none⟩)] eg b off l.length c l _ (haspred x y w.heap.size (w.heap.size + 1) _ (by simp; omega) (by simp) (blk_cell (blk_old (blk_new w _) _) 0) (blk_cell (blk_new1 w _ _) 0)) (Nat.le_refl _) (by omega) hb (fun j hj i v hi => by
        obtain ⟨h0, h1, h2, h3⟩ := hc j l[j] (List.getElem?_eq_getElem hj)
        rw [getElem!_pos l j hj] at hi
        match i, hi with
        | 0, hi => simp [rcell] at hi; rw [← hi]; exact h0
        | 1, hi => simp [rcell] at hi; rw [← hi]; exact h1
        | 2, hi => simp [rcell] at hi; rw [← hi]; exact h2
        | 3, hi => simp [rcell] at hi; rw [← hi]; exact h3
        | i + 4, hi => simp [rcell] at hi)
      refine hcon.mono ?_
      rintro e w' ⟨rfl, hE⟩
      rw [List.take_length]
      exact ⟨rfl, hE⟩
  generalize hasL l x y = r at hcon ⊢
  clear hl
  go_enter Try.func22, Try.ntmps22
  go_wp2_with fail
  refine hcon.mono ?_
  rintro e w1 ⟨rfl, hb⟩
  go_wp2_with fail
  go_ret
  exact ⟨rfl, Ext.of_allocs2 hb⟩
set_option maxHeartbeats 1000000 in
theorem shift_list (A : Option Addr) (c : Nat) (l : List Rect) (dx dy : Int) (w : World) (hl : RectsAt w A l) (hm : l.length ≤ 2199023255552) :
    Calls Try.prog 18 #[.slice A l.length c, .int .i64 dx, .int .i64 dy] w (GivesR (listOf 0 (l.map fun r => r.shift dx dy) []) w) := by
  go_enter Try.func18, Try.ntmps18
  go_wp2_with fail
  go_loopw [7, 12] (fun v iv wr => ∃ (k : Nat) (B : Option Addr) (d : Nat), k ≤ l.length ∧ iv = .int .i64 k ∧ v = .slice B ((l.take k).map fun r => r.shift dx dy).length d ∧ OwnR wr w.heap.size (.slice B ((l.take k).map fun r => r.shift dx dy).length d) ((l.take k).map fun r => r.shift dx dy) ∧ Ext w wr) (fun _ iv _ => l.length - (intOf iv).toNat)
  case atStart => exact ⟨0, none, 0, Nat.zero_le _, rfl, rfl, World.ownsRow_nil _ _ _ _, Ext.refl _⟩
  case round =>
    obtain ⟨k, B, d, hk, rfl, rfl, hown, hE⟩ := hrel
    obtain ⟨L, hL⟩ : ∃ L, ((l.take k).map fun r => r.shift dx dy) = L := ⟨_, rfl⟩
    have hLn : L.length ≤ k := by rw [← hL, List.length_map, List.length_take]; omega
    rw [hL] at hown
    simp only [hL]
    have HO := Lib.hid hown
    have HL := Lib.hid hL
    clear hown hL
    by_cases hlt : k < l.length
    · obtain ⟨b, off, rfl, hc⟩ := (hl.ext hE).form (by omega)
      obtain ⟨h0, h1, h2, h3⟩ := hc k l[k] (List.getElem?_eq_getElem hlt)
      have ht := List.take_succ_eq_append_getElem hlt
      have hs : ((l.take (k + 1)).map fun r => r.shift dx dy) = L ++ [l[k].shift dx dy] := by rw [ht, List.map_append, HL.out]; rfl
      clear hc ht
      generalize l[k] = r at *
      have hsh := fun w => shift_any r.x r.y r.w r.h dx dy w
      simp only [show Rect.mk r.x r.y r.w r.h = r from rfl] at hsh
      obtain ⟨q, hq⟩ : ∃ q, r.shift dx dy = q := ⟨_, rfl⟩
      rw [hq] at hs
      simp only [hq] at hsh
      have HS := Lib.hid hs
      clear hs hq
      go_wp2_with fail
      refine (hsh _).mono ?_
      rintro e w1 ⟨rfl, hb1⟩
      obtain ⟨kb, hE1⟩ := ext1 hb1
      clear hb1 kb hsh
      go_wp2_with (first
        | (refine wpList_app w.heap.size rfl (.tmp 16) (.tmp 21) 22 26 (.agg #[.int .i64 0, .int .i64 0, .int .i64 0, .int .i64 0]) 4 32 rfl Try.underlying22 info_rect rfl (by decide) (by decide) (.slice B L.length d) L.length (rcells L) rfl (World.ownsRow.alloc (row_keep HO.out hE1) _) (some ⟨w1.heap.size, 0, none⟩) 1 1 (rcell q) rfl (fun h => by cases h) rfl (fun _ => ⟨_, rfl, World.news_of_block (blk_new w1 _)⟩) (by simp [rcell, Value.oneCell']) (by omega) (Nat.le_trans (Nat.le_trans hE.size hE1.size) (by simp)) (fun v' w5 hr5 hg5 => ?_); obtain ⟨B5, d5, rfl⟩ := row_slice hr5))
      have hE5 := row_ext (World.ownsRow.alloc (row_keep HO.out hE1) _) ((hE.trans hE1).alloc _) hg5
      have hr6 : OwnR w5 w.heap.size (.slice B5 (L ++ [q]).length d5) (L ++ [q]) := by
        unfold OwnR
        rw [List.length_append, rcells_snoc]
        exact hr5
      exact ⟨⟨k + 1, B5, d5, by omega, by go_num, by rw [HS.out, List.length_append]; rfl, by rw [HS.out]; exact hr6, hE5⟩, by simp [intOf]; omega⟩
    · obtain rfl : k = l.length := by omega
      have HR : Hid (L = l.map fun r => r.shift dx dy) := by
        have := HL.out
        rw [List.take_length] at this
        exact Lib.hid this.symm
      have hcon := of_list B d L wr (OwnR.at HO.out) (by omega)
      clear hlt HL hk
      go_wp2_with fail
      refine hcon.mono ?_
      rintro e w1 ⟨C, f, rfl, h1, h2, h3⟩
      go_wp2_with fail
      go_ret
      rw [← HR.out]
      exact ⟨C, f, rfl, World.ownsRow.base_le h1 hE.size, h2, hE.trans h3⟩
end Go.Proofs.Ytjghghbldifhaaa
