/- The walks of region.mix's own functions, and of the choices: has a row a place; and, or, minus. -/
/- The walk of region.mix: two rows of pieces mixed. -/
import Derived.Test.YtjghghbldifhaaaSpA
import Derived.Test.YtjghghbldifhaaaShelf
import Derived.Shelf.SlicesQ.IndexFunc
import Derived.Test.YtjghghbldifhaaaSrtA
import Derived.Test.YtjghghbldifhaaaRegD
set_option linter.unusedVariables false
set_option linter.unusedSimpArgs false
namespace Go.Proofs.Ytjghghbldifhaaa
open Go.RowKit Go.Shelf Go.Lib

/-- The closure of mix's has: does a piece have the place that lies in the cell ⟨B, 0⟩? -/
theorem mixpred (z : Int) (B : Nat) (w : World) (hB : B < w.heap.size) (hcell : w.cell? ⟨B, 0, none⟩ = some (.int .i64 z)) :
    PredBelow Try.prog 132 #[.pointer (some ⟨B, 0, none⟩)] (fun x => .agg (scell x).toArray) (fun x : Piece => decide (x.1 ≤ z) && decide (z < x.2)) w := fun W x hb => by
  have hc : W.cell? ⟨B, 0, none⟩ = some (.int .i64 z) := (hb.cell (p := ⟨B, 0, none⟩) hB).trans hcell
  have hBW : B < W.heap.size := Nat.lt_of_lt_of_le hB hb.size
  have hne : B ≠ W.heap.size := by omega
  show Calls Try.prog 132 #[.agg #[.int .i64 x.1, .int .i64 x.2], .pointer (some ⟨B, 0, none⟩)] W _
  obtain ⟨x1, x2⟩ := x
  by_cases c1 : x1 ≤ z
  · by_cases c2 : z < x2
    · go_enter Try.func132, Try.ntmps132
      go_wp2
      go_ret
      exact ⟨by simp [c1, c2], hb.alloc hb.size _⟩
    · have d2 : decide (z < x2) = false := by simpa using c2
      go_enter Try.func132, Try.ntmps132
      go_wp2
      go_ret
      exact ⟨by simp [c2], hb.alloc hb.size _⟩
  · have d1 : decide (x1 ≤ z) = false := by simpa using c1
    go_enter Try.func132, Try.ntmps132
    go_wp2
    go_ret
    exact ⟨by simp [c1], hb.alloc hb.size _⟩
theorem contains0 (A : Option Addr) (c : Nat) (fv : Value) (w : World) :
    Calls Try.prog 138 #[.slice A 0 c, fv] w fun e w' => e = .returned (.int .i64 (-1)) ∧ w = w' := by
  go_enter Try.func138, Try.ntmps138
  go_wp2_with fail
  go_loopw [8] (fun iv wr => iv = .int .i64 0 ∧ w = wr) (fun iv _ => 0)
  case atStart => exact ⟨rfl, rfl⟩
  case round =>
    obtain ⟨rfl, rfl⟩ := hrel
    go_wp2_with fail
    go_ret
    exact ⟨rfl, rfl⟩
set_option maxHeartbeats 1000000 in
/-- slices.ContainsFunc at pieces, asked for a place. -/
theorem scontains_any (A : Option Addr) (c : Nat) (l : List Piece) (z : Int) (B : Nat) (w : World) (hl : SpansAt w A l) (hm : l.length ≤ 4398046511104) (hB : B < w.heap.size) (hcell : w.cell? ⟨B, 0, none⟩ = some (.int .i64 z)) :
    Calls Try.prog 131 #[.slice A l.length c, .func (.func 132) #[] #[.pointer (some ⟨B, 0, none⟩)]] w fun e w' => e = .returned (.bool (hasP l z)) ∧ Ext w w' := by
  rcases Nat.eq_zero_or_pos l.length with h0 | hp
  · have hl0 : l = [] := List.eq_nil_of_length_eq_zero h0
    subst hl0
    clear hl hcell hB hm h0
    go_enter Try.func131, Try.ntmps131
    go_wp2_with fail
    refine (contains0 _ _ _ _).mono ?_
    rintro e w1 ⟨rfl, rfl⟩
    go_wp2_with fail
    go_ret
    exact ⟨rfl, Ext.refl _⟩
  · obtain ⟨b, off, rfl, hc⟩ := hl.form hp
    have eg : ∀ args w, (callFunc 132 args).run Try.prog w = .ok (.enter 132 args) w := enters_of Try.func132 (by kernel_rfl) rfl
    have hb : b < w.heap.size := World.block_lt_of_cell? w _ (hc 0 _ (List.getElem?_eq_getElem hp)).1
    have hcon := AnyQ.slices_ContainsFunc Try.layCFs 2 Try.isAgg133 Try.sizeOf133 scell (fun _ => rfl) (fun x : Piece => decide (x.1 ≤ z) && decide (z < x.2)) 132 #[.pointer (some ⟨B, 0, none⟩)] eg b off l.length c l w (mixpred z B w hB hcell) (Nat.le_refl _) (by omega) hb (fun j hj i v hi => by
      obtain ⟨h0, h1⟩ := hc j l[j] (List.getElem?_eq_getElem hj)
      rw [getElem!_pos l j hj] at hi
      match i, hi with
      | 0, hi => simp [scell] at hi; rw [← hi]; exact h0
      | 1, hi => simp [scell] at hi; rw [← hi]; exact h1
      | i + 2, hi => simp [scell] at hi)
    refine hcon.mono ?_
    rintro e w' ⟨rfl, hE⟩
    rw [List.take_length]
    exact ⟨rfl, hE⟩
set_option maxHeartbeats 1000000 in
theorem mixhas_any (A : Option Addr) (c : Nat) (l : List Piece) (z : Int) (w : World) (hl : SpansAt w A l) (hm : l.length ≤ 4398046511104) :
    Calls Try.prog 130 #[.slice A l.length c, .int .i64 z] w fun e w' => e = .returned (.bool (hasP l z)) ∧ Ext w w' := by
  have hcon := scontains_any A c l z w.heap.size (w.alloc (.cells #[.int .i64 z] 3)) (hl.ext ((Ext.refl _).alloc _)) hm (by simp) (blk_cell (blk_new w _) 0)
  generalize hasP l z = r at hcon ⊢
  clear hl
  go_enter Try.func130, Try.ntmps130
  go_wp2_with fail
  refine hcon.mono ?_
  rintro e w1 ⟨rfl, hb⟩
  go_wp2_with fail
  go_ret
  exact ⟨rfl, Ext.of_alloc hb⟩
theorem choice_or (p q : Bool) (w : World) : Calls Try.prog 82 #[.bool p, .bool q] w fun e w' => e = .returned (.bool (meant 0 p q)) ∧ Ext w w' := by
  cases p <;> cases q <;> (go_enter Try.func82, Try.ntmps82; go_wp2; go_ret; exact ⟨rfl, Ext.refl _⟩)
theorem choice_minus (p q : Bool) (w : World) : Calls Try.prog 83 #[.bool p, .bool q] w fun e w' => e = .returned (.bool (meant 1 p q)) ∧ Ext w w' := by
  cases p <;> cases q <;> (go_enter Try.func83, Try.ntmps83; go_wp2; go_ret; exact ⟨rfl, Ext.refl _⟩)
theorem choice_and (p q : Bool) (w : World) : Calls Try.prog 84 #[.bool p, .bool q] w fun e w' => e = .returned (.bool (meant 2 p q)) ∧ Ext w w' := by
  cases p <;> cases q <;> (go_enter Try.func84, Try.ntmps84; go_wp2; go_ret; exact ⟨rfl, Ext.refl _⟩)
end Go.Proofs.Ytjghghbldifhaaa
set_option linter.unusedVariables false
set_option linter.unusedSimpArgs false
namespace Go.Proofs.Ytjghghbldifhaaa
open Go.RowKit

/-- The pieces of the first i of two rows. -/
def preP (a b : List Piece) (i : Nat) : List Piece := if i = 0 then [] else if i = 1 then a else a ++ b
theorem piecesOf_length (how : Int) (a b : List Rect) (y : Int) : (piecesOf how a b y).length ≤ 2097152 := by
  have hgen : ∀ (l : List Piece) (lo : Int), runsOk false (l.map Piece.run) → (∀ p ∈ l, lo ≤ p.1 ∧ p.2 ≤ 1048576) → lo ≤ 1048576 → (l.length : Int) ≤ 1048576 - lo := by
    intro l
    induction l with
    | nil => intro lo _ _ h; simp; omega
    | cons p l ih =>
      intro lo h hb hlo
      have h1 := h.1
      have hp := hb p (by simp)
      have h2 := ih p.2 h.2.2.2 (fun q hq => by
        refine ⟨?_, (hb q (by simp [hq])).2⟩
        have hgo : ∀ (l : List Piece) (e : Int), runsOk false (l.map Piece.run) → (∀ s ∈ (l.map Piece.run).head?, e ≤ s.a) → ∀ q ∈ l, e ≤ q.1 := by
          intro l
          induction l with
          | nil => intro e _ _ q hq; cases hq
          | cons r l ih2 =>
            intro e h hs q hq
            have e1 : e ≤ r.1 := hs r.run (by simp)
            rcases List.mem_cons.1 hq with rfl | hq
            · exact e1
            · have := ih2 r.2 h.2.2.2 (fun s hs => (h.2.2.1 s hs).1) q hq
              have h5 : r.1 < r.2 := h.1
              omega
        exact hgo l p.2 h.2.2.2 (fun s hs => (h.2.2.1 s hs).1) q hq) hp.2
      have h3 : p.1 < p.2 := h1
      simp only [List.length_cons]
      omega
  have h := hgen (piecesOf how a b y) (-1048576) (by rw [piecesOf_runs]; exact (spansOf_spec how a b y).1) (fun p hp => by have := piecesOf_bd hp; omega) (by omega)
  omega

theorem endsP_append (l m : List Piece) : endsP (l ++ m) = endsP l ++ endsP m := by simp [endsP]
theorem mixOf_skip {F : Int → Bool} {xs : List Int} {i : Nat} (h : xs.getD (i + 1) 0 = xs.getD i 0 ∨ F (xs.getD i 0) = false) : mixOf F xs (i + 1) = mixOf F xs i := by rw [mixOf, if_pos h]
theorem mixOf_new {F : Int → Bool} {xs : List Int} {i : Nat} (h : ¬ (xs.getD (i + 1) 0 = xs.getD i 0 ∨ F (xs.getD i 0) = false)) (hl : ∀ t ∈ (mixOf F xs i).getLast?, t.2 ≠ xs.getD i 0) : mixOf F xs (i + 1) = mixOf F xs i ++ [(xs.getD i 0, xs.getD (i + 1) 0)] := by
  rw [mixOf, if_neg h]
  cases hc : (mixOf F xs i).getLast? with
  | none => rfl
  | some t =>
    dsimp only
    rw [if_neg (hl t hc)]
theorem mixOf_fuse {F : Int → Bool} {xs : List Int} {i : Nat} {l0 : List Piece} {t : Piece} (h : ¬ (xs.getD (i + 1) 0 = xs.getD i 0 ∨ F (xs.getD i 0) = false)) (hc : mixOf F xs i = l0 ++ [t]) (ht : t.2 = xs.getD i 0) : mixOf F xs (i + 1) = l0 ++ [(t.1, xs.getD (i + 1) 0)] := by
  rw [mixOf, if_neg h, hc, show (l0 ++ [t]).getLast? = some t by simp]
  dsimp only
  rw [if_pos ht, List.dropLast_concat]
theorem endsP_bd {l : List Piece} {z : Int} (h : z ∈ endsP l) (hb : ∀ p ∈ l, -1048576 ≤ p.1 ∧ p.1 < p.2 ∧ p.2 ≤ 1048576) : -1048576 ≤ z ∧ z ≤ 1048576 := by
  obtain ⟨p, hp, h⟩ := endsP_mem.1 h
  have := hb p hp
  omega
theorem scells_setl {l0 : List Piece} {t : Piece} {v : Int} {m : Nat} (hm : l0.length = m) : (scells (l0 ++ [t])).set (m * 2 + 1) (.int .i64 v) = scells (l0 ++ [(t.1, v)]) := by
  have h := scells_set1 (l := l0 ++ [t]) (j := m) (t := t) v (by rw [← hm]; simp)
  rw [h, ← hm]
  simp

set_option maxRecDepth 100000 in
set_option maxHeartbeats 16000000 in
theorem mix_any (aA bA : Option Addr) (ca cb : Nat) (a b : List Piece) (how : Int) (K : Nat) (w : World) (ha : SpansAt w aA a) (hb : SpansAt w bA b) (hal : a.length ≤ 2097152) (hbl : b.length ≤ 2097152)
    (hba : ∀ p ∈ a, -1048576 ≤ p.1 ∧ p.1 < p.2 ∧ p.2 ≤ 1048576) (hbb : ∀ p ∈ b, -1048576 ≤ p.1 ∧ p.1 < p.2 ∧ p.2 ≤ 1048576)
    (eg : ∀ args w, (callFunc K args).run Try.prog w = .ok (.enter K args) w) (hin : ∀ (p q : Bool) (W : World), Calls Try.prog K #[.bool p, .bool q] W fun e w' => e = .returned (.bool (meant how p q)) ∧ Ext W w') :
    Calls Try.prog 114 #[.slice aA a.length ca, .slice bA b.length cb, .func (.func K) #[] #[]] w fun e w' => ∃ B d xs, xs.Perm (endsP a ++ endsP b) ∧ xs.Pairwise (· ≤ ·) ∧ e = .returned (.slice B (mixOf (mixF how a b) xs (xs.length - 1)).length d) ∧ SpansB w' B (mixOf (mixF how a b) xs (xs.length - 1)) ∧ Ext w w' := by
  go_enter Try.func114, Try.ntmps114
  have HIN := Lib.hid hin
  have HEG := Lib.hid eg
  have HBA := Lib.hid hba
  have HBB := Lib.hid hbb
  clear hin eg hba hbb
  go_wp2_with fail
  have kB : (w.alloc (.cells #[.slice aA a.length ca, .slice bA b.length cb] 127)).heap[w.heap.size]? = some (.cells #[.slice aA a.length ca, .slice bA b.length cb] 127) := blk_new w _
  have hEb : Ext w (w.alloc (.cells #[.slice aA a.length ca, .slice bA b.length cb] 127)) := (Ext.refl _).alloc _
  generalize w.alloc (.cells #[.slice aA a.length ca, .slice bA b.length cb] 127) = wb at *
  go_loopw [7, 20] (fun xv iv wr => ∃ (i : Nat) (B : Option Addr) (d : Nat), i ≤ 2 ∧ iv = .int .i64 i ∧ xv = .slice B (endsP (preP a b i)).length d ∧ Own .i64 3 wr wb.heap.size (.slice B (endsP (preP a b i)).length d) (endsP (preP a b i)) ∧ Ext wb wr) (fun _ iv _ => 2 - (intOf iv).toNat)
  case atStart => exact ⟨0, none, 0, by omega, rfl, rfl, World.ownsRow_nil _ _ _ _, Ext.refl _⟩
  case round =>
    obtain ⟨i, B, d, hi, rfl, rfl, hown, hE⟩ := hrel
    by_cases hlt : i < 2
    · obtain ⟨XA, X, xc, hX1, hX2, hX3, hX4, hX5⟩ : ∃ (XA : Option Addr) (X : List Piece) (xc : Nat), (#[Value.slice aA a.length ca, .slice bA b.length cb] : Array Value)[i]? = some (.slice XA X.length xc) ∧ SpansAt w XA X ∧ preP a b (i + 1) = preP a b i ++ X ∧ X.length ≤ 2097152 ∧ (preP a b i).length ≤ 2097152 := by
        rcases i with _ | _ | i
        · exact ⟨aA, a, ca, rfl, ha, by simp [preP], hal, by simp [preP]⟩
        · exact ⟨bA, b, cb, rfl, hb, by simp [preP], hbl, by simpa [preP] using hal⟩
        · omega
      have hc0 := (blk_rules (hE.keep kB)).1 i
      rw [hX1] at hc0
      obtain ⟨P, hP⟩ : ∃ P, preP a b i = P := ⟨_, rfl⟩
      rw [hP] at hX3 hX5 hown
      have HX3 := Lib.hid hX3
      have HO := Lib.hid hown
      simp only [hP]
      have hd2 : decide ((i : Int) < 2) = true := by rw [decide_eq_true_eq]; omega
      clear hX1 hX3 hown hP
      go_wp2_with fail
      go_loopw [7, 26] (fun xv kv wr2 => ∃ (k : Nat) (B : Option Addr) (d : Nat), k ≤ X.length ∧ kv = .int .i64 k ∧ xv = .slice B (endsP (P ++ X.take k)).length d ∧ Own .i64 3 wr2 wb.heap.size (.slice B (endsP (P ++ X.take k)).length d) (endsP (P ++ X.take k)) ∧ Ext wb wr2) (fun _ kv _ => X.length - (intOf kv).toNat)
      case atStart => exact ⟨0, B, d, Nat.zero_le _, rfl, by simp, by simpa using HO.out, hE⟩
      case round =>
        clear hE
        obtain ⟨k, B, d, hk, rfl, rfl, hown, hE⟩ := hrel
        obtain ⟨L, hL⟩ : ∃ L, endsP (P ++ X.take k) = L := ⟨_, rfl⟩
        have hLn : L.length ≤ 8388608 := by rw [← hL, endsP_length, List.length_append, List.length_take]; omega
        rw [hL] at hown
        simp only [hL]
        have HO2 := Lib.hid hown
        have HL := Lib.hid hL
        clear hown hL
        by_cases hlt2 : k < X.length
        · obtain ⟨xb, xo, rfl, hc⟩ := (hX2.ext (hEb.trans hE)).form (by omega)
          obtain ⟨h0, h1⟩ := hc k X[k] (List.getElem?_eq_getElem hlt2)
          have ht := List.take_succ_eq_append_getElem hlt2
          have hs : endsP (P ++ X.take (k + 1)) = L ++ [X[k].1, X[k].2] := by rw [ht, ← List.append_assoc, endsP_snoc, HL.out]
          clear hc ht
          generalize X[k] = p at *
          have HS := Lib.hid hs
          clear hs
          go_wp2_with (first
            | (refine wpList_app wb.heap.size rfl (.tmp 30) (.tmp 35) 46 3 (.int .i64 0) 1 8 rfl Try.underlying46 info_int rfl (by decide) (by decide) (.slice B L.length d) L.length (nums .i64 L) rfl (World.ownsRow.alloc (World.ownsRow.alloc HO2.out _) _) (some ⟨wr.heap.size + 1, 0, none⟩) 2 2 (nums .i64 [p.1, p.2]) rfl (fun h => by cases h) rfl (fun _ => ⟨_, rfl, World.news_of_block (blk_new1 wr _ _)⟩) nums_one (by omega) (Nat.le_trans hE.size (by simp; omega)) (fun v' w5 hr5 hg5 => ?_); obtain ⟨B5, d5, rfl⟩ := row_slice hr5))
          have hE5 := row_ext (World.ownsRow.alloc (World.ownsRow.alloc HO2.out _) _) ((hE.alloc _).alloc _) hg5
          have hr6 : Own .i64 3 w5 wb.heap.size (.slice B5 (L ++ [p.1, p.2]).length d5) (L ++ [p.1, p.2]) := by
            unfold Own
            rw [List.length_append, nums_snoc]
            exact hr5
          exact ⟨⟨k + 1, B5, d5, by omega, by go_num, by rw [HS.out, List.length_append]; rfl, by rw [HS.out]; exact hr6, hE5⟩, by simp [intOf]; omega⟩
        · obtain rfl : k = X.length := by omega
          have HF : Hid (L = endsP (preP a b (i + 1))) := by
            have := HL.out
            rw [List.take_length, ← HX3.out] at this
            exact Lib.hid this.symm
          clear HL hlt2
          go_wp2_with fail
          exact ⟨⟨i + 1, B, d, by omega, by go_num, by rw [← HF.out], by rw [← HF.out]; exact HO2.out, hE⟩, by simp [intOf]; omega⟩
    · obtain rfl : i = 2 := by omega
      have hp2 : preP a b 2 = a ++ b := by simp [preP]
      rw [hp2] at hown
      simp only [hp2]
      have hln : (endsP (a ++ b)).length ≤ 8388608 := by rw [endsP_length, List.length_append]; omega
      have HO := Lib.hid hown
      clear hown hp2 hlt
      go_wp2_with fail
      refine (isort_any B d wb.heap.size _ wr HO.out (by omega)).mono ?_
      rintro e w3 ⟨rfl, xs, hperm, hsort, hown3, hg⟩
      have hE3 := row_ext HO.out hE hg
      have hxl := hperm.length_eq
      obtain ⟨A', c', hv, hrd, _, _⟩ := Own.reads hown3
      injection hv with e1 _ e2
      subst e1; subst e2
      have HR := Lib.hid hrd
      have hbx : ∀ z ∈ xs, -1048576 ≤ z ∧ z ≤ 1048576 := fun z hz => by
        have h := hperm.mem_iff.1 hz
        rw [endsP_append] at h
        rcases List.mem_append.1 h with h | h
        · exact endsP_bd h HBA.out
        · exact endsP_bd h HBB.out
      have HP : Hid (xs.Perm (endsP a ++ endsP b) ∧ xs.Pairwise (· ≤ ·)) := Lib.hid ⟨by rw [← endsP_append]; exact hperm, hsort⟩
      have HBX := Lib.hid hbx
      rw [← hxl] at hln
      simp only [← hxl]
      clear hperm hsort hown3 hg hrd hbx hE hxl HO HBA HBB
      have hEw := hEb.trans hE3
      have haw := ha.ext hEw
      have hbw := hb.ext hEw
      clear hE3 hEb kB ha hb
      go_wp2_with fail
      go_loopw [13, 14] (fun ov iv wr => ∃ (j : Nat) (B : Option Addr) (d : Nat), (j + 1 ≤ xs.length ∨ j = 0) ∧ iv = .int .i64 (j + 1 : Nat) ∧ ov = .slice B (mixOf (mixF how a b) xs j).length d ∧ OwnS wr w3.heap.size (.slice B (mixOf (mixF how a b) xs j).length d) (mixOf (mixF how a b) xs j) ∧ Ext w3 wr) (fun _ iv _ => xs.length - (intOf iv).toNat)
      case atStart => exact ⟨0, none, 0, .inr rfl, rfl, rfl, World.ownsRow_nil _ _ _ _, Ext.refl _⟩
      case round =>
        obtain ⟨j, B, d, hj, rfl, rfl, hown, hE⟩ := hrel
        obtain ⟨L, hL⟩ : ∃ L, mixOf (mixF how a b) xs j = L := ⟨_, rfl⟩
        have hLn : L.length ≤ j := by rw [← hL]; exact mixOf_length _ _ _
        rw [hL] at hown
        simp only [hL]
        have HO := Lib.hid hown
        have HL := Lib.hid hL
        clear hown hL
        by_cases hlt : j + 1 < xs.length
        · obtain ⟨xb, xo, rfl, hxc⟩ := HR.out.form (by omega)
          have hx0 := hE.cellOf (hxc j (by omega))
          have hx1 := hE.cellOf (hxc (j + 1) hlt)
          have hw0 := hxc j (by omega)
          have hw1 := hxc (j + 1) hlt
          have g0 := HBX.out _ (getD_mem (show j < xs.length by omega))
          have g1 := HBX.out _ (getD_mem hlt)
          obtain ⟨X0, hX0⟩ : ∃ X, xs.getD j 0 = X := ⟨_, rfl⟩
          obtain ⟨X1, hX1⟩ : ∃ X, xs.getD (j + 1) 0 = X := ⟨_, rfl⟩
          rw [hX0] at hx0 g0 hw0
          rw [hX1] at hx1 g1 hw1
          have HX0 := Lib.hid hX0
          have HX1 := Lib.hid hX1
          clear hX0 hX1 hxc
          have e1 : IntKind.i64.wrap ((j : Int) + 1 - 1) = j := by rw [show ((j : Int) + 1) - 1 = j by omega]; exact IntWalk.i64_in _ (by omega)
          have e4 : IntKind.i64.wrap (j : Int) = j := IntWalk.i64_in _ (by omega)
          have e6 : (j : Int) < (xs.length : Int) := by omega
          have e7 : ((j : Int) + 1 - 1).toNat = j := by omega
          have e8 : ((j : Int) + 1).toNat = j + 1 := by omega
          have e9 : (j : Int) + 1 < (xs.length : Int) := by omega
          have e10 : (0 : Int) ≤ (j : Int) + 1 := by omega
          by_cases hq : X1 = X0
          · have HN := Lib.hid (mixOf_skip (F := mixF how a b) (xs := xs) (i := j) (.inl (by rw [HX0.out, HX1.out]; exact hq)))
            have hq1 : (X1 == X0) = true := by simpa using hq
            clear hq
            go_wp2_with fail
            go_quiet (fail)
            go_wp2_with fail
            exact ⟨⟨j + 1, B, d, .inl (by omega), by go_num, by rw [HN.out, HL.out], by rw [HN.out, HL.out]; exact HO.out, hE.drewN _⟩, by simp [intOf]; omega⟩
          · have hq1 : (X1 == X0) = false := by simpa using hq
            obtain ⟨pa, hpa⟩ : ∃ p, hasP a X0 = p := ⟨_, rfl⟩
            obtain ⟨pb, hpb⟩ : ∃ p, hasP b X0 = p := ⟨_, rfl⟩
            obtain ⟨v, hv⟩ : ∃ v, meant how pa pb = v := ⟨_, rfl⟩
            have hFv : mixF how a b X0 = v := by unfold mixF; rw [hpa, hpb, hv]
            have hA2 := fun y : After wr => mixhas_any aA ca a X0 y.now (haw.ext (hE.trans y.ext)) (by omega)
            have hB2 := fun y : After wr => mixhas_any bA cb b X0 y.now (hbw.ext (hE.trans y.ext)) (by omega)
            have hI2 := fun y : After wr => HIN.out pa pb y.now
            have eg := HEG.out
            simp only [hpa] at hA2
            simp only [hpb] at hB2
            simp only [hv] at hI2
            have j1 : ∀ y : After wr, y.now.cell? ⟨xb, xo + j, none⟩ = some (.int .i64 X0) := fun y => y.ext.cellOf hx0
            have j2 : ∀ y : After wr, y.now.cell? ⟨xb, xo + (j + 1), none⟩ = some (.int .i64 X1) := fun y => y.ext.cellOf hx1
            have HV := Lib.hid hFv
            have HQ := Lib.hid hq
            clear hpa hpb hv hFv hq
            cases v
            · have HN := Lib.hid (mixOf_skip (F := mixF how a b) (xs := xs) (i := j) (.inr (by rw [HX0.out]; exact HV.out)))
              go_wp2_with fail
              refine wp_region_after (by kernel_rfl) (by kernel_rfl) ?_
              repeat (go_big_quiet_step (first | with_reducible exact Calls.after (hA2 _) | with_reducible exact Calls.after (hB2 _) | with_reducible exact Calls.after (hI2 _)))
              refine wpQuiet_nil ?_
              intro _ hw'
              obtain ⟨z, rfl⟩ := hw'
              clear j1 j2 hA2 hB2 hI2 eg
              go_wp2_with fail
              exact ⟨⟨j + 1, B, d, .inl (by omega), by go_num, by rw [HN.out, HL.out], by rw [HN.out, HL.out]; exact row_keep HO.out z.ext, hE.trans z.ext⟩, by simp [intOf]; omega⟩
            · go_wp2_with fail
              refine wp_region_after (by kernel_rfl) (by kernel_rfl) ?_
              repeat (go_big_quiet_step (first | with_reducible exact Calls.after (hA2 _) | with_reducible exact Calls.after (hB2 _) | with_reducible exact Calls.after (hI2 _)))
              refine wpQuiet_nil ?_
              intro _ hw'
              obtain ⟨z, rfl⟩ := hw'
              clear j1 j2 hA2 hB2 hI2 eg
              have hown1 := row_keep HO.out z.ext
              have hE1 := hE.trans z.ext
              replace hx0 := z.ext.cellOf hx0
              replace hx1 := z.ext.cellOf hx1
              generalize z.now = w1 at *
              have hno : ¬ (xs.getD (j + 1) 0 = xs.getD j 0 ∨ mixF how a b (xs.getD j 0) = false) := by
                rw [HX0.out, HX1.out, HV.out]
                intro h
                rcases h with h | h
                · exact HQ.out h
                · cases h
              clear hE HO hq1
              rcases List.eq_nil_or_concat L with hL0 | ⟨l0, t, hL0⟩
              · have hnew := mixOf_new hno (by rw [HL.out, hL0]; intro t ht; cases ht)
                rw [HL.out, HX0.out, HX1.out] at hnew
                have HN := Lib.hid hnew
                have hlen : L.length = 0 := by rw [hL0]; rfl
                clear hnew hno hL0
                go_wp2_with fail
                go_quiet (fail)
                replace hown1 : (w1.drewN nq).ownsRow _ _ _ _ _ _ := hown1
                replace hE1 := hE1.drewN nq
                replace hx0 : (w1.drewN nq).cell? _ = _ := hx0
                replace hx1 : (w1.drewN nq).cell? _ = _ := hx1
                clear hlen
                generalize w1.drewN nq = w1 at *
                have hb4 : (L.length + 1) * 16 ≤ 140737488355328 := by omega
                have ho4 : (w1.drew.alloc (.cells #[.int .i64 X0, .int .i64 X1] 133)).ownsRow w3.heap.size 133 2 (.slice B L.length d) (L.length) (scells L) := World.ownsRow.alloc (w := w1.drew) hown1 _
                have hsh4 : Shows (w1.drew.alloc (.cells #[.int .i64 X0, .int .i64 X1] 133)) (some ⟨w1.heap.size, 0, none⟩) (scell (X0, X1)) := fun _ => ⟨_, rfl, World.news_of_block (blk_new w1.drew _)⟩
                have hone4 : ∀ u ∈ scell (X0, X1), u.oneCell' = true := scell_one _
                have hnn4 : (some (⟨w1.heap.size, 0, none⟩ : Addr)) = none → 1 = 0 := fun h => by cases h
                have hbb4 : w3.heap.size ≤ (w1.drew.alloc (.cells #[.int .i64 X0, .int .i64 X1] 133)).heap.size := by have := hE1.size; simp; omega
                have sx : ∀ w', Ext w3 w' → Ext w3 w' ∧ w'.cell? ⟨xb, xo + j, none⟩ = some (.int .i64 X0) ∧ w'.cell? ⟨xb, xo + (j + 1), none⟩ = some (.int .i64 X1) := fun w' h => ⟨h, h.cellOf hw0, h.cellOf hw1⟩
                go_wp2_with fail
                go_region_held3 (fun w' => Ext w3 w' ∧ w'.cell? ⟨xb, xo + j, none⟩ = some (.int .i64 X0) ∧ w'.cell? ⟨xb, xo + (j + 1), none⟩ = some (.int .i64 X1)) ((refine sx _ ?_; (repeat' (first | exact And.left (by assumption) | assumption | refine Ext.alloc ?_ _ | refine Ext.drew ?_ | exact hE1)))) (first | ((refine step_app w3.heap.size rfl (.tmp 105) (.tmp 116) 127 133 (.agg #[.int .i64 0, .int .i64 0]) 2 16 rfl Try.underlying127 info_span rfl (by decide) (by decide) (.slice B L.length d) (L.length) (scells L) rfl ho4 (some ⟨w1.heap.size, 0, none⟩) 1 1 (scell (X0, X1)) rfl hnn4 rfl hsh4 hone4 hb4 hbb4 (fun B5 d5 w5 hr5 hg5 => ?_); have hE5 : Ext w3 w5 := row_ext ho4 ((hE1.drew).alloc _) hg5)))
                have hr6 : OwnS w5 w3.heap.size (.slice B5 (L ++ [(X0, X1)]).length d5) (L ++ [(X0, X1)]) := by
                  unfold OwnS
                  rw [List.length_append, scells_snoc]
                  exact hr5
                clear hr5 hg5 ho4 hsh4 hone4 hnn4 hbb4 hb4 sx hown1
                go_wp2_with fail
                exact ⟨⟨j + 1, B5, d5, .inl (by omega), by go_num, by rw [HN.out, List.length_append]; rfl, by rw [HN.out]; exact hr6, hE5⟩, by simp [intOf]; omega⟩
              · rw [List.concat_eq_append] at hL0
                obtain ⟨m, hm⟩ : ∃ m, l0.length = m := ⟨_, rfl⟩
                have hLm : L.length = m + 1 := by rw [hL0, ← hm]; simp
                have hlast : L[m]? = some t := by rw [hL0, ← hm]; simp
                obtain ⟨g, rfl, hgb⟩ := row_form hown1 (by omega)
                have q1 := (World.ownsRow.cellAt hown1 (m * 2 + 1) (by omega)).trans (scells_get hlast 1 (by decide))
                simp only [scell, List.getElem?_cons_zero, List.getElem?_cons_succ, Nat.add_zero] at q1
                have hown2 := hown1
                unfold OwnS at hown2
                rw [hLm] at hown2
                have HM := Lib.hid hm
                clear hm hlast hown1
                simp only [hLm]
                have m1 : IntKind.i64.wrap ((m : Int) + 1 - 1) = m := by rw [show ((m : Int) + 1) - 1 = m by omega]; exact IntWalk.i64_in _ (by omega)
                have m4 : IntKind.i64.wrap (m : Int) = m := IntWalk.i64_in _ (by omega)
                have m6 : (m : Int) < (m : Int) + 1 := by omega
                have m7 : ((m : Int) + 1 - 1).toNat = m := by omega
                by_cases htx : t.2 = X0
                · have htx1 : (t.2 == X0) = true := by simpa using htx
                  have hfu := mixOf_fuse hno (by rw [HL.out, hL0]) (htx.trans HX0.out.symm)
                  rw [HX1.out] at hfu
                  have hst0 : ∀ W : World, W.ownsRow w3.heap.size 133 2 (.slice (some ⟨g, 0, none⟩) (m + 1) d) (m + 1) (scells L) → (W.setCell ⟨g, m * 2 + 1, none⟩ (.int .i64 X1)).ownsRow w3.heap.size 133 2 (.slice (some ⟨g, 0, none⟩) (m + 1) d) (m + 1) (scells (mixOf (mixF how a b) xs (j + 1))) := fun W hW => by
                    have h := (World.ownsRow.stored hW (m * 2 + 1) (.int .i64 X1)).1
                    rw [hL0, scells_setl HM.out] at h
                    rw [hfu]
                    exact h
                  have hgn : (mixOf (mixF how a b) xs (j + 1)).length = m + 1 := by rw [hfu, List.length_append, HM.out]; rfl
                  have HST := Lib.hid hst0
                  have HGN := Lib.hid hgn
                  have hfr := fun j => World.ownsRow.frozenAt hown2 j
                  clear hfu hst0 hgn hno hL0 htx hLm
                  go_wp2_with fail
                  go_quiet (fail)
                  replace hown2 : (w1.drewN nq).ownsRow _ _ _ _ _ _ := hown2
                  replace hE1 := hE1.drewN nq
                  go_wp2_with fail
                  exact ⟨⟨j + 1, some ⟨g, 0, none⟩, d, .inl (by omega), by go_num, by rw [HGN.out], by unfold OwnS; rw [HGN.out]; exact HST.out _ hown2, hE1.set (p := ⟨g, m * 2 + 1, none⟩) (by simpa using hgb) _⟩, by simp [intOf]; omega⟩
                · have htx1 : (t.2 == X0) = false := by simpa using htx
                  have hnew := mixOf_new hno (by rw [HL.out, hL0]; intro t' ht'; simp at ht'; subst ht'; rw [HX0.out]; exact htx)
                  rw [HL.out, HX0.out, HX1.out] at hnew
                  have HN := Lib.hid hnew
                  have HLm := Lib.hid hLm
                  clear hnew hno hL0 htx hLm
                  go_wp2_with fail
                  go_quiet (fail)
                  replace hown2 : (w1.drewN nq).ownsRow _ _ _ _ _ _ := hown2
                  replace hE1 := hE1.drewN nq
                  replace hx0 : (w1.drewN nq).cell? _ = _ := hx0
                  replace hx1 : (w1.drewN nq).cell? _ = _ := hx1
                  have hmj : m + 1 ≤ j := by have := HLm.out; omega
                  clear htx1 q1 m1 m4 m6 m7
                  have hmj2 : m + 1 ≤ 8388608 := by omega
                  generalize w1.drewN nq = w1 at *
                  have hb4 : (m + 1 + 1) * 16 ≤ 140737488355328 := by omega
                  have ho4 : (w1.drew.alloc (.cells #[.int .i64 X0, .int .i64 X1] 133)).ownsRow w3.heap.size 133 2 (.slice (some ⟨g, 0, none⟩) (m + 1) d) (m + 1) (scells L) := World.ownsRow.alloc (w := w1.drew) hown2 _
                  have hsh4 : Shows (w1.drew.alloc (.cells #[.int .i64 X0, .int .i64 X1] 133)) (some ⟨w1.heap.size, 0, none⟩) (scell (X0, X1)) := fun _ => ⟨_, rfl, World.news_of_block (blk_new w1.drew _)⟩
                  have hone4 : ∀ u ∈ scell (X0, X1), u.oneCell' = true := scell_one _
                  have hnn4 : (some (⟨w1.heap.size, 0, none⟩ : Addr)) = none → 1 = 0 := fun h => by cases h
                  have hbb4 : w3.heap.size ≤ (w1.drew.alloc (.cells #[.int .i64 X0, .int .i64 X1] 133)).heap.size := by have := hE1.size; simp; omega
                  have sx : ∀ w', Ext w3 w' → Ext w3 w' ∧ w'.cell? ⟨xb, xo + j, none⟩ = some (.int .i64 X0) ∧ w'.cell? ⟨xb, xo + (j + 1), none⟩ = some (.int .i64 X1) := fun w' h => ⟨h, h.cellOf hw0, h.cellOf hw1⟩
                  go_wp2_with fail
                  go_region_held3 (fun w' => Ext w3 w' ∧ w'.cell? ⟨xb, xo + j, none⟩ = some (.int .i64 X0) ∧ w'.cell? ⟨xb, xo + (j + 1), none⟩ = some (.int .i64 X1)) ((refine sx _ ?_; (repeat' (first | exact And.left (by assumption) | assumption | refine Ext.alloc ?_ _ | refine Ext.drew ?_ | exact hE1)))) (first | ((refine step_app w3.heap.size rfl (.tmp 105) (.tmp 116) 127 133 (.agg #[.int .i64 0, .int .i64 0]) 2 16 rfl Try.underlying127 info_span rfl (by decide) (by decide) (.slice (some ⟨g, 0, none⟩) (m + 1) d) (m + 1) (scells L) rfl ho4 (some ⟨w1.heap.size, 0, none⟩) 1 1 (scell (X0, X1)) rfl hnn4 rfl hsh4 hone4 hb4 hbb4 (fun B5 d5 w5 hr5 hg5 => ?_); have hE5 : Ext w3 w5 := row_ext ho4 ((hE1.drew).alloc _) hg5)))
                  have hr6 : OwnS w5 w3.heap.size (.slice B5 (L ++ [(X0, X1)]).length d5) (L ++ [(X0, X1)]) := by
                    unfold OwnS
                    rw [List.length_append, scells_snoc, HLm.out]
                    exact hr5
                  clear hr5 hg5 ho4 hsh4 hone4 hnn4 hbb4 hb4 sx hown2
                  go_wp2_with fail
                  exact ⟨⟨j + 1, B5, d5, .inl (by omega), by go_num, by rw [HN.out, List.length_append, HLm.out]; rfl, by rw [HN.out]; exact hr6, hE5⟩, by simp [intOf]; omega⟩
        · have hje : j = xs.length - 1 := by omega
          have HF : Hid (L = mixOf (mixF how a b) xs (xs.length - 1)) := by
            have := HL.out
            rw [hje] at this
            exact Lib.hid this.symm
          have HSP := Lib.hid (OwnS.blk HO.out)
          clear HL hje
          go_wp2_with fail
          go_ret
          exact ⟨B, d, xs, HP.out.1, HP.out.2, by rw [← HF.out]; rfl, by rw [← HF.out]; exact HSP.out, hEw.trans hE⟩
end Go.Proofs.Ytjghghbldifhaaa
