/- The walk of the iterator of region.cuts. -/
/- slices.Equal at pieces and at rectangles. -/
/- The walk of region.of: the list in form of what is meant. -/
import Derived.Test.YtjghghbldifhaaaRegH
import Derived.Test.YtjghghbldifhaaaRegB
import Derived.Test.YtjghghbldifhaaaSpA
import Derived.Test.YtjghghbldifhaaaRunsG
import Derived.Test.YtjghghbldifhaaaSched
import Derived.Test.YtjghghbldifhaaaPixF
set_option linter.unusedVariables false
set_option linter.unusedSimpArgs false
namespace Go.Proofs.Ytjghghbldifhaaa
open Go.RowKit Go.Shelf
attribute [local go_sem] Oper.semAt_some

/-- A band that the iterator hands on: from where to where. -/
def bandArgs (ys : List Int) (i : Nat) : Array Value := #[.int .i64 (ys.getD i 0), .int .i64 (ys.getD (i + 1) 0)]
set_option maxRecDepth 100000 in
set_option maxHeartbeats 2000000 in
theorem cuts1_in (n : Nat) (hn : 1 ≤ n) (l Y : Nat) (A : Option Addr) (c N : Nat) (ys : List Int) (hN : N = ys.length - 1) (hys : ys.length ≤ 4194304) (J Jx : List (Fin N) → World → Prop) (w : World) (p : Nat → Prop) (hp1 : p Y) (hp2 : ∀ g o, A = some ⟨g, o, none⟩ → p g)
    (hJ : AbidesFrom w.heap.size J)
    (hY : ∀ (pre : List (Fin N)) (i : Fin N) (W1 : World), J pre W1 → pre.length < N → YieldAt Fence.wide (n - 1) Try.prog l (bandArgs ys i.val) W1 fun e W' =>
      (e = .returned (.bool true) ∧ J (pre ++ [i]) W' ∧ KeptP p W1 W') ∨ (e = .returned (.bool false) ∧ Jx (pre ++ [i]) W'))
    (kY : w.heap[Y]? = some (.cells #[.slice A ys.length c] 46 (0, 0))) (base : Nat) (hown : Own .i64 3 w base (.slice A ys.length c) ys)
    (h0 : J [] w) :
    CallsIn Fence.wide n Try.prog 129 #[.func (.yield l) #[] #[], .pointer (some ⟨Y, 0, none⟩)] w fun e W' => (∃ v, e = .returned v) ∧
      ((∃ zs : List (Fin N), zs.map Fin.val = List.range N ∧ J zs W') ∨ (∃ pre : List (Fin N), Jx pre W')) := by
  refine callsIn_of_wp Try.func129 rfl trivial ?_ rfl
  simp only [Try.ntmps129, List.size_toArray, List.length_cons, List.length_nil, Nat.reduceAdd, Nat.reduceSub, Array.replicate_succ, Array.replicate_zero, List.push_toArray, List.append_toArray, List.nil_append, List.cons_append]
  -- the row of the cuts, as a block that stays
  have hrow : ys.length = 0 ∨ ∃ g cur, A = some ⟨g, 0, none⟩ ∧ w.heap[g]? = some (.cells cur 3 (0, 0)) ∧ ∀ i, i < ys.length → cur[i]? = some (.int .i64 (ys.getD i 0)) := by
    obtain ⟨h1, h2⟩ := hown
    rcases h2 with ⟨_, h3⟩ | ⟨g, cap, cur, e1, e2, e3, e4, e5, e6, e7⟩
    · exact .inl h3
    · injection e1 with e1
      refine .inr ⟨g, cur, e1, e3, fun i hi => ?_⟩
      have := congrArg (fun l : List Value => l[i]?) e7
      rw [List.getElem?_take_of_lt (by omega), nums_get hi, Array.getElem?_toList] at this
      exact this
  have HR := Lib.hid hrow
  clear hrow hown
  gi_wp2
  gi_loopw [3] (fun iv wr => ∃ (k : Nat) (pre : List (Fin N)), k ≤ N ∧ iv = .int .i64 (k + 1 : Nat) ∧ pre.map Fin.val = List.range k ∧ J pre wr ∧ wr.heap[Y]? = some (.cells #[.slice A ys.length c] 46 (0, 0)) ∧ (ys.length = 0 ∨ ∃ g cur, A = some ⟨g, 0, none⟩ ∧ wr.heap[g]? = some (.cells cur 3 (0, 0)) ∧ ∀ i, i < ys.length → cur[i]? = some (.int .i64 (ys.getD i 0))))
    (fun iv _ => ys.length - (intOf iv).toNat)
  case atStart => exact ⟨0, [], Nat.zero_le _, rfl, rfl, h0, kY, HR.out⟩
  case round =>
    clear h0 kY HR
    obtain ⟨k, pre, hk, rfl, hpre, hJs, kY, hrow⟩ := hrel
    obtain ⟨cY, fY⟩ := blk_rules kY
    have Hpre := Lib.hid hpre
    have HN := Lib.hid hN
    have HR := Lib.hid hrow
    clear hpre hN hrow
    by_cases hlt : k < N
    · have hkl : k + 1 < ys.length := by have := HN.out; omega
      obtain ⟨g, cur, rfl, hg, hcur⟩ : ∃ g cur, A = some ⟨g, 0, none⟩ ∧ wr.heap[g]? = some (.cells cur 3 (0, 0)) ∧ ∀ i, i < ys.length → cur[i]? = some (.int .i64 (ys.getD i 0)) := by
        rcases HR.out with h | h
        · omega
        · exact h
      have hc0 : wr.cell? ⟨g, k, none⟩ = some (.int .i64 (ys.getD k 0)) := (blk_cell hg k).trans (hcur k (by omega))
      have hc1 : wr.cell? ⟨g, k + 1, none⟩ = some (.int .i64 (ys.getD (k + 1) 0)) := (blk_cell hg (k + 1)).trans (hcur (k + 1) hkl)
      obtain ⟨y0, hy0⟩ : ∃ y0, ys.getD k 0 = y0 := ⟨_, rfl⟩
      obtain ⟨y1, hy1⟩ : ∃ y1, ys.getD (k + 1) 0 = y1 := ⟨_, rfl⟩
      rw [hy0] at hc0
      rw [hy1] at hc1
      have HY0 := Lib.hid hy0
      have HY1 := Lib.hid hy1
      have HG := Lib.hid hg
      have HCU := Lib.hid hcur
      have e1 : IntKind.i64.wrap ((k : Int) + 1 - 1) = k := by rw [show ((k : Int) + 1) - 1 = k by omega]; exact IntWalk.i64_in _ (by omega)
      have e4 : IntKind.i64.wrap (k : Int) = k := IntWalk.i64_in _ (by omega)
      have e6 : (k : Int) < (ys.length : Int) := by omega
      have e7 : ((k : Int) + 1 - 1).toNat = k := by omega
      have e8 : ((k : Int) + 1).toNat = k + 1 := by omega
      have e9 : (k : Int) + 1 < (ys.length : Int) := by omega
      have e10 : (0 : Int) ≤ (k : Int) + 1 := by omega
      clear hg hcur HR hy0 hy1
      gi_wp2
      refine wpIn_region_tail 10 (by kernel_rfl) (by kernel_rfl) ?_
      simp only [List.take_succ_cons, List.take_zero, List.drop_succ_cons, List.drop_zero]
      repeat still_step
      refine wpStill_nil ?_
      change wpListIn Fence.wide n _ _ _ _ _ wr.drew
      clear hc0 hc1 e1 e4 e6 e7 e8 e9 e10
      replace hJs : J pre wr.drew := abides_ext hJ hJs (Ext.refl wr).drew
      obtain ⟨fn, tmps, assign, body, hy, hRd⟩ := hY pre ⟨k, hlt⟩ wr.drew hJs (by have := congrArg List.length Hpre.out; simp at this; omega)
      dsimp only [bandArgs] at hy
      rw [HY0.out, HY1.out] at hy
      gi_wp2
      refine hRd.mono ?_
      rintro e W3 (⟨rfl, hJ3, hk3⟩ | ⟨rfl, hJx3⟩)
      · have kY' := hk3 _ _ _ _ hp1 kY
        have hg' := hk3 _ _ _ _ (hp2 g 0 rfl) HG.out
        clear cY fY kY
        gi_wp2
        go_roundw
        case rel => exact ⟨k + 1, pre ++ [⟨k, hlt⟩], by omega, by go_num, by rw [List.map_append, Hpre.out, List.range_succ]; rfl, hJ3, kY', .inr ⟨g, cur, rfl, hg', HCU.out⟩⟩
        case measure => simp [intOf]; omega
      · clear cY fY kY
        gi_wp2
        refine bodyPost_ret (results_none rfl _ _ _) rfl ?_
        exact ⟨⟨_, rfl⟩, .inr ⟨_, hJx3⟩⟩
    · obtain rfl : k = N := by omega
      have hge : ¬ ((k : Int) + 1 < (ys.length : Int)) := by have := HN.out; omega
      have hge2 : decide ((k : Int) + 1 < (ys.length : Int)) = false := by simpa using hge
      clear HR HN
      gi_wp2
      go_end0
      exact ⟨⟨_, rfl⟩, .inl ⟨pre, Hpre.out, hJs⟩⟩
end Go.Proofs.Ytjghghbldifhaaa
set_option linter.unusedVariables false
set_option linter.unusedSimpArgs false
namespace Go.Proofs.Ytjghghbldifhaaa
open Go.RowKit
def eqS (a b : List Piece) : Bool := decide (a = b)
theorem eqS_len {a b : List Piece} (h : a.length ≠ b.length) : eqS a b = false := by simp only [eqS, decide_eq_false_iff_not]; intro e; exact h (by rw [e])
def pieceNe (x a p c : Int) : Bool := !(decide (x = p) && decide (a = c))
theorem neq_span (x a p c : Int) (w : World) : (binOp .neq 133 (.agg #[.int .i64 x, .int .i64 a]) (.agg #[.int .i64 p, .int .i64 c])).run Try.prog w = .ok (.bool (pieceNe x a p c)) w := by
  have hS : Try.prog.underlying 133 = some (.struct (Try.prog.fieldsOf 133)) := by kernel_rfl
  have hp : Try.prog.stoodInHeld 133 = false := by kernel_rfl
  rw [run_neq_struct, show (10000 : Nat) = 9999 + 1 from rfl, run_equalIn_agg w 9999 133 _ _ hS hp]
  simp only [Program.fieldsOf, Try.underlying133]
  go_simp
  simp only [pieceNe]
  by_cases h1 : x = p <;> by_cases h3 : a = c <;> simp [h1, h3]
section
attribute [local go_sem ↓] neq_span neq_rect
set_option maxHeartbeats 2000000 in
theorem sequalS_any (A B : Option Addr) (c d : Nat) (a b : List Piece) (w : World) (ha : SpansAt w A a) (hb : SpansAt w B b) (hm : a.length ≤ 9223372036854775807) (hn : b.length ≤ 9223372036854775807) :
    Calls Try.prog 116 #[.slice A a.length c, .slice B b.length d] w fun e w' => e = .returned (.bool (eqS a b)) ∧ Ext w w' := by
  by_cases hl : a.length = b.length
  · have hl1 : ((a.length : Nat) != b.length) = false := by simp [hl]
    go_enter Try.func116, Try.ntmps116
    have Hl := Lib.hid hl
    clear hl
    go_wp2_with fail
    go_loopw [13] (fun i wr => ∃ k : Nat, k ≤ a.length ∧ i = .int .i64 k ∧ a.take k = b.take k ∧ Ext w wr) (fun i _ => a.length - (intOf i).toNat)
    case atStart => exact ⟨0, Nat.zero_le _, rfl, by simp, Ext.refl _⟩
    case round =>
      obtain ⟨k, hk, rfl, ht, hE⟩ := hrel
      have Ht := Lib.hid ht
      clear ht
      by_cases hlt : k < a.length
      · have hlt2 : k < b.length := by have := Hl.out; omega
        obtain ⟨b1, o1, rfl, h1⟩ := (ha.ext hE).form (by omega)
        obtain ⟨b2, o2, rfl, h2⟩ := (hb.ext hE).form (by omega)
        obtain ⟨p0, p1⟩ := h1 k a[k] (List.getElem?_eq_getElem hlt)
        obtain ⟨q0, q1⟩ := h2 k b[k] (List.getElem?_eq_getElem hlt2)
        have t1 := List.take_succ_eq_append_getElem hlt
        have t2 := List.take_succ_eq_append_getElem hlt2
        have Ht2 : Hid (a[k] = b[k] → a.take (k + 1) = b.take (k + 1)) := fun e => by rw [t1, t2, Ht.out, e]
        have Ht3 : Hid (a[k] ≠ b[k] → eqS a b = false) := fun e => by
          simp only [eqS, decide_eq_false_iff_not]
          intro e2
          subst e2
          exact e rfl
        clear t1 t2 h1 h2
        generalize a[k] = p at *
        generalize b[k] = q at *
        cases he : pieceNe p.1 p.2 q.1 q.2
        · have hpq : p = q := by
            simp [pieceNe] at he
            exact Prod.ext he.1 he.2
          have HT := Lib.hid (Ht2.out hpq)
          clear hpq Ht2 Ht3
          go_wp2_with fail
          go_quiet (fail)
          go_wp2_with fail
          exact ⟨⟨k + 1, by omega, by go_num, HT.out, hE.drewN _⟩, by simp [intOf]; omega⟩
        · have hne : p ≠ q := fun e => by
            subst e
            simp [pieceNe] at he
          have HN := Lib.hid (Ht3.out hne)
          clear hne Ht2 Ht3
          go_wp2_with fail
          go_quiet (fail)
          go_wp2_with fail
          go_ret
          exact ⟨by rw [HN.out]; rfl, hE.drewN _⟩
      · have he : eqS a b = true := by
          have := Ht.out
          have h2 := Hl.out
          rw [List.take_of_length_le (by omega), List.take_of_length_le (by omega)] at this
          simpa [eqS] using this
        have He := Lib.hid he
        clear he
        go_wp2_with fail
        go_ret
        exact ⟨by rw [He.out]; rfl, hE⟩
  · have hl1 : ((a.length : Nat) != b.length) = true := by simpa using hl
    rw [eqS_len hl]
    go_enter Try.func116, Try.ntmps116
    go_wp2_with fail
    go_ret
    exact ⟨rfl, Ext.refl _⟩
set_option maxHeartbeats 2000000 in
theorem sequalR_any (A B : Option Addr) (c d : Nat) (a b : List Rect) (w : World) (ha : RectsAt w A a) (hb : RectsAt w B b) (hm : a.length ≤ 9223372036854775807) (hn : b.length ≤ 9223372036854775807) :
    Calls Try.prog 85 #[.slice A a.length c, .slice B b.length d] w fun e w' => e = .returned (.bool (eqR a b)) ∧ Ext w w' := by
  by_cases hl : a.length = b.length
  · have hl1 : ((a.length : Nat) != b.length) = false := by simp [hl]
    go_enter Try.func85, Try.ntmps85
    have Hl := Lib.hid hl
    clear hl
    go_wp2_with fail
    go_loopw [13] (fun i wr => ∃ k : Nat, k ≤ a.length ∧ i = .int .i64 k ∧ a.take k = b.take k ∧ Ext w wr) (fun i _ => a.length - (intOf i).toNat)
    case atStart => exact ⟨0, Nat.zero_le _, rfl, by simp, Ext.refl _⟩
    case round =>
      obtain ⟨k, hk, rfl, ht, hE⟩ := hrel
      have Ht := Lib.hid ht
      clear ht
      by_cases hlt : k < a.length
      · have hlt2 : k < b.length := by have := Hl.out; omega
        obtain ⟨b1, o1, rfl, h1⟩ := (ha.ext hE).form (by omega)
        obtain ⟨b2, o2, rfl, h2⟩ := (hb.ext hE).form (by omega)
        obtain ⟨p0, p1, p2, p3⟩ := h1 k a[k] (List.getElem?_eq_getElem hlt)
        obtain ⟨q0, q1, q2, q3⟩ := h2 k b[k] (List.getElem?_eq_getElem hlt2)
        have t1 := List.take_succ_eq_append_getElem hlt
        have t2 := List.take_succ_eq_append_getElem hlt2
        have Ht2 : Hid (a[k] = b[k] → a.take (k + 1) = b.take (k + 1)) := fun e => by rw [t1, t2, Ht.out, e]
        have Ht3 : Hid (a[k] ≠ b[k] → eqR a b = false) := fun e => by
          simp only [eqR, decide_eq_false_iff_not]
          intro e2
          subst e2
          exact e rfl
        clear t1 t2 h1 h2
        generalize a[k] = p at *
        generalize b[k] = q at *
        cases he : Rect.eqB ⟨p.x, p.y, p.w, p.h⟩ ⟨q.x, q.y, q.w, q.h⟩
        · have hne : p ≠ q := fun e => by
            subst e
            rw [Rect.eqB_iff.2 rfl] at he
            cases he
          have HN := Lib.hid (Ht3.out hne)
          clear hne Ht2 Ht3
          go_wp2_with fail
          go_quiet (fail)
          go_wp2_with fail
          go_ret
          exact ⟨by rw [HN.out]; rfl, hE.drewN _⟩
        · have hpq : p = q := Rect.eqB_iff.1 he
          have HT := Lib.hid (Ht2.out hpq)
          clear hpq Ht2 Ht3
          go_wp2_with fail
          go_quiet (fail)
          go_wp2_with fail
          exact ⟨⟨k + 1, by omega, by go_num, HT.out, hE.drewN _⟩, by simp [intOf]; omega⟩
      · have he : eqR a b = true := by
          have := Ht.out
          have h2 := Hl.out
          rw [List.take_of_length_le (by omega), List.take_of_length_le (by omega)] at this
          simpa [eqR] using this
        have He := Lib.hid he
        clear he
        go_wp2_with fail
        go_ret
        exact ⟨by rw [He.out]; rfl, hE⟩
  · have hl1 : ((a.length : Nat) != b.length) = true := by simpa using hl
    rw [eqR_len hl]
    go_enter Try.func85, Try.ntmps85
    go_wp2_with fail
    go_ret
    exact ⟨rfl, Ext.refl _⟩
end
end Go.Proofs.Ytjghghbldifhaaa
set_option linter.unusedVariables false
set_option linter.unusedSimpArgs false
namespace Go.Proofs.Ytjghghbldifhaaa
open Go.RowKit Go.Shelf
attribute [local go_sem] Oper.semAt_some

/-- What a round of region.of leaves in memory: s, s + 1, s + 2: its arguments, boxed; s + 3: the list; s + 4: the pieces of the last band; s + 5: where it ends; s + 6: how many they are. -/
structure OfAt (w W : World) (s bs : Nat) (aA bA : Option Addr) (an bn ca cb K : Nat) (st : OfSt) (B LA : Option Addr) (d lc : Nat) : Prop where
  k0 : W.heap[s]? = some (.cells #[.slice aA an ca] 22 (0, 0))
  k1 : W.heap[s + 1]? = some (.cells #[.slice bA bn cb] 22 (0, 0))
  k2 : W.heap[s + 1 + 1]? = some (.cells #[.func (.func K) #[] #[]] 96 (0, 0))
  kout : W.heap[s + 1 + 1 + 1]? = some (.cells #[.slice B st.O.length d] 22 (0, 0))
  klast : W.heap[s + 1 + 1 + 1 + 1]? = some (.cells #[.slice LA st.last.length lc] 127 (0, 0))
  kend : W.heap[s + 1 + 1 + 1 + 1 + 1]? = some (.cells #[.int .i64 st.E] 3 (0, 0))
  kn : W.heap[s + 1 + 1 + 1 + 1 + 1 + 1]? = some (.cells #[.int .i64 st.last.length] 3 (0, 0))
  own : OwnR W bs (.slice B st.O.length d) st.O
  sb : s + 8 ≤ bs
  ws : w.heap.size ≤ s
  spans : SpansB W LA st.last
  ext : Ext w W
  size : bs ≤ W.heap.size
section
variable {w W W' : World} {s bs an bn ca cb K d lc : Nat} {aA bA B LA : Option Addr} {st : OfSt}
theorem OfAt.keep (h : OfAt w W s bs aA bA an bn ca cb K st B LA d lc) (hE : Ext W W') : OfAt w W' s bs aA bA an bn ca cb K st B LA d lc :=
  ⟨hE.keep h.k0, hE.keep h.k1, hE.keep h.k2, hE.keep h.kout, hE.keep h.klast, hE.keep h.kend, hE.keep h.kn, row_keep h.own hE, h.sb, h.ws, h.spans.ext hE, h.ext.trans hE, Nat.le_trans h.size hE.size⟩
theorem row_turn {W W' : World} {base size n : Nat} {e : TypeId} {v : Value} {xs : List Value} {row : Option Nat} (hg : W.grownBy W' row) (hr : ∀ r, row = some r → ∃ o : Obj, W.heap[r]? = some o ∧ o.isCells = false) (h : W.ownsRow base e size v n xs) : W'.ownsRow base e size v n xs := by
  obtain ⟨h1, h2⟩ := h
  refine ⟨h1, ?_⟩
  rcases h2 with h2 | ⟨g, cap, cur, e1, e2, e3, e4⟩
  · exact .inl h2
  · exact .inr ⟨g, cap, cur, e1, e2, heap_turn hg hr e3, e4⟩
theorem OfAt.turn (h : OfAt w W s bs aA bA an bn ca cb K st B LA d lc) {row : Option Nat} (hg : W.grownBy W' row) (hr : ∀ r, row = some r → ∃ o : Obj, W.heap[r]? = some o ∧ o.isCells = false) (hb : ∀ r, row = some r → w.heap.size ≤ r) : OfAt w W' s bs aA bA an bn ca cb K st B LA d lc :=
  ⟨heap_turn hg hr h.k0, heap_turn hg hr h.k1, heap_turn hg hr h.k2, heap_turn hg hr h.kout, heap_turn hg hr h.klast, heap_turn hg hr h.kend, heap_turn hg hr h.kn, row_turn hg hr h.own, h.sb, h.ws, h.spans.keep (fun g cur hc => heap_turn hg hr hc), Below.grown h.ext hg h.ext.size hb, Nat.le_trans h.size hg.size⟩
theorem OfAt.setEnd (h : OfAt w W s bs aA bA an bn ca cb K st B LA d lc) (v : Int) : OfAt w (W.setCell ⟨s + 1 + 1 + 1 + 1 + 1, 0, none⟩ (.int .i64 v)) s bs aA bA an bn ca cb K ⟨st.O, st.last, v⟩ B LA d lc := by
  have hsb := h.sb
  have hws := h.ws
  refine ⟨blk_set_ne h.k0 (by omega) _ _, blk_set_ne h.k1 (by omega) _ _, blk_set_ne h.k2 (by omega) _ _, blk_set_ne h.kout (by omega) _ _, blk_set_ne h.klast (by omega) _ _, by simpa using blk_set h.kend 0 (.int .i64 v), blk_set_ne h.kn (by omega) _ _, row_below h.own (grown_set _ _ _ _) (by omega), h.sb, h.ws, h.spans.keep (fun g cur hc => blk_set_ne hc (fun e => by
    subst e
    have := hc.symm.trans h.kend
    injection this with this
    injection this with _ e2 _
    cases e2) _ _), h.ext.set (p := ⟨s + 1 + 1 + 1 + 1 + 1, 0, none⟩) (by dsimp only; omega) _, ?_⟩
  have : (W.setCell ⟨s + 1 + 1 + 1 + 1 + 1, 0, none⟩ (.int .i64 v)).heap.size = W.heap.size := by simp [World.setCell]
  rw [this]
  exact h.size
/-- The three stores at a round's end. -/
theorem OfAt.setAll (h : OfAt w W s bs aA bA an bn ca cb K st B LA d lc) {NA : Option Addr} {nc : Nat} {now : List Piece} (hn : SpansB W NA now) (v : Int) : OfAt w (((W.setCell ⟨s + 1 + 1 + 1 + 1, 0, none⟩ (.slice NA now.length nc)).setCell ⟨s + 1 + 1 + 1 + 1 + 1, 0, none⟩ (.int .i64 v)).setCell ⟨s + 1 + 1 + 1 + 1 + 1 + 1, 0, none⟩ (.int .i64 now.length)) s bs aA bA an bn ca cb K ⟨st.O, now, v⟩ B NA d nc := by
  have hsb := h.sb
  have hws := h.ws
  have t4 : ∀ (g : Nat) (cur : Array Value), W.heap[g]? = some (.cells cur 133 (0, 0)) → g ≠ s + 1 + 1 + 1 + 1 ∧ g ≠ s + 1 + 1 + 1 + 1 + 1 ∧ g ≠ s + 1 + 1 + 1 + 1 + 1 + 1 := fun g cur hc => by
    refine ⟨fun e => ?_, fun e => ?_, fun e => ?_⟩
    · subst e
      have := hc.symm.trans h.klast
      injection this with this
      injection this with _ e2 _
      cases e2
    · subst e
      have := hc.symm.trans h.kend
      injection this with this
      injection this with _ e2 _
      cases e2
    · subst e
      have := hc.symm.trans h.kn
      injection this with this
      injection this with _ e2 _
      cases e2
  refine ⟨blk_set_ne (blk_set_ne (blk_set_ne h.k0 (by omega) _ _) (by omega) _ _) (by omega) _ _, blk_set_ne (blk_set_ne (blk_set_ne h.k1 (by omega) _ _) (by omega) _ _) (by omega) _ _, blk_set_ne (blk_set_ne (blk_set_ne h.k2 (by omega) _ _) (by omega) _ _) (by omega) _ _, blk_set_ne (blk_set_ne (blk_set_ne h.kout (by omega) _ _) (by omega) _ _) (by omega) _ _,
    blk_set_ne (blk_set_ne (by simpa using blk_set h.klast 0 (.slice NA now.length nc)) (by omega) _ _) (by omega) _ _, blk_set_ne (by simpa using blk_set (blk_set_ne h.kend (show s + 1 + 1 + 1 + 1 + 1 ≠ s + 1 + 1 + 1 + 1 by omega) 0 (.slice NA now.length nc)) 0 (.int .i64 v)) (by omega) _ _, by simpa using blk_set (blk_set_ne (blk_set_ne h.kn (show s + 1 + 1 + 1 + 1 + 1 + 1 ≠ s + 1 + 1 + 1 + 1 by omega) 0 (.slice NA now.length nc)) (show s + 1 + 1 + 1 + 1 + 1 + 1 ≠ s + 1 + 1 + 1 + 1 + 1 by omega) 0 (.int .i64 v)) 0 (.int .i64 now.length),
    row_below (row_below (row_below h.own (grown_set _ _ _ _) (by omega)) (grown_set _ _ _ _) (by omega)) (grown_set _ _ _ _) (by omega), h.sb, h.ws, hn.keep (fun g cur hc => blk_set_ne (blk_set_ne (blk_set_ne hc (t4 g cur hc).1 _ _) (t4 g cur hc).2.1 _ _) (t4 g cur hc).2.2 _ _), ?_, ?_⟩
  · exact ((h.ext.set (p := ⟨s + 1 + 1 + 1 + 1, 0, none⟩) (by dsimp only; omega) _).set (p := ⟨s + 1 + 1 + 1 + 1 + 1, 0, none⟩) (by dsimp only; omega) _).set (p := ⟨s + 1 + 1 + 1 + 1 + 1 + 1, 0, none⟩) (by dsimp only; omega) _
  · have : (((W.setCell ⟨s + 1 + 1 + 1 + 1, 0, none⟩ (.slice NA now.length nc)).setCell ⟨s + 1 + 1 + 1 + 1 + 1, 0, none⟩ (.int .i64 v)).setCell ⟨s + 1 + 1 + 1 + 1 + 1 + 1, 0, none⟩ (.int .i64 now.length)).heap.size = W.heap.size := by simp [World.setCell]
    rw [this]
    exact h.size
/-- The list's row turned, and its slice laid anew. -/
theorem OfAt.row (h : OfAt w W s bs aA bA an bn ca cb K st B LA d lc) {W2 W3 : World} {B5 : Option Addr} {d5 : Nat} {O5 : List Rect} (hE : Ext W W2) (hg : W2.grownBy W3 (Value.slice B st.O.length d).ownBlock) (hr : OwnR W3 bs (.slice B5 O5.length d5) O5) :
    OfAt w (W3.setCell ⟨s + 1 + 1 + 1, 0, none⟩ (.slice B5 O5.length d5)) s bs aA bA an bn ca cb K ⟨O5, st.last, st.E⟩ B5 LA d5 lc := by
  have h2 := h.keep hE
  have hsb := h.sb
  have hws := h.ws
  have hb : ∀ r, (Value.slice B st.O.length d).ownBlock = some r → bs ≤ r := fun r e => (World.ownsRow.lt h.own r e).1
  have hkeep : ∀ {k : Nat} {o : Obj}, k < bs → W2.heap[k]? = some o → W3.heap[k]? = some o := fun {k o} hk ho => (hg.block k (blk_lt ho) (fun e => by have := hb k e.symm; omega)).trans ho
  have hty : ∀ (g : Nat) (cur : Array Value), W2.heap[g]? = some (.cells cur 133 (0, 0)) → W3.heap[g]? = some (.cells cur 133 (0, 0)) := fun g cur hc => (hg.block g (blk_lt hc) (fun e => by
    rcases h2.own.2 with ⟨h3, _⟩ | ⟨g', cap, cur', e1, _, e3, _⟩
    · rw [h3] at e; simp [Value.ownBlock] at e
    · rw [e1] at e
      simp only [Value.ownBlock] at e
      injection e with e
      subst e
      have := hc.symm.trans e3
      injection this with this
      injection this with _ e2 _
      cases e2)).trans hc
  refine ⟨blk_set_ne (hkeep (by omega) h2.k0) (by omega) _ _, blk_set_ne (hkeep (by omega) h2.k1) (by omega) _ _, blk_set_ne (hkeep (by omega) h2.k2) (by omega) _ _, by simpa using blk_set (hkeep (by omega) h2.kout) 0 (.slice B5 O5.length d5), blk_set_ne (hkeep (by omega) h2.klast) (by omega) _ _, blk_set_ne (hkeep (by omega) h2.kend) (by omega) _ _, blk_set_ne (hkeep (by omega) h2.kn) (by omega) _ _,
    row_below hr (grown_set _ _ _ _) (by omega), h.sb, h.ws, h2.spans.keep (fun g cur hc => blk_set_ne (hty g cur hc) (fun e => by
      subst e
      have := hc.symm.trans h2.kout
      injection this with this
      injection this with _ e2 _
      cases e2) _ _), ?_, ?_⟩
  · have hx : Ext w W3 := Below.grown h2.ext hg h2.ext.size (fun r e => by have := hb r e; omega)
    exact hx.set (p := ⟨s + 1 + 1 + 1, 0, none⟩) (by dsimp only; omega) _
  · have : (W3.setCell ⟨s + 1 + 1 + 1, 0, none⟩ (.slice B5 O5.length d5)).heap.size = W3.heap.size := by simp [World.setCell]
    rw [this]
    exact Nat.le_trans h2.size hg.size
/-- One cell of the list's row turned. -/
theorem OfAt.cell (h : OfAt w W s bs aA bA an bn ca cb K st B LA d lc) {g j : Nat} {u : Value} {O5 : List Rect} (hB : B = some ⟨g, 0, none⟩) (hl : O5.length = st.O.length) (hr : OwnR (W.setCell ⟨g, j, none⟩ u) bs (.slice B O5.length d) O5) :
    OfAt w (W.setCell ⟨g, j, none⟩ u) s bs aA bA an bn ca cb K ⟨O5, st.last, st.E⟩ B LA d lc := by
  subst hB
  have hsb := h.sb
  have hws := h.ws
  have hb : bs ≤ g := (World.ownsRow.lt h.own g (by simp [Value.ownBlock])).1
  have hty : ∀ (g' : Nat) (cur : Array Value), W.heap[g']? = some (.cells cur 133 (0, 0)) → g' ≠ g := fun g' cur hc e => by
    subst e
    rcases h.own.2 with ⟨h3, _⟩ | ⟨g2, cap, cur', e1, _, e3, _⟩
    · cases h3
    · injection e1 with e1
      injection e1 with e1
      injection e1 with e1
      subst e1
      have := hc.symm.trans e3
      injection this with this
      injection this with _ e2 _
      cases e2
  refine ⟨blk_set_ne h.k0 (by omega) _ _, blk_set_ne h.k1 (by omega) _ _, blk_set_ne h.k2 (by omega) _ _, ?_, blk_set_ne h.klast (by omega) _ _, blk_set_ne h.kend (by omega) _ _, blk_set_ne h.kn (by omega) _ _, hr, h.sb, h.ws, h.spans.keep (fun g cur hc => blk_set_ne hc (hty g cur hc) _ _), h.ext.set (p := ⟨g, j, none⟩) (by dsimp only; omega) _, ?_⟩
  · dsimp only
    rw [hl]
    exact blk_set_ne h.kout (by omega) _ _
  · have : (W.setCell ⟨g, j, none⟩ u).heap.size = W.heap.size := by simp [World.setCell]
    rw [this]
    exact h.size
end
theorem blk_newL (w : World) : ∀ (os : List Obj) (o : Obj), ((os.foldl World.alloc w).alloc o).heap[w.heap.size + os.length]? = some o := fun os o => by
  have h : ∀ (os : List Obj) (w : World), (os.foldl World.alloc w).heap.size = w.heap.size + os.length := by
    intro os
    induction os with
    | nil => intro w; rfl
    | cons p os ih => intro w; rw [List.foldl_cons, ih]; simp; omega
  rw [← h os w]
  exact blk_new _ o

end Go.Proofs.Ytjghghbldifhaaa
