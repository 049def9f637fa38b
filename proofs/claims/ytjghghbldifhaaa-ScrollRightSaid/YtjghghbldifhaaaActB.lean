/- A list of acts, as it is handed in; great with a list. -/
/- What the law PixbufPlays leans on: rows that are read, what a round leaves, the code of the switch. -/
import Derived.Test.YtjghghbldifhaaaPixK
import Derived.Test.YtjghghbldifhaaaArgs
import Derived.Test.YtjghghbldifhaaaPicC
import Derived.Deep.RegionHeld3
import Derived.Deep.CutRange
import Derived.Deep.CutBlock
set_option linter.unusedVariables false
set_option linter.unusedSimpArgs false
namespace Go.Proofs.Ytjghghbldifhaaa
open Go.RowKit

structure ActD where
  k : Int
  x : Int
  y : Int
  c : Int
  r : Rect
  W : Int
  H : Int
  A : Option Addr
  mc : Nat
  zs : List Int
  t : Rect
  dx : Int
  dy : Int
def ActD.cells (a : ActD) : List Value := [.int .i64 a.k, .int .i64 a.x, .int .i64 a.y, .int .u32 a.c, .int .i64 a.r.x, .int .i64 a.r.y, .int .i64 a.r.w, .int .i64 a.r.h, .int .i64 a.W, .int .i64 a.H, .slice a.A a.zs.length a.mc, .int .i64 a.t.x, .int .i64 a.t.y, .int .i64 a.t.w, .int .i64 a.t.h, .int .i64 a.dx, .int .i64 a.dy]
def ActsAt (w : World) (A : Option Addr) (l : List ActD) : Prop := ∀ i a, l[i]? = some a → ∃ b off, A = some ⟨b, off, none⟩ ∧ (∀ j, j < 17 → w.cell? ⟨b, off + i * 17 + j, none⟩ = a.cells[j]?) ∧ Reads .u32 w a.A a.zs ∧ (∀ v ∈ a.zs, 0 ≤ v ∧ v ≤ 4294967295) ∧ (0 ≤ a.c ∧ a.c ≤ 4294967295) ∧ a.zs.length ≤ 9223372036854775807
theorem ActsAt.ext {w w1 : World} {A : Option Addr} {l : List ActD} (h : ActsAt w A l) (hb : Ext w w1) : ActsAt w1 A l := fun i a hi => by
  obtain ⟨b, off, h1, h2, h3, h4⟩ := h i a hi
  refine ⟨b, off, h1, fun j hj => ?_, h3.ext hb, h4⟩
  have := h2 j hj
  obtain ⟨u, hu⟩ : ∃ u, a.cells[j]? = some u := ⟨_, List.getElem?_eq_getElem (show j < a.cells.length by simpa [ActD.cells] using hj)⟩
  rw [hu] at this ⊢
  exact hb.cellOf this
/-- The pictures of a list of acts: is there a great one? -/
def greatL (l : List ActD) : Bool := l.any fun a => decide (1000 < a.zs.length)
def greatB (n : Nat) (l : List ActD) : Bool := decide (1000 < n) || (decide (40 < l.length) || greatL l)

set_option maxHeartbeats 1000000 in
theorem great_any (W H : Int) (A : Option Addr) (c n : Nat) (B : Option Addr) (d : Nat) (l : List ActD) (w : World) (hn : n ≤ 9223372036854775807) (hl : ActsAt w B l) (hm : l.length ≤ 9223372036854775807) :
    Calls Try.prog 57 #[.agg #[.int .i64 W, .int .i64 H, .slice A n c], .slice B l.length d] w fun e w' => e = .returned (.bool (greatB n l)) ∧ Ext w w' := by
  by_cases h1 : 1000 < n
  · rw [show greatB n l = true by simp [greatB, h1]]
    go_enter Try.func57, Try.ntmps57
    go_wp2
    go_ret
    exact ⟨rfl, (Ext.refl _).alloc _⟩
  by_cases h2 : 40 < l.length
  · rw [show greatB n l = true by simp [greatB, h2]]
    go_enter Try.func57, Try.ntmps57
    go_wp2
    go_ret
    exact ⟨rfl, (Ext.refl _).alloc _⟩
  rw [show greatB n l = greatL l by simp [greatB, h1, h2]]
  go_enter Try.func57, Try.ntmps57
  go_wp2_with fail
  go_loopw [5] (fun i wr => ∃ k : Nat, k ≤ l.length ∧ i = .int .i64 k ∧ greatL l = greatL (l.drop k) ∧ Ext w wr) (fun i _ => l.length - (intOf i).toNat)
  case atStart => exact ⟨0, Nat.zero_le _, rfl, rfl, (Ext.refl _).alloc _⟩
  case round =>
    obtain ⟨k, hk, rfl, hg, hE⟩ := hrel
    have Hg := Lib.hid hg
    clear hg
    by_cases hlt : k < l.length
    · obtain ⟨b, off, rfl, h3, _, _, _, h7⟩ := (hl.ext hE) k l[k] (List.getElem?_eq_getElem hlt)
      have hc := h3 10 (by decide)
      simp only [ActD.cells, List.getElem?_cons_succ, List.getElem?_cons_zero] at hc
      have hd : l.drop k = l[k] :: l.drop (k + 1) := List.drop_eq_getElem_cons hlt
      have hg2 : greatL (l.drop k) = (decide (1000 < l[k].zs.length) || greatL (l.drop (k + 1))) := by rw [hd]; rfl
      rw [hg2] at Hg
      clear h3 hd hg2
      generalize l[k] = a at *
      by_cases h9 : 1000 < a.zs.length
      · have He : Hid (greatL l = true) := by rw [Hg.out]; simp [h9]; exact Lib.hid trivial
        clear Hg
        go_wp2_with fail
        go_ret
        exact ⟨by rw [He.out]; rfl, hE⟩
      · have Hg2 : Hid (greatL l = greatL (l.drop (k + 1))) := by
          have := Hg.out
          simp only [h9, decide_false, Bool.false_or] at this
          exact Lib.hid this
        clear Hg
        go_wp2_with fail
        exact ⟨⟨k + 1, by omega, by go_num, Hg2.out, hE⟩, by simp [intOf]; omega⟩
    · obtain rfl : k = l.length := by omega
      have He : Hid (greatL l = false) := by
        have := Hg.out
        rw [List.drop_length] at this
        exact Lib.hid (this.trans rfl)
      clear Hg
      go_wp2_with fail
      go_ret
      exact ⟨by rw [He.out]; rfl, hE⟩

theorem slice_null {e : Sh} {w : World} {A : Option Addr} {n c : Nat} (h : (Sh.slice e).Is w [.slice A n c]) : A = none → c = 0 := fun ha => by
  rcases h with h | ⟨a, len, cap, h, _⟩
  · injection h with h; injection h with _ _ h
  · injection h with h; injection h with h _ _; rw [ha] at h; cases h
theorem image_of2 {w : World} {v : Value} (h : shImage.Is w v.cells.toList) : ∃ W H A n c xs, v = .agg #[.int .i64 W, .int .i64 H, .slice A n c] ∧ IntsAt .u32 w A n c xs ∧ (A = none → c = 0) := by
  obtain ⟨W, r, e1, _, h⟩ := is_int h
  obtain ⟨H, r, rfl, _, h⟩ := is_int h
  obtain ⟨s, r, rfl, hs, h⟩ := is_slice h
  obtain rfl : r = [] := h
  obtain ⟨A, n, c, xs, rfl, hi⟩ := ints_at hs
  exact ⟨W, H, A, n, c, xs, agg_of e1 (by simp), hi, slice_null hs⟩
def shCopy : Sh := .cons shRect (.cons (.int .i64) (.cons (.int .i64) .nil))
def shAct : Sh := .cons (.int .i64) (.cons (.int .i64) (.cons (.int .i64) (.cons (.int .u32) (.cons shRect (.cons shImage (.cons shCopy .nil))))))
def shActs : Sh := .slice shAct
theorem is_cons {a b : Sh} {w : World} {cs : List Value} (h : (Sh.cons a b).Is w cs) : ∃ l r, cs = l ++ r ∧ a.Is w l ∧ b.Is w r := by
  obtain ⟨l, r, h1, _, h2, h3⟩ := h
  exact ⟨l, r, h1, h2, h3⟩
theorem is_rect {w : World} {cs : List Value} (h : shRect.Is w cs) : ∃ r : Rect, cs = [.int .i64 r.x, .int .i64 r.y, .int .i64 r.w, .int .i64 r.h] := by
  obtain ⟨x, r, rfl, _, h⟩ := is_int h
  obtain ⟨y, r, rfl, _, h⟩ := is_int h
  obtain ⟨a, r, rfl, _, h⟩ := is_int h
  obtain ⟨b, r, rfl, _, h⟩ := is_int h
  obtain rfl : r = [] := h
  exact ⟨⟨x, y, a, b⟩, rfl⟩
theorem is_image {w : World} {cs : List Value} (h : shImage.Is w cs) : ∃ W H A n c xs, cs = [.int .i64 W, .int .i64 H, .slice A n c] ∧ IntsAt .u32 w A n c xs := by
  obtain ⟨W, r, rfl, _, h⟩ := is_int h
  obtain ⟨H, r, rfl, _, h⟩ := is_int h
  obtain ⟨s, r, rfl, hs, h⟩ := is_slice h
  obtain rfl : r = [] := h
  obtain ⟨A, n, c, xs, rfl, hi⟩ := ints_at hs
  exact ⟨W, H, A, n, c, xs, rfl, hi⟩
theorem is_act {w : World} {cs : List Value} (h : shAct.Is w cs) : ∃ a : ActD, cs = a.cells ∧ Reads .u32 w a.A a.zs ∧ (∀ v ∈ a.zs, 0 ≤ v ∧ v ≤ 4294967295) ∧ (0 ≤ a.c ∧ a.c ≤ 4294967295) ∧ a.zs.length ≤ 9223372036854775807 := by
  obtain ⟨k, s1, e1, _, h1⟩ := is_int h
  obtain ⟨x, s2, e2, _, h2⟩ := is_int h1
  obtain ⟨y, s3, e3, _, h3⟩ := is_int h2
  obtain ⟨c, s4, e4, hc, h4⟩ := is_int h3
  obtain ⟨l5, s5, e5, g5, h5⟩ := is_cons h4
  obtain ⟨R, f5⟩ := is_rect g5
  obtain ⟨l6, s6, e6, g6, h6⟩ := is_cons h5
  obtain ⟨W, H, A, n, d, xs, f6, hi⟩ := is_image g6
  obtain ⟨l7, s7, e7, g7, h7⟩ := is_cons h6
  have e8 : s7 = [] := h7
  obtain ⟨l9, s9, e9, g9, h9⟩ := is_cons g7
  obtain ⟨T, f9⟩ := is_rect g9
  obtain ⟨dx, s10, e10, _, h10⟩ := is_int h9
  obtain ⟨dy, s11, e11, _, h11⟩ := is_int h10
  have e12 : s11 = [] := h11
  have hb := hi.u32
  obtain ⟨hn, i1, i2, _⟩ := hi
  simp only [Lit.wf, Bool.and_eq_true, decide_eq_true_eq, show IntKind.u32.min = 0 from rfl, show IntKind.u32.max = 4294967295 from rfl] at hc
  refine ⟨⟨k, x, y, c, R, W, H, A, d, xs, T, dx, dy⟩, ?_, i2, hb, hc, by rw [hn]; simpa [maxLen] using i1⟩
  rw [e1, e2, e3, e4, e5, f5, e6, f6, e7, e8, e9, f9, e10, e11, e12, ← hn]
  rfl
/-- What is handed in as a list of acts. -/
theorem acts_of {w : World} {A' : Option Addr} {n' c' : Nat} (h : shActs.Is w (Value.slice A' n' c').cells.toList) : ∃ l, l.length = n' ∧ ActsAt w A' l ∧ l.length ≤ 9223372036854775807 := by
  rcases h with h | ⟨a, len, cap, h, h1, h2, h3⟩
  · injection h with h
    injection h with e1 e2 e3
    exact ⟨[], e2.symm, fun i a hi => by simp at hi, Nat.zero_le _⟩
  · have h4 : ∀ i, i < len → ∃ x : ActD, (∀ j, j < 17 → w.cell? ((a.add (i * 17)).add j) = x.cells[j]?) ∧ Reads .u32 w x.A x.zs ∧ (∀ v ∈ x.zs, 0 ≤ v ∧ v ≤ 4294967295) ∧ (0 ≤ x.c ∧ x.c ≤ 4294967295) ∧ x.zs.length ≤ 9223372036854775807 := fun i hi => by
      obtain ⟨l, hl, hll, ha⟩ := h3 i hi
      obtain ⟨x, rfl, hx⟩ := is_act ha
      refine ⟨x, fun j hj => ?_, hx⟩
      obtain ⟨u, hu⟩ : ∃ u, x.cells[j]? = some u := ⟨_, List.getElem?_eq_getElem (show j < x.cells.length by simpa [ActD.cells] using hj)⟩
      rw [hu]
      exact hl j u hu
    obtain ⟨l, hll, hq⟩ := choose_list h4
    injection h with h
    injection h with e1 e2 e3
    subst e1
    refine ⟨l, hll.trans e2.symm, fun i x hi => ?_, by rw [hll]; simpa [maxLen] using Nat.le_trans h1 h2⟩
    obtain ⟨q1, q2⟩ := hq i x hi
    have hs : a.spot = none := by
      have hlen : 0 < l.length := Nat.lt_of_le_of_lt (Nat.zero_le i) (List.getElem?_eq_some_iff.1 hi).1
      have h0 := (hq 0 l[0] (List.getElem?_eq_getElem hlen)).1 0 (by decide)
      rw [show (a.add (0 * 17)).add 0 = a by simp [Addr.add]] at h0
      unfold World.cell? at h0
      split at h0
      · split at h0
        · simp [ActD.cells] at h0
        · rename_i hn
          simpa using hn
      · simp [ActD.cells] at h0
    obtain ⟨b, o, s⟩ := a
    dsimp only at hs
    subst hs
    refine ⟨b, o, rfl, fun j hj => ?_, q2⟩
    have := q1 j hj
    rwa [add_plain, add_plain] at this
end Go.Proofs.Ytjghghbldifhaaa
set_option linter.unusedVariables false
set_option linter.unusedSimpArgs false
namespace Go.Proofs.Ytjghghbldifhaaa
open Go.RowKit

theorem row_reads {k : IntKind} {w : World} {base n d g : Nat} {e : TypeId} {px : List Int} (h : w.ownsRow base e 1 (.slice (some ⟨g, 0, none⟩) n d) n (nums k px)) (hl : px.length = n) : Reads k w (some ⟨g, 0, none⟩) px := fun i hi => by
  refine ⟨g, 0, rfl, ?_⟩
  have := World.ownsRow.cellAt h i (by omega)
  rw [nums_get hi] at this
  rw [Nat.zero_add]
  exact this
theorem row_cap {w : World} {base n d size : Nat} {A : Option Addr} {e : TypeId} {xs : List Value} (h : w.ownsRow base e size (.slice A n d) n xs) : n ≤ d ∧ d ≤ maxLen := by
  rcases h.2 with ⟨h1, h2⟩ | ⟨g, cap, cur, e1, _, _, h3, h4, _⟩
  · injection h1 with _ h5 h6
    subst h5; subst h6
    simp
  · injection e1 with _ _ e3
    subst e3
    exact ⟨h3, h4⟩
theorem rsame_same {W H : Int} {A B : Option Addr} {c d n : Nat} {px : List Int} {w : World} (hx : Reads .u32 w A px) (hy : Reads .u32 w B px) (hl : px.length = n) (hn : n ≤ 65536) :
    Calls Try.prog 61 #[.agg #[.int .i64 W, .int .i64 H, .slice A n c], .agg #[.int .i64 W, .int .i64 H, .slice B n d]] w fun e w' => e = .returned (.bool true) ∧ Ext w w' := by
  have h := rsame_any W H W H A B c d px px w hx hy (by omega) (by omega)
  rw [show picEq W H px W H px = true by simp [picEq, eqL]] at h
  simp only [hl] at h
  exact h

theorem ext_none {a b c : World} (h : Ext a b) (hg : b.grownBy c (Value.slice none 0 0).ownBlock) : Ext a c := Below.grown h hg h.size (fun r e => by simp [Value.ownBlock] at e)
theorem blk_new_drew (w : World) (o : Obj) : (w.alloc o).drew.heap[w.heap.size]? = some o := blk_new w o
theorem picHas_px {W H x y : Int} (h1 : 1 ≤ W) (h2 : W ≤ 256) (h3 : 1 ≤ H) (h4 : H ≤ 256) : picHas W H x y = hasPx W H x y := by
  rw [Bool.eq_iff_iff, hasPx_iff h1 h2 h3 h4]
  simp [picHas]
/-- What a round of the acts leaves: the buffer and the reference's picture are alike. -/
def PlayAt (w : World) (W H : Int) (n s9 bb bp cap : Nat) (wr : World) : Prop :=
  ∃ px g d, px.length = n ∧ Ext w wr ∧ wr.heap[s9]? = some (.cells #[.int .i64 W, .int .i64 H, .slice (some ⟨g, 0, none⟩) n d] 43 (0, 0)) ∧ BufAt 117 58 wr w.heap.size bb bp cap W H px ∧ wr.ownsRow w.heap.size 58 1 (.slice (some ⟨g, 0, none⟩) n d) n (nums .u32 px) ∧ g ≠ bp

theorem BufAt.far {T e t : TypeId} {w w' : World} {base bb bp cap b : Nat} {W H : Int} {px : List Int} {cs : Array Value} {fr : Nat × Nat} (hB : BufAt T e w base bb bp cap W H px) (hg : w.grownBy w' (some bp)) (hb : w.heap[b]? = some (.cells cs t fr)) (hne : t ≠ e) : w'.heap[b]? = some (.cells cs t fr) :=
  row_far hB.row (by simpa [Value.ownBlock] using hg) hb hne
theorem BufAt.set_far {T e t : TypeId} {w : World} {base bb bp cap b : Nat} {W H : Int} {px : List Int} {cs : Array Value} {fr : Nat × Nat} (hB : BufAt T e w base bb bp cap W H px) (hb : w.heap[b]? = some (.cells cs t fr)) (h1 : t ≠ T) (h2 : t ≠ e) (o : Nat) (x : Value) : BufAt T e (w.setCell ⟨b, o, none⟩ x) base bb bp cap W H px :=
  hB.keptT (grown_set w b o x) (fun e1 => by injection e1 with e1; have := hB.head; rw [← e1, hb] at this; injection this with this; injection this with _ e2 _; exact h1 e2)
    (fun e1 => by
      injection e1 with e1
      obtain ⟨_, cur, hc⟩ := row_block hB.row (g := bp) (by simp [Value.ownBlock])
      rw [← e1, hb] at hc; injection hc with hc; injection hc with _ e2 _; exact h2 e2)
/-- Behind the store of the reference's new picture. -/
theorem PlayAt.close {w0 w : World} {W H : Int} {n s9 bb bp cap g d : Nat} {px : List Int} {v0 v1 v2 : Value} (hE : Ext w0 w) (hs9 : w0.heap.size ≤ s9) (k9 : w.heap[s9]? = some (.cells #[v0, v1, v2] 43 (0, 0))) (hB : BufAt 117 58 w w0.heap.size bb bp cap W H px) (hown : w.ownsRow w0.heap.size 58 1 (.slice (some ⟨g, 0, none⟩) n d) n (nums .u32 px)) (hl : px.length = n) (hg : g ≠ bp) :
    PlayAt w0 W H n s9 bb bp cap (((w.setCell ⟨s9, 0, none⟩ (.int .i64 W)).setCell ⟨s9, 1, none⟩ (.int .i64 H)).setCell ⟨s9, 2, none⟩ (.slice (some ⟨g, 0, none⟩) n d)) :=
  ⟨px, g, d, hl, ((hE.set hs9 _).set hs9 _).set hs9 _, blk_set (blk_set (blk_set k9 0 _) 1 _) 2 _,
    ((hB.set_far k9 (by decide) (by decide) 0 _).set_far (blk_set k9 0 _) (by decide) (by decide) 1 _).set_far (blk_set (blk_set k9 0 _) 1 _) (by decide) (by decide) 2 _,
    row_set (row_set (row_set hown k9 (by decide) 0 _) (blk_set k9 0 _) (by decide) 1 _) (blk_set (blk_set k9 0 _) 1 _) (by decide) 2 _, hg⟩
theorem PlayAt.ext {w0 w w1 : World} {W H : Int} {n s9 bb bp cap : Nat} (h : PlayAt w0 W H n s9 bb bp cap w) (hb : Ext w w1) : PlayAt w0 W H n s9 bb bp cap w1 := by
  obtain ⟨px, g, d, h1, h2, h3, h4, h5, h6⟩ := h
  exact ⟨px, g, d, h1, h2.trans hb, hb.keep h3, h4.ext hb, row_keep h5 hb, h6⟩
def findBlock (n : Nat) : Code → Option Code
  | .block m c => if m = n then some (.block m c) else findBlock n c
  | .seq a b => match findBlock n a with
    | some c => some c
    | none => findBlock n b
  | .loop c => findBlock n c
  | .scope c => findBlock n c
  | .cond _ a b => match findBlock n a with
    | some c => some c
    | none => findBlock n b
  | _ => none
end Go.Proofs.Ytjghghbldifhaaa
