/- What the law PixbufPlays leans on: rows that are read, what a round leaves, the code of the switch. -/
import Derived.Test.YtilcggkbancniaaActA
import Derived.Test.YtilcggkbancniaaPicC
import Derived.Deep.RegionHeld3
import Derived.Deep.CutRange
import Derived.Deep.CutBlock
set_option linter.unusedVariables false
set_option linter.unusedSimpArgs false
namespace Go.Proofs.Ytilcggkbancniaa
open Go.RowKit

theorem row_reads {k : IntKind} {w : World} {base n d g : Nat} {e : TypeId} {px : List Int} (h : w.ownsRow base e 1 (.slice (some ⟨g, 0, none⟩) n d) n (nums k px)) (hl : px.length = n) : Reads k w (some ⟨g, 0, none⟩) px := fun i hi => by
  refine ⟨g, 0, rfl, ?_⟩
  have := World.ownsRow.cellAt h i (by omega)
  rw [nums_get hi] at this
  rw [Nat.zero_add]
  exact this
theorem row_cap {w : World} {base n d size : Nat} {A : Option Addr} {e : TypeId} {xs : List Value} (h : w.ownsRow base e size (.slice A n d) n xs) : n ≤ d ∧ d ≤ maxLen := by
  rcases h.2 with ⟨h1, h2⟩ | ⟨g, cap, cur, e1, _, _, h3, h4, _⟩
  · injection h1 with _ h5 h6
    subst h5; subst h6
    simp
  · injection e1 with _ _ e3
    subst e3
    exact ⟨h3, h4⟩
theorem rsame_same {W H : Int} {A B : Option Addr} {c d n : Nat} {px : List Int} {w : World} (hx : Reads .u32 w A px) (hy : Reads .u32 w B px) (hl : px.length = n) (hn : n ≤ 65536) :
    Calls Try.prog 19 #[.agg #[.int .i64 W, .int .i64 H, .slice A n c], .agg #[.int .i64 W, .int .i64 H, .slice B n d]] w fun e w' => e = .returned (.bool true) ∧ Ext w w' := by
  have h := rsame_any W H W H A B c d px px w hx hy (by omega) (by omega)
  rw [show picEq W H px W H px = true by simp [picEq, eqL]] at h
  simp only [hl] at h
  exact h

theorem ext_none {a b c : World} (h : Ext a b) (hg : b.grownBy c (Value.slice none 0 0).ownBlock) : Ext a c := Below.grown h hg h.size (fun r e => by simp [Value.ownBlock] at e)
theorem blk_new_drew (w : World) (o : Obj) : (w.alloc o).drew.heap[w.heap.size]? = some o := blk_new w o
theorem picHas_px {W H x y : Int} (h1 : 1 ≤ W) (h2 : W ≤ 256) (h3 : 1 ≤ H) (h4 : H ≤ 256) : picHas W H x y = hasPx W H x y := by
  rw [Bool.eq_iff_iff, hasPx_iff h1 h2 h3 h4]
  simp [picHas]
/-- What a round of the acts leaves: the buffer and the reference's picture are alike. -/
def PlayAt (w : World) (W H : Int) (n s9 bb bp cap : Nat) (wr : World) : Prop :=
  ∃ px g d, px.length = n ∧ Ext w wr ∧ wr.heap[s9]? = some (.cells #[.int .i64 W, .int .i64 H, .slice (some ⟨g, 0, none⟩) n d] 24 (0, 0)) ∧ BufAt 90 35 wr w.heap.size bb bp cap W H px ∧ wr.ownsRow w.heap.size 35 1 (.slice (some ⟨g, 0, none⟩) n d) n (nums .u32 px) ∧ g ≠ bp

theorem BufAt.far {T e t : TypeId} {w w' : World} {base bb bp cap b : Nat} {W H : Int} {px : List Int} {cs : Array Value} {fr : Nat × Nat} (hB : BufAt T e w base bb bp cap W H px) (hg : w.grownBy w' (some bp)) (hb : w.heap[b]? = some (.cells cs t fr)) (hne : t ≠ e) : w'.heap[b]? = some (.cells cs t fr) :=
  row_far hB.row (by simpa [Value.ownBlock] using hg) hb hne
theorem grown_set (W : World) (b o : Nat) (x : Value) : W.grownBy (W.setCell ⟨b, o, none⟩ x) (some b) :=
  ⟨rfl, rfl, rfl, by simp [World.setCell], fun k _ hk => Below.heap_setCell W ⟨b, o, none⟩ x k (fun e => hk (by rw [e]))⟩
theorem BufAt.set_far {T e t : TypeId} {w : World} {base bb bp cap b : Nat} {W H : Int} {px : List Int} {cs : Array Value} {fr : Nat × Nat} (hB : BufAt T e w base bb bp cap W H px) (hb : w.heap[b]? = some (.cells cs t fr)) (h1 : t ≠ T) (h2 : t ≠ e) (o : Nat) (x : Value) : BufAt T e (w.setCell ⟨b, o, none⟩ x) base bb bp cap W H px :=
  hB.keptT (grown_set w b o x) (fun e1 => by injection e1 with e1; have := hB.head; rw [← e1, hb] at this; injection this with this; injection this with _ e2 _; exact h1 e2)
    (fun e1 => by
      injection e1 with e1
      obtain ⟨_, cur, hc⟩ := row_block hB.row (g := bp) (by simp [Value.ownBlock])
      rw [← e1, hb] at hc; injection hc with hc; injection hc with _ e2 _; exact h2 e2)
/-- Behind the store of the reference's new picture. -/
theorem PlayAt.close {w0 w : World} {W H : Int} {n s9 bb bp cap g d : Nat} {px : List Int} {v0 v1 v2 : Value} (hE : Ext w0 w) (hs9 : w0.heap.size ≤ s9) (k9 : w.heap[s9]? = some (.cells #[v0, v1, v2] 24 (0, 0))) (hB : BufAt 90 35 w w0.heap.size bb bp cap W H px) (hown : w.ownsRow w0.heap.size 35 1 (.slice (some ⟨g, 0, none⟩) n d) n (nums .u32 px)) (hl : px.length = n) (hg : g ≠ bp) :
    PlayAt w0 W H n s9 bb bp cap (((w.setCell ⟨s9, 0, none⟩ (.int .i64 W)).setCell ⟨s9, 1, none⟩ (.int .i64 H)).setCell ⟨s9, 2, none⟩ (.slice (some ⟨g, 0, none⟩) n d)) :=
  ⟨px, g, d, hl, ((hE.set hs9 _).set hs9 _).set hs9 _, blk_set (blk_set (blk_set k9 0 _) 1 _) 2 _,
    ((hB.set_far k9 (by decide) (by decide) 0 _).set_far (blk_set k9 0 _) (by decide) (by decide) 1 _).set_far (blk_set (blk_set k9 0 _) 1 _) (by decide) (by decide) 2 _,
    row_set (row_set (row_set hown k9 (by decide) 0 _) (blk_set k9 0 _) (by decide) 1 _) (blk_set (blk_set k9 0 _) 1 _) (by decide) 2 _, hg⟩
theorem PlayAt.ext {w0 w w1 : World} {W H : Int} {n s9 bb bp cap : Nat} (h : PlayAt w0 W H n s9 bb bp cap w) (hb : Ext w w1) : PlayAt w0 W H n s9 bb bp cap w1 := by
  obtain ⟨px, g, d, h1, h2, h3, h4, h5, h6⟩ := h
  exact ⟨px, g, d, h1, h2.trans hb, hb.keep h3, h4.ext hb, row_keep h5 hb, h6⟩
def findBlock (n : Nat) : Code → Option Code
  | .block m c => if m = n then some (.block m c) else findBlock n c
  | .seq a b => match findBlock n a with
    | some c => some c
    | none => findBlock n b
  | .loop c => findBlock n c
  | .scope c => findBlock n c
  | .cond _ a b => match findBlock n a with
    | some c => some c
    | none => findBlock n b
  | _ => none
/-- The switch over what an act does. -/
noncomputable def sw : Code := (Try.f3.body.bind (findBlock 4)).getD .skip
end Go.Proofs.Ytilcggkbancniaa
