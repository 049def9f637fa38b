/- Small laws for walks: a call that makes memory leaves what lay there; a region that draws its order walked once, over a class of worlds. No program in sight. -/
import Derived.Test.YtilcggkbancniaaPure
import Derived.WalkKit
import Derived.WalkSpells
import Derived.WalkLawsBesides
import Derived.BigQuiet
import Derived.Lib.Hide
import Derived.Outline
import Derived.Laws.StructEq
set_option linter.unusedVariables false
set_option linter.unusedSimpArgs false
namespace Go.Proofs.Ytilcggkbancniaa
open Go.RowKit

/-- Nothing that was there has turned. -/
abbrev Ext (w w' : World) : Prop := Below w.heap.size w w'
theorem Ext.refl (w : World) : Ext w w := Below.refl _ _
theorem Ext.trans {a b c : World} (h : Ext a b) (k : Ext b c) : Ext a c := Below.trans h (Below.mono k h.size)
theorem Ext.alloc {a w : World} (h : Ext a w) (o : Obj) : Ext a (w.alloc o) := Below.alloc h h.size o
theorem Ext.drew {a w : World} (h : Ext a w) : Ext a w.drew := Below.drew h
theorem Ext.drewN {a w : World} (h : Ext a w) (n : Nat) : Ext a (w.drewN n) := ⟨h.os, h.tape, h.output, h.size, h.block⟩
theorem Ext.set {a w : World} (h : Ext a w) {p : Addr} (hp : a.heap.size ≤ p.block) (u : Value) : Ext a (w.setCell p u) := Below.setCell h hp u
theorem Ext.rules {W w1 : World} (hb : Ext W w1) : (∀ b o, b < W.heap.size → w1.cell? ⟨b, o, none⟩ = W.cell? ⟨b, o, none⟩) ∧ (∀ b o, b < W.heap.size → w1.frozen? ⟨b, o, none⟩ = W.frozen? ⟨b, o, none⟩) :=
  ⟨fun b o h => hb.cell (p := ⟨b, o, none⟩) h, fun b o h => hb.frozen (p := ⟨b, o, none⟩) h⟩
theorem Ext.cellOf {W w1 : World} (hb : Ext W w1) {a : Addr} {v : Value} (h : W.cell? a = some v) : w1.cell? a = some v := (hb.cell (World.block_lt_of_cell? W a h)).trans h

theorem Ext.of_allocs2 {w w1 : World} {o1 o2 : Obj} (h : Ext ((w.alloc o1).alloc o2) w1) : Ext w w1 := (((Ext.refl _).alloc _).alloc _).trans h
theorem Ext.of_alloc {w w1 : World} {o : Obj} (h : Ext (w.alloc o) w1) : Ext w w1 := ((Ext.refl _).alloc _).trans h

/-- Where the first blocks of a call's own lie. -/
theorem sz1 {n m : Nat} (h : n + 1 ≤ m) : n < m := by omega
theorem sz2 {n m : Nat} (h : n + 2 ≤ m) : n < m ∧ n + 1 < m := by omega
theorem sz3 {n m : Nat} (h : n + 3 ≤ m) : n < m ∧ n + 1 < m ∧ n + 1 + 1 < m := by omega
theorem sz4 {n m : Nat} (h : n + 4 ≤ m) : n < m ∧ n + 1 < m ∧ n + 1 + 1 < m ∧ n + 1 + 1 + 1 < m := by omega
theorem sz5 {n m : Nat} (h : n + 5 ≤ m) : n < m ∧ n + 1 < m ∧ n + 1 + 1 < m ∧ n + 1 + 1 + 1 < m ∧ n + 1 + 1 + 1 + 1 < m := by omega

theorem max_mx (ats : Array TypeId) (ty : TypeId) (k k' : IntKind) (x y : Int) : Builtin.max_ ats ty #[.int k x, .int k' y] = pure (.int k (mx x y)) := by
  simp only [Builtin.max_, List.foldlM_cons, List.foldlM_nil, Builtin.max2, gt_iff_lt, mx]
  simp
theorem min_mn (ats : Array TypeId) (ty : TypeId) (k k' : IntKind) (x y : Int) : Builtin.min_ ats ty #[.int k x, .int k' y] = pure (.int k (mn x y)) := by
  simp only [Builtin.min_, List.foldlM_cons, List.foldlM_nil, Builtin.min2, mn]
  simp
/-- A block of cells, said of the heap: what its cells hold. -/
theorem Ext.keep {W w1 : World} (hb : Ext W w1) {g : Nat} {o : Obj} (h : W.heap[g]? = some o) : w1.heap[g]? = some o := (hb.block g (Array.getElem?_eq_some_iff.1 h).1).trans h
theorem blk_cell {w : World} {g : Nat} {cs : Array Value} {t : TypeId} {fr : Nat × Nat} (h : w.heap[g]? = some (.cells cs t fr)) : ∀ o : Nat, w.cell? ⟨g, o, none⟩ = cs[o]? := by
  intro o; simp [World.cell?, h]
theorem blk_free {w : World} {g : Nat} {cs : Array Value} {t : TypeId} (h : w.heap[g]? = some (.cells cs t (0, 0))) : ∀ o : Nat, w.frozen? ⟨g, o, none⟩ = false := by
  intro o; simp [World.frozen?, h]
theorem blk_rules {w : World} {g : Nat} {cs : Array Value} {t : TypeId} (h : w.heap[g]? = some (.cells cs t (0, 0))) : (∀ o : Nat, w.cell? ⟨g, o, none⟩ = cs[o]?) ∧ ∀ o : Nat, w.frozen? ⟨g, o, none⟩ = false := ⟨blk_cell h, blk_free h⟩
theorem blk_lt {w : World} {g : Nat} {o : Obj} (h : w.heap[g]? = some o) : g < w.heap.size := (Array.getElem?_eq_some_iff.1 h).1
theorem blk_old {w : World} {g : Nat} {o : Obj} (h : w.heap[g]? = some o) (p : Obj) : (w.alloc p).heap[g]? = some o := (Below.heap_alloc w p g (blk_lt h)).trans h
theorem blk_new (w : World) (o : Obj) : (w.alloc o).heap[w.heap.size]? = some o := by
  show (w.heap.push o)[_]? = _
  simp
theorem blk_new1 (w : World) (o p : Obj) : ((w.alloc o).alloc p).heap[w.heap.size + 1]? = some p := by
  have := blk_new (w.alloc o) p
  simpa using this
theorem blk_new2 (w : World) (o p q : Obj) : (((w.alloc o).alloc p).alloc q).heap[w.heap.size + 1 + 1]? = some q := by
  have := blk_new1 (w.alloc o) p q
  simpa using this
theorem blk_new3 (w : World) (o p q r : Obj) : ((((w.alloc o).alloc p).alloc q).alloc r).heap[w.heap.size + 1 + 1 + 1]? = some r := by
  have := blk_new2 (w.alloc o) p q r
  simpa using this
theorem blk_set {w : World} {g : Nat} {cs : Array Value} {t : TypeId} {fr : Nat × Nat} (h : w.heap[g]? = some (.cells cs t fr)) (i : Nat) (v : Value) : (w.setCell ⟨g, i, none⟩ v).heap[g]? = some (.cells (cs.setIfInBounds i v) t fr) := by
  simp only [World.setCell, Array.getElem?_modify, h]
  simp
theorem blk_set_ne {w : World} {g g' : Nat} {o : Obj} (h : w.heap[g]? = some o) (hne : g ≠ g') (i : Nat) (v : Value) : (w.setCell ⟨g', i, none⟩ v).heap[g]? = some o := (Below.heap_setCell w ⟨g', i, none⟩ v g hne).trans h

/-- Behind a call that was made when the caller had laid some blocks. -/
theorem ext1 {w w1 : World} {A : Obj} (h : Ext (w.alloc A) w1) : w1.heap[w.heap.size]? = some A ∧ Ext w w1 := ⟨h.keep (blk_new _ _), Ext.of_alloc h⟩
theorem ext2 {w w1 : World} {A B : Obj} (h : Ext ((w.alloc A).alloc B) w1) : w1.heap[w.heap.size]? = some A ∧ w1.heap[w.heap.size + 1]? = some B ∧ Ext w w1 :=
  ⟨h.keep (blk_old (blk_new _ _) _), h.keep (blk_new1 _ _ _), Ext.of_allocs2 h⟩
theorem ext3 {w w1 : World} {A B C : Obj} (h : Ext (((w.alloc A).alloc B).alloc C) w1) : w1.heap[w.heap.size]? = some A ∧ w1.heap[w.heap.size + 1]? = some B ∧ w1.heap[w.heap.size + 1 + 1]? = some C ∧ Ext w w1 :=
  ⟨h.keep (blk_old (blk_old (blk_new _ _) _) _), h.keep (blk_old (blk_new1 _ _ _) _), h.keep (blk_new2 _ _ _ _), Ext.of_alloc (Ext.of_allocs2 h)⟩
theorem ext4 {w w1 : World} {A B C D : Obj} (h : Ext ((((w.alloc A).alloc B).alloc C).alloc D) w1) : w1.heap[w.heap.size]? = some A ∧ w1.heap[w.heap.size + 1]? = some B ∧ w1.heap[w.heap.size + 1 + 1]? = some C ∧ w1.heap[w.heap.size + 1 + 1 + 1]? = some D ∧ Ext w w1 :=
  ⟨h.keep (blk_old (blk_old (blk_old (blk_new _ _) _) _) _), h.keep (blk_old (blk_old (blk_new1 _ _ _) _) _), h.keep (blk_old (blk_new2 _ _ _ _) _), h.keep (blk_new3 _ _ _ _ _), Ext.of_allocs2 (Ext.of_allocs2 h)⟩

/-- A world that came out of w, nothing of w turned. -/
structure After (w : World) where
  now : World
  ext : Ext w now
def After.start (w : World) : After w := ⟨w, Ext.refl w⟩
instance (w : World) : Nonempty (After w) := ⟨After.start w⟩
theorem After.cell {w : World} (x : After w) {a : Addr} {v : Value} (h : w.cell? a = some v) : x.now.cell? a = some v := x.ext.cellOf h

theorem After.blk {w : World} {g : Nat} {cs : Array Value} {t : TypeId} {fr : Nat × Nat} (h : w.heap[g]? = some (.cells cs t fr)) : ∀ (x : After w) (o : Nat), x.now.cell? ⟨g, o, none⟩ = cs[o]? := by
  intro x o
  have hg : g < w.heap.size := (Array.getElem?_eq_some_iff.1 h).1
  have := x.ext.block g hg
  simp only [World.cell?]
  rw [this, h]
  simp
theorem wp_region_after {P : Program} {id : Nat} {l : List Oper} {Q : Exit → Act → World → Prop} {a : Act} {w : World} (hm : P.follows .mixedOrders = true) (hB : Region.lexB .any l.toArray = true)
    (h : wpQuiet P l.toArray (fun w' => ∃ x : After w, w' = x.now) (fun a' => ∀ w', (∃ x : After w, w' = x.now) → Q .normal a' w') l a) : (Code.region id l.toArray true).wp P Q a w :=
  wp_region_quiet (C := fun w' => ∃ x : After w, w' = x.now) hm hB ⟨⟨w.drew, (Ext.refl w).drew⟩, rfl⟩ (by simpa using h)

/-- A callee's contract in such a region. -/
theorem Calls.after {P : Program} {f : FuncId} {args : Array Value} {w : World} {x : After w} {v : Value}
    (h : Calls P f args x.now fun e w' => e = .returned v ∧ Ext x.now w') : Calls P f args x.now fun e w'' => e = .returned v ∧ ∃ y : After w, w'' = y.now :=
  h.mono fun _ w' ⟨he, hb⟩ => ⟨he, ⟨w', x.ext.trans hb⟩, rfl⟩
theorem Calls.after_same {P : Program} {f : FuncId} {args : Array Value} {w : World} {x : After w} {v : Value}
    (h : Calls P f args x.now fun e w' => e = .returned v ∧ x.now = w') : Calls P f args x.now fun e w'' => e = .returned v ∧ ∃ y : After w, w'' = y.now :=
  h.mono fun _ w' ⟨he, hb⟩ => ⟨he, x, hb.symm⟩
end Go.Proofs.Ytilcggkbancniaa
