/- Plain definitions and facts on rectangles: no program in sight. -/
/- Small laws for walks: a call that makes memory leaves what lay there; a region that draws its order walked once, over a class of worlds. No program in sight. -/
/- What memory holds: a slice that is read, a row of the call's own, a picture's buffer. No program in sight. -/
/- The builtin append, as these walks meet it. No program in sight. -/
import Derived.WalkKit
import Derived.WalkSpells
import Derived.WalkLawsBesides
import Derived.BigQuiet
import Derived.Lib.Hide
import Derived.Outline
import Derived.Laws.StructEq
import Derived.Laws.OwnMore
import Derived.Laws.BitsLemmas
import Derived.Deep.OwnRows
import Derived.Deep.AppendLies
import Derived.Laws.AppendOwnNone
import Derived.OwnWalk
import Derived.Maps.AppendAt
set_option linter.unusedVariables false
set_option linter.unusedSimpArgs false
namespace Go.Proofs.Ytjghghbldifhaaa

/-- A rectangle's four numbers. -/
structure Rect where
  x : Int
  y : Int
  w : Int
  h : Int
  deriving DecidableEq

def within (n a b : Int) : Bool := decide (a ≤ n) && decide (n ≤ b)
def okSpan (at_ size : Int) : Bool := within at_ (-1048576) 1048576 && within size 0 (1048576 - at_)
def Rect.good (r : Rect) : Bool := okSpan r.x r.w && okSpan r.y r.h
def Rect.area (r : Rect) : Int := if r.good then r.w * r.h else 0
def Rect.empty (r : Rect) : Bool := r.area == 0
def Rect.has (r : Rect) (x y : Int) : Bool := r.good && (within x r.x (r.x + r.w - 1) && within y r.y (r.y + r.h - 1))

def mx (x y : Int) : Int := if x < y then y else x
def mn (x y : Int) : Int := if y < x then y else x
theorem mx_eq (x y : Int) : mx x y = max x y := by unfold mx; omega
theorem mn_eq (x y : Int) : mn x y = min x y := by unfold mn; omega
def Rect.zero : Rect := ⟨0, 0, 0, 0⟩
def Rect.meet (a b : Rect) : Rect := ⟨mx a.x b.x, mx a.y b.y, mn (a.x + a.w) (b.x + b.w) - mx a.x b.x, mn (a.y + a.h) (b.y + b.h) - mx a.y b.y⟩
def Rect.join (a b : Rect) : Rect := ⟨mn a.x b.x, mn a.y b.y, mx (a.x + a.w) (b.x + b.w) - mn a.x b.x, mx (a.y + a.h) (b.y + b.h) - mn a.y b.y⟩
def Rect.and (a b : Rect) : Rect := if a.empty || b.empty || decide ((a.meet b).w ≤ 0) || decide ((a.meet b).h ≤ 0) then Rect.zero else a.meet b
def Rect.eqB (a b : Rect) : Bool := a.x == b.x && (a.y == b.y && (a.w == b.w && a.h == b.h))
def Rect.within (a b : Rect) : Bool := a.empty || Rect.eqB (a.and b) a
def Rect.or (a b : Rect) : Rect := if a.empty then (if b.empty then Rect.zero else b) else if b.empty then a else a.join b
def Rect.move (r : Rect) (dx dy : Int) : Rect := ⟨r.x + dx, r.y + dy, r.w, r.h⟩
def Rect.shift (r : Rect) (dx dy : Int) : Rect := if r.good && Go.Proofs.Ytjghghbldifhaaa.within dx (-4194304) 4194304 && Go.Proofs.Ytjghghbldifhaaa.within dy (-4194304) 4194304 && (r.move dx dy).good then r.move dx dy else Rect.zero

theorem Rect.eqB_iff {a b : Rect} : Rect.eqB a b = true ↔ a = b := by
  cases a; cases b; simp [Rect.eqB]
theorem within_iff {n a b : Int} : within n a b = true ↔ a ≤ n ∧ n ≤ b := by simp [within]
theorem okSpan_iff {a s : Int} : okSpan a s = true ↔ -1048576 ≤ a ∧ a ≤ 1048576 ∧ 0 ≤ s ∧ s ≤ 1048576 - a := by
  simp only [okSpan, Bool.and_eq_true, within_iff]; omega
theorem Rect.good_iff {r : Rect} : r.good = true ↔ (-1048576 ≤ r.x ∧ r.x ≤ 1048576 ∧ 0 ≤ r.w ∧ r.w ≤ 1048576 - r.x) ∧ (-1048576 ≤ r.y ∧ r.y ≤ 1048576 ∧ 0 ≤ r.h ∧ r.h ≤ 1048576 - r.y) := by
  simp only [Rect.good, Bool.and_eq_true, okSpan_iff]
theorem Rect.empty_iff {r : Rect} : r.empty = false ↔ (-1048576 ≤ r.x ∧ r.x ≤ 1048576 ∧ 1 ≤ r.w ∧ r.w ≤ 1048576 - r.x) ∧ (-1048576 ≤ r.y ∧ r.y ≤ 1048576 ∧ 1 ≤ r.h ∧ r.h ≤ 1048576 - r.y) := by
  unfold Rect.empty Rect.area
  constructor
  · intro h
    have hg : r.good = true := by cases hg : r.good <;> simp [hg] at h ⊢
    have hi := Rect.good_iff.1 hg
    have hm : r.w * r.h ≠ 0 := by simpa [hg] using h
    have h1 : r.w ≠ 0 := fun e => hm (by rw [e]; simp)
    have h2 : r.h ≠ 0 := fun e => hm (by rw [e]; simp)
    omega
  · intro h
    have hg : r.good = true := Rect.good_iff.2 (by omega)
    have : r.w * r.h ≠ 0 := Int.mul_ne_zero (by omega) (by omega)
    simp [hg, this]
theorem Rect.area_bd (r : Rect) : 0 ≤ r.area ∧ r.area ≤ 4398046511104 := by
  unfold Rect.area
  split
  · rename_i h
    have hi := Rect.good_iff.1 h
    constructor
    · exact Int.mul_nonneg (by omega) (by omega)
    · calc r.w * r.h ≤ 2097152 * 2097152 := Int.mul_le_mul (by omega) (by omega) (by omega) (by omega)
        _ = 4398046511104 := by decide
  · omega
theorem mx_bd {x y l u : Int} (h1 : l ≤ x) (h2 : x ≤ u) (h3 : l ≤ y) (h4 : y ≤ u) : l ≤ mx x y ∧ mx x y ≤ u := by unfold mx; omega
theorem mn_bd {x y l u : Int} (h1 : l ≤ x) (h2 : x ≤ u) (h3 : l ≤ y) (h4 : y ≤ u) : l ≤ mn x y ∧ mn x y ≤ u := by unfold mn; omega
theorem Rect.and_empty_l {a b : Rect} (h : a.empty = true) : a.and b = Rect.zero := by simp [Rect.and, h]
theorem Rect.and_empty_r {a b : Rect} (h : b.empty = true) : a.and b = Rect.zero := by simp [Rect.and, h]
theorem Rect.and_flat {a b : Rect} (h : (a.meet b).w ≤ 0 ∨ (a.meet b).h ≤ 0) : a.and b = Rect.zero := by
  unfold Rect.and; rw [if_pos]; simp; omega
theorem Rect.and_meet {a b : Rect} (h1 : a.empty = false) (h2 : b.empty = false) (h3 : ¬ (a.meet b).w ≤ 0) (h4 : ¬ (a.meet b).h ≤ 0) : a.and b = a.meet b := by
  unfold Rect.and; rw [if_neg]; simp [h1, h2]; omega
end Go.Proofs.Ytjghghbldifhaaa
set_option linter.unusedVariables false
set_option linter.unusedSimpArgs false
namespace Go.Proofs.Ytjghghbldifhaaa
open Go.RowKit

/-- Nothing that was there has turned. -/
abbrev Ext (w w' : World) : Prop := Below w.heap.size w w'
theorem Ext.refl (w : World) : Ext w w := Below.refl _ _
theorem Ext.trans {a b c : World} (h : Ext a b) (k : Ext b c) : Ext a c := Below.trans h (Below.mono k h.size)
theorem Ext.alloc {a w : World} (h : Ext a w) (o : Obj) : Ext a (w.alloc o) := Below.alloc h h.size o
theorem Ext.drew {a w : World} (h : Ext a w) : Ext a w.drew := Below.drew h
theorem Ext.drewN {a w : World} (h : Ext a w) (n : Nat) : Ext a (w.drewN n) := ⟨h.os, h.tape, h.output, h.size, h.block⟩
theorem Ext.set {a w : World} (h : Ext a w) {p : Addr} (hp : a.heap.size ≤ p.block) (u : Value) : Ext a (w.setCell p u) := Below.setCell h hp u
theorem Ext.rules {W w1 : World} (hb : Ext W w1) : (∀ b o, b < W.heap.size → w1.cell? ⟨b, o, none⟩ = W.cell? ⟨b, o, none⟩) ∧ (∀ b o, b < W.heap.size → w1.frozen? ⟨b, o, none⟩ = W.frozen? ⟨b, o, none⟩) :=
  ⟨fun b o h => hb.cell (p := ⟨b, o, none⟩) h, fun b o h => hb.frozen (p := ⟨b, o, none⟩) h⟩
theorem Ext.cellOf {W w1 : World} (hb : Ext W w1) {a : Addr} {v : Value} (h : W.cell? a = some v) : w1.cell? a = some v := (hb.cell (World.block_lt_of_cell? W a h)).trans h

theorem Ext.of_allocs2 {w w1 : World} {o1 o2 : Obj} (h : Ext ((w.alloc o1).alloc o2) w1) : Ext w w1 := (((Ext.refl _).alloc _).alloc _).trans h
theorem Ext.of_alloc {w w1 : World} {o : Obj} (h : Ext (w.alloc o) w1) : Ext w w1 := ((Ext.refl _).alloc _).trans h

/-- Where the first blocks of a call's own lie. -/
theorem sz1 {n m : Nat} (h : n + 1 ≤ m) : n < m := by omega
theorem sz2 {n m : Nat} (h : n + 2 ≤ m) : n < m ∧ n + 1 < m := by omega
theorem sz3 {n m : Nat} (h : n + 3 ≤ m) : n < m ∧ n + 1 < m ∧ n + 1 + 1 < m := by omega
theorem sz4 {n m : Nat} (h : n + 4 ≤ m) : n < m ∧ n + 1 < m ∧ n + 1 + 1 < m ∧ n + 1 + 1 + 1 < m := by omega
theorem sz5 {n m : Nat} (h : n + 5 ≤ m) : n < m ∧ n + 1 < m ∧ n + 1 + 1 < m ∧ n + 1 + 1 + 1 < m ∧ n + 1 + 1 + 1 + 1 < m := by omega

theorem max_mx (ats : Array TypeId) (ty : TypeId) (k k' : IntKind) (x y : Int) : Builtin.max_ ats ty #[.int k x, .int k' y] = pure (.int k (mx x y)) := by
  simp only [Builtin.max_, List.foldlM_cons, List.foldlM_nil, Builtin.max2, gt_iff_lt, mx]
  simp
theorem min_mn (ats : Array TypeId) (ty : TypeId) (k k' : IntKind) (x y : Int) : Builtin.min_ ats ty #[.int k x, .int k' y] = pure (.int k (mn x y)) := by
  simp only [Builtin.min_, List.foldlM_cons, List.foldlM_nil, Builtin.min2, mn]
  simp
/-- A block of cells, said of the heap: what its cells hold. -/
theorem Ext.keep {W w1 : World} (hb : Ext W w1) {g : Nat} {o : Obj} (h : W.heap[g]? = some o) : w1.heap[g]? = some o := (hb.block g (Array.getElem?_eq_some_iff.1 h).1).trans h
theorem blk_cell {w : World} {g : Nat} {cs : Array Value} {t : TypeId} {fr : Nat × Nat} (h : w.heap[g]? = some (.cells cs t fr)) : ∀ o : Nat, w.cell? ⟨g, o, none⟩ = cs[o]? := by
  intro o; simp [World.cell?, h]
theorem blk_free {w : World} {g : Nat} {cs : Array Value} {t : TypeId} (h : w.heap[g]? = some (.cells cs t (0, 0))) : ∀ o : Nat, w.frozen? ⟨g, o, none⟩ = false := by
  intro o; simp [World.frozen?, h]
theorem blk_rules {w : World} {g : Nat} {cs : Array Value} {t : TypeId} (h : w.heap[g]? = some (.cells cs t (0, 0))) : (∀ o : Nat, w.cell? ⟨g, o, none⟩ = cs[o]?) ∧ ∀ o : Nat, w.frozen? ⟨g, o, none⟩ = false := ⟨blk_cell h, blk_free h⟩
theorem blk_lt {w : World} {g : Nat} {o : Obj} (h : w.heap[g]? = some o) : g < w.heap.size := (Array.getElem?_eq_some_iff.1 h).1
theorem blk_old {w : World} {g : Nat} {o : Obj} (h : w.heap[g]? = some o) (p : Obj) : (w.alloc p).heap[g]? = some o := (Below.heap_alloc w p g (blk_lt h)).trans h
theorem blk_new (w : World) (o : Obj) : (w.alloc o).heap[w.heap.size]? = some o := by
  show (w.heap.push o)[_]? = _
  simp
theorem blk_new1 (w : World) (o p : Obj) : ((w.alloc o).alloc p).heap[w.heap.size + 1]? = some p := by
  have := blk_new (w.alloc o) p
  simpa using this
theorem blk_new2 (w : World) (o p q : Obj) : (((w.alloc o).alloc p).alloc q).heap[w.heap.size + 1 + 1]? = some q := by
  have := blk_new1 (w.alloc o) p q
  simpa using this
theorem blk_new3 (w : World) (o p q r : Obj) : ((((w.alloc o).alloc p).alloc q).alloc r).heap[w.heap.size + 1 + 1 + 1]? = some r := by
  have := blk_new2 (w.alloc o) p q r
  simpa using this
theorem blk_set {w : World} {g : Nat} {cs : Array Value} {t : TypeId} {fr : Nat × Nat} (h : w.heap[g]? = some (.cells cs t fr)) (i : Nat) (v : Value) : (w.setCell ⟨g, i, none⟩ v).heap[g]? = some (.cells (cs.setIfInBounds i v) t fr) := by
  simp only [World.setCell, Array.getElem?_modify, h]
  simp
theorem blk_set_ne {w : World} {g g' : Nat} {o : Obj} (h : w.heap[g]? = some o) (hne : g ≠ g') (i : Nat) (v : Value) : (w.setCell ⟨g', i, none⟩ v).heap[g]? = some o := (Below.heap_setCell w ⟨g', i, none⟩ v g hne).trans h

/-- Behind a call that was made when the caller had laid some blocks. -/
theorem ext1 {w w1 : World} {A : Obj} (h : Ext (w.alloc A) w1) : w1.heap[w.heap.size]? = some A ∧ Ext w w1 := ⟨h.keep (blk_new _ _), Ext.of_alloc h⟩
theorem ext2 {w w1 : World} {A B : Obj} (h : Ext ((w.alloc A).alloc B) w1) : w1.heap[w.heap.size]? = some A ∧ w1.heap[w.heap.size + 1]? = some B ∧ Ext w w1 :=
  ⟨h.keep (blk_old (blk_new _ _) _), h.keep (blk_new1 _ _ _), Ext.of_allocs2 h⟩
theorem ext3 {w w1 : World} {A B C : Obj} (h : Ext (((w.alloc A).alloc B).alloc C) w1) : w1.heap[w.heap.size]? = some A ∧ w1.heap[w.heap.size + 1]? = some B ∧ w1.heap[w.heap.size + 1 + 1]? = some C ∧ Ext w w1 :=
  ⟨h.keep (blk_old (blk_old (blk_new _ _) _) _), h.keep (blk_old (blk_new1 _ _ _) _), h.keep (blk_new2 _ _ _ _), Ext.of_alloc (Ext.of_allocs2 h)⟩
theorem ext4 {w w1 : World} {A B C D : Obj} (h : Ext ((((w.alloc A).alloc B).alloc C).alloc D) w1) : w1.heap[w.heap.size]? = some A ∧ w1.heap[w.heap.size + 1]? = some B ∧ w1.heap[w.heap.size + 1 + 1]? = some C ∧ w1.heap[w.heap.size + 1 + 1 + 1]? = some D ∧ Ext w w1 :=
  ⟨h.keep (blk_old (blk_old (blk_old (blk_new _ _) _) _) _), h.keep (blk_old (blk_old (blk_new1 _ _ _) _) _), h.keep (blk_old (blk_new2 _ _ _ _) _), h.keep (blk_new3 _ _ _ _ _), Ext.of_allocs2 (Ext.of_allocs2 h)⟩

/-- A world that came out of w, nothing of w turned. -/
structure After (w : World) where
  now : World
  ext : Ext w now
def After.start (w : World) : After w := ⟨w, Ext.refl w⟩
instance (w : World) : Nonempty (After w) := ⟨After.start w⟩
theorem After.cell {w : World} (x : After w) {a : Addr} {v : Value} (h : w.cell? a = some v) : x.now.cell? a = some v := x.ext.cellOf h

theorem After.blk {w : World} {g : Nat} {cs : Array Value} {t : TypeId} {fr : Nat × Nat} (h : w.heap[g]? = some (.cells cs t fr)) : ∀ (x : After w) (o : Nat), x.now.cell? ⟨g, o, none⟩ = cs[o]? := by
  intro x o
  have hg : g < w.heap.size := (Array.getElem?_eq_some_iff.1 h).1
  have := x.ext.block g hg
  simp only [World.cell?]
  rw [this, h]
  simp
theorem wp_region_after {P : Program} {id : Nat} {l : List Oper} {Q : Exit → Act → World → Prop} {a : Act} {w : World} (hm : P.follows .mixedOrders = true) (hB : Region.lexB .any l.toArray = true)
    (h : wpQuiet P l.toArray (fun w' => ∃ x : After w, w' = x.now) (fun a' => ∀ w', (∃ x : After w, w' = x.now) → Q .normal a' w') l a) : (Code.region id l.toArray true).wp P Q a w :=
  wp_region_quiet (C := fun w' => ∃ x : After w, w' = x.now) hm hB ⟨⟨w.drew, (Ext.refl w).drew⟩, rfl⟩ (by simpa using h)

/-- A callee's contract in such a region. -/
theorem Calls.after {P : Program} {f : FuncId} {args : Array Value} {w : World} {x : After w} {v : Value}
    (h : Calls P f args x.now fun e w' => e = .returned v ∧ Ext x.now w') : Calls P f args x.now fun e w'' => e = .returned v ∧ ∃ y : After w, w'' = y.now :=
  h.mono fun _ w' ⟨he, hb⟩ => ⟨he, ⟨w', x.ext.trans hb⟩, rfl⟩
theorem Calls.after_same {P : Program} {f : FuncId} {args : Array Value} {w : World} {x : After w} {v : Value}
    (h : Calls P f args x.now fun e w' => e = .returned v ∧ x.now = w') : Calls P f args x.now fun e w'' => e = .returned v ∧ ∃ y : After w, w'' = y.now :=
  h.mono fun _ w' ⟨he, hb⟩ => ⟨he, x, hb.symm⟩
end Go.Proofs.Ytjghghbldifhaaa
set_option linter.unusedVariables false
set_option linter.unusedSimpArgs false
namespace Go.Proofs.Ytjghghbldifhaaa
open Go.RowKit

/-- A slice of whole numbers that is read. -/
def Reads (k : IntKind) (w : World) (A : Option Addr) (xs : List Int) : Prop :=
  ∀ i, i < xs.length → ∃ b off, A = some ⟨b, off, none⟩ ∧ w.cell? ⟨b, off + i, none⟩ = some (.int k (xs.getD i 0))
theorem Reads.ext {k : IntKind} {w w1 : World} {A : Option Addr} {xs : List Int} (h : Reads k w A xs) (hb : Ext w w1) : Reads k w1 A xs := fun i hi => by
  obtain ⟨b, off, e, hc⟩ := h i hi
  exact ⟨b, off, e, hb.cellOf hc⟩
theorem Reads.form {k : IntKind} {w : World} {A : Option Addr} {xs : List Int} (h : Reads k w A xs) (hn : 0 < xs.length) : ∃ b off, A = some ⟨b, off, none⟩ ∧ ∀ i, i < xs.length → w.cell? ⟨b, off + i, none⟩ = some (.int k (xs.getD i 0)) := by
  obtain ⟨b, off, e, hc⟩ := h 0 hn
  refine ⟨b, off, e, fun i hi => ?_⟩
  obtain ⟨b', off', e', hc'⟩ := h i hi
  rw [e] at e'
  injection e' with e'
  injection e' with e1 e2
  subst e1; subst e2
  exact hc'

theorem World.ownsRow.base_le {w : World} {base base' : Nat} {e : TypeId} {size : Nat} {v : Value} {n : Nat} {xs : List Value} (h : w.ownsRow base e size v n xs) (hb : base' ≤ base) : w.ownsRow base' e size v n xs := by
  obtain ⟨h1, h2⟩ := h
  refine ⟨h1, ?_⟩
  rcases h2 with h2 | ⟨g, cap, cur, e1, e2, e3⟩
  · exact .inl h2
  · exact .inr ⟨g, cap, cur, e1, Nat.le_trans hb e2, e3⟩

/-- The numbers of a list as cells. -/
def nums (k : IntKind) (xs : List Int) : List Value := xs.map (Value.int k)
theorem nums_length (k : IntKind) (xs : List Int) : (nums k xs).length = xs.length := by simp [nums]
theorem nums_get {k : IntKind} {xs : List Int} {i : Nat} (h : i < xs.length) : (nums k xs)[i]? = some (.int k (xs.getD i 0)) := by
  simp [nums, List.getD_eq_getElem?_getD, List.getElem?_eq_getElem h]

/-- A row of the call's own that holds these numbers. -/
abbrev Own (k : IntKind) (e : TypeId) (w : World) (base : Nat) (v : Value) (xs : List Int) : Prop := w.ownsRow base e 1 v xs.length (nums k xs)
theorem Own.ext {k : IntKind} {e : TypeId} {w w1 : World} {base : Nat} {v : Value} {xs : List Int} (h : Own k e w base v xs) (hb : Ext w w1) : Own k e w1 base v xs :=
  World.ownsRow.kept h ⟨hb.os, hb.tape, hb.output, hb.size, fun i hi _ => hb.block i hi⟩ (row := none) (by cases v.ownBlock <;> simp)
theorem Own.reads {k : IntKind} {e : TypeId} {w : World} {base : Nat} {v : Value} {xs : List Int} (h : Own k e w base v xs) : ∃ A c, v = .slice A xs.length c ∧ Reads k w A xs ∧ xs.length ≤ c ∧ c ≤ maxLen := by
  obtain ⟨h1, h2⟩ := h
  rcases h2 with ⟨rfl, h0⟩ | ⟨g, cap, cur, rfl, hb, hh, hnc, hcm, hcs, ht⟩
  · exact ⟨none, 0, by rw [h0], fun i hi => by omega, by omega, by simp⟩
  · refine ⟨_, cap, rfl, fun i hi => ⟨g, 0, rfl, ?_⟩, hnc, hcm⟩
    have := World.ownsRow.cellAt (w := w) (base := base) (e := e) (size := 1) (g := g) (n := xs.length) (cap := cap) (xs := nums k xs) ⟨h1, .inr ⟨g, cap, cur, rfl, hb, hh, hnc, hcm, hcs, ht⟩⟩ i (by omega)
    rw [Nat.zero_add, this, nums_get hi]

/-- A picture's buffer at block bb, its pixels in block bp. -/
structure BufAt (T : TypeId) (e : TypeId) (w : World) (base bb bp cap : Nat) (W H : Int) (px : List Int) : Prop where
  head : w.heap[bb]? = some (.cells #[.int .i64 W, .int .i64 H, .slice (some ⟨bp, 0, none⟩) px.length cap] T (0, 0))
  row : Own .u32 e w base (.slice (some ⟨bp, 0, none⟩) px.length cap) px
  ne : bb ≠ bp
  hb : base ≤ bb
  w1 : 1 ≤ W
  w2 : W ≤ 256
  h1 : 1 ≤ H
  h2 : H ≤ 256
  len : (px.length : Int) = W * H
  pix : ∀ p ∈ px, 0 ≤ p ∧ p ≤ 16777215
theorem BufAt.ext {T e : TypeId} {w w1 : World} {base bb bp cap : Nat} {W H : Int} {px : List Int} (h : BufAt T e w base bb bp cap W H px) (hb : Ext w w1) : BufAt T e w1 base bb bp cap W H px :=
  ⟨hb.keep h.head, h.row.ext hb, h.ne, h.hb, h.w1, h.w2, h.h1, h.h2, h.len, h.pix⟩

theorem own_made (W : World) (base : Nat) (e : TypeId) (k : IntKind) (m : Nat) (hb : base ≤ W.heap.size) (hm : m ≤ 9223372036854775807) :
    (W.alloc (.cells (madeCells #[.int k 0] m) e)).ownsRow base e 1 (.slice (some ⟨W.heap.size, 0, none⟩) m m) m (nums k (List.replicate m 0)) := by
  have h := World.ownsRow_lit (base := base) (e := e) (size := 1) W (madeCells #[.int k 0] m) m hb (by simpa [maxLen] using hm) (by simp [size_madeCells])
  have hl : (madeCells #[Value.int k 0] m).toList = nums k (List.replicate m 0) := by
    apply List.ext_getElem
    · simp [nums, madeCells]
    · intro i h1 h2
      simp [nums, madeCells, Nat.mod_one]
  rwa [hl] at h

def cut24 (x : Int) : Int := x % 16777216
theorem wraps_u32 (n : Int) (h₀ : 0 ≤ n) (h₁ : n < 2 ^ 32) : IntKind.u32.wrap n = n := by rw [IntKind.wrap_u32]; omega
theorem and_cut {x : Int} (h₀ : 0 ≤ x) (h₁ : x < 4294967296) : bits .and .u32 x 16777215 = cut24 x := bits_mask .u32 32 (by decide) wraps_u32 24 (by decide) x h₀ h₁
theorem cut24_bd (x : Int) : 0 ≤ cut24 x ∧ cut24 x ≤ 16777215 := by unfold cut24; omega
theorem cut24_same {x : Int} (h0 : 0 ≤ x) (h1 : x ≤ 16777215) : cut24 x = x := by unfold cut24; omega

/-- Is it a picture? -/
def isPic (W H : Int) (n : Nat) : Bool := decide (1 ≤ W) && decide (W ≤ 256) && decide (1 ≤ H) && decide (H ≤ 256) && decide ((n : Int) = W * H)
def okSize (W H : Int) : Bool := decide (1 ≤ W) && decide (W ≤ 256) && decide (1 ≤ H) && decide (H ≤ 256)
theorem okSize_iff {W H : Int} : okSize W H = true ↔ 1 ≤ W ∧ W ≤ 256 ∧ 1 ≤ H ∧ H ≤ 256 := by simp [okSize]; omega
theorem mul_bd {W H : Int} (h1 : 1 ≤ W) (h2 : W ≤ 256) (h3 : 1 ≤ H) (h4 : H ≤ 256) : 1 ≤ W * H ∧ W * H ≤ 65536 := by
  constructor
  · have := Int.mul_le_mul h1 h3 (by omega) (by omega); omega
  · have := Int.mul_le_mul h2 h4 (by omega) (by omega); omega
theorem Rect.and_in {r R : Rect} {W H : Int} (h1 : 1 ≤ W) (h2 : W ≤ 256) (h3 : 1 ≤ H) (h4 : H ≤ 256) (hR : Rect.and r ⟨0, 0, W, H⟩ = R) :
    (R = Rect.zero ∨ 0 ≤ R.x ∧ 1 ≤ R.w ∧ R.x + R.w ≤ W ∧ 0 ≤ R.y ∧ 1 ≤ R.h ∧ R.y + R.h ≤ H) ∧ 0 ≤ R.h := by
  subst hR
  unfold Rect.and
  split
  · exact ⟨.inl rfl, by simp [Rect.zero]⟩
  · rename_i hn
    simp only [Bool.or_eq_true, decide_eq_true_eq, not_or, Bool.not_eq_true] at hn
    obtain ⟨⟨⟨e1, e2⟩, e3⟩, e4⟩ := hn
    have g1 := Rect.empty_iff.1 e1
    simp only [Rect.meet, mx, mn] at e3 e4 ⊢
    refine ⟨.inr ⟨?_, ?_, ?_, ?_, ?_, ?_⟩, ?_⟩
    all_goals (repeat' split) <;> omega
end Go.Proofs.Ytjghghbldifhaaa
set_option linter.unusedVariables false
set_option linter.unusedSimpArgs false
namespace Go.Proofs.Ytjghghbldifhaaa
open Go.RowKit

/-- The cells that a slice shows: none of an empty one is asked. -/
def Shows (w : World) (A : Option Addr) (news : List Value) : Prop := news ≠ [] → ∃ ad, A = some ad ∧ ∀ j u, news[j]? = some u → w.cell? (ad.add j) = some u
theorem add_plain (g o j : Nat) : (⟨g, o, none⟩ : Addr).add j = ⟨g, o + j, none⟩ := by unfold Addr.add; split <;> simp_all
theorem Reads.shows {k : IntKind} {w : World} {A : Option Addr} {xs : List Int} (h : Reads k w A xs) : Shows w A (nums k xs) := by
  intro hne
  have hn : 0 < xs.length := by
    rcases Nat.eq_zero_or_pos xs.length with h0 | h0
    · exact absurd (by rw [List.eq_nil_of_length_eq_zero h0]; rfl) hne
    · exact h0
  obtain ⟨b, off, rfl, hc⟩ := h.form hn
  refine ⟨_, rfl, fun j u hu => ?_⟩
  have hj : j < xs.length := by
    rcases Nat.lt_or_ge j xs.length with h1 | h1
    · exact h1
    · simp [nums, List.getElem?_eq_none h1] at hu
  rw [nums_get hj] at hu
  injection hu with hu
  rw [add_plain, hc j hj, hu]

section
variable {P : Program} {ops : Array Oper} {rest : List Oper} {o : Oper} {a : Act} {Q : Exit → Act → World → Prop} {w : World}
theorem run_app (base : Nat) (t ty e : TypeId) (z : Value) (size bytes : Nat) (ht : P.underlying t = some (.slice e)) (hinfo : (P.info? e).map (fun i => (i.zero, i.size, i.bytes)) = some (some z, size, bytes))
    (hzs : z.cells.size = size) (hsz : 0 < size) (hby : 0 < bytes) (v : Value) (n : Nat) (xs : List Value) (hown : w.ownsRow base e size v n xs)
    (A : Option Addr) (m c : Nat) (news : List Value) (hc : A = none → c = 0) (hl : news.length = m * size) (hnews : Shows w A news) (h1 : ∀ u ∈ news, u.oneCell' = true)
    (hbytes : (n + m) * bytes ≤ 140737488355328) (hbase : base ≤ w.heap.size) :
    ∃ v' w', (Builtin.append_ #[t, t] ty #[v, .slice A m c]).run P w = .ok v' w' ∧ w'.ownsRow base e size v' (n + m) (xs ++ news) ∧ w.grownBy w' v.ownBlock := by
  obtain ⟨i, hi, hzz⟩ := Option.map_eq_some_iff.1 hinfo
  simp only [Prod.mk.injEq] at hzz
  obtain ⟨hz0, hz1, hz2⟩ := hzz
  have h63 : n + m ≤ maxLen := by
    have := Nat.le_mul_of_pos_right (n + m) hby
    simp only [maxLen]; omega
  rcases A with _ | ad
  · obtain rfl := hc rfl
    have hm : news = [] := by
      rcases news with _ | ⟨x, l⟩
      · rfl
      · obtain ⟨ad, h, _⟩ := hnews (by simp)
        cases h
    subst hm
    have hm0 : m = 0 := by
      have : 0 = m * size := hl
      rcases Nat.eq_zero_or_pos m with h | h
      · exact h
      · have := Nat.mul_pos h hsz; omega
    subst hm0
    exact ⟨v, w, run_append_owned_none (P := P) (w := w) base t ty e i size ht hi v n xs hown, by simpa using hown, World.grownBy.refl w _⟩
  · have hnews' : ∀ j u, news[j]? = some u → w.cell? (ad.add j) = some u := by
      intro j u hu
      have hne : news ≠ [] := fun h => by rw [h] at hu; simp at hu
      obtain ⟨ad', h, hc⟩ := hnews hne
      injection h with h
      subst h
      exact hc j u hu
    obtain ⟨v', w', hr, h2, h3, _⟩ := run_append_own (P := P) (w := w) base t ty e i z size bytes ht hi hz0 hz1 hz2 hzs hsz v n xs hown ad m c news hl hnews' h1 h63 hbytes hbase
    exact ⟨v', w', hr, h2, h3⟩

theorem wpList_app (base : Nat) (hgd : o.guard = none) (s x : Operand) (t e : TypeId) (z : Value) (size bytes : Nat)
    (ho : o.op = .call { callee := .builtin .append, args := #[s, x], argTypes := #[t, t] })
    (ht : P.underlying t = some (.slice e)) (hinfo : (P.info? e).map (fun i => (i.zero, i.size, i.bytes)) = some (some z, size, bytes))
    (hzs : z.cells.size = size) (hsz : 0 < size) (hby : 0 < bytes) (v : Value) (n : Nat) (xs : List Value) (hs : a.eval s = v) (hown : w.ownsRow base e size v n xs)
    (A : Option Addr) (m c : Nat) (news : List Value) (hx : a.eval x = .slice A m c) (hc : A = none → c = 0) (hl : news.length = m * size) (hnews : Shows w A news) (h1 : ∀ u ∈ news, u.oneCell' = true)
    (hbytes : (n + m) * bytes ≤ 140737488355328) (hbase : base ≤ w.heap.size)
    (h : ∀ v' w', w'.ownsRow base e size v' (n + m) (xs ++ news) → w.grownBy w' v.ownBlock → wpList P ops Q rest (a.put o.dst v') w') : wpList P ops Q (o :: rest) a w := by
  obtain ⟨v', w', hr, h2, h3⟩ := run_app (P := P) (w := w) base t o.type e z size bytes ht hinfo hzs hsz hby v n xs hown A m c news hc hl hnews h1 hbytes hbase
  refine wpList_plain hgd fun K hK => ?_
  unfold Oper.wp
  simp only [execOp, ho, resolve, invoke, builtin, Sem.run_bind, Sem.run_pure, Result.andThen_ok, List.map_toArray, List.map_cons, List.map_nil, hs, hx, hr]
  exact hK _ _ (h v' w' h2 h3)
end
theorem nums_one {k : IntKind} {xs : List Int} : ∀ u ∈ nums k xs, u.oneCell' = true := by
  intro u hu
  obtain ⟨x, _, rfl⟩ := List.mem_map.1 hu
  rfl
end Go.Proofs.Ytjghghbldifhaaa
