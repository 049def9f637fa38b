/- Lists of pieces across: how they lie in memory. -/
import Derived.Test.YtjghghbldifhaaaRunsG
import Derived.Test.YtjghghbldifhaaaRegB
set_option linter.unusedVariables false
set_option linter.unusedSimpArgs false
namespace Go.Proofs.Ytjghghbldifhaaa
open Go.RowKit

def scell (p : Piece) : List Value := [.int .i64 p.1, .int .i64 p.2]
def scells (l : List Piece) : List Value := l.flatMap scell
theorem scells_length (l : List Piece) : (scells l).length = l.length * 2 := by
  induction l with
  | nil => rfl
  | cons r l ih => simp [scells, scell] at ih ⊢; omega
theorem scells_snoc (l : List Piece) (p : Piece) : scells (l ++ [p]) = scells l ++ scell p := by simp [scells]
theorem scells_get : ∀ {l : List Piece} {i : Nat} {r : Piece}, l[i]? = some r → ∀ j, j < 2 → (scells l)[i * 2 + j]? = (scell r)[j]?
  | [], i, r, h, _, _ => by simp at h
  | s :: l, 0, r, h, j, hj => by
    simp at h
    subst h
    show (scell s ++ scells l)[0 * 2 + j]? = _
    rw [Nat.zero_mul, Nat.zero_add, List.getElem?_append_left (by simpa [scell] using hj)]
  | s :: l, i + 1, r, h, j, hj => by
    have ih := scells_get (l := l) (i := i) (r := r) (by simpa using h) j hj
    show (scell s ++ scells l)[(i + 1) * 2 + j]? = _
    rw [List.getElem?_append_right (by simp [scell]; omega)]
    rw [show (i + 1) * 2 + j - (scell s).length = i * 2 + j by simp [scell]; omega]
    exact ih
/-- A list of pieces that is read. -/
def SpansAt (w : World) (A : Option Addr) (l : List Piece) : Prop := ∀ i r, l[i]? = some r → ∃ b off, A = some ⟨b, off, none⟩ ∧ w.cell? ⟨b, off + i * 2, none⟩ = some (.int .i64 r.1) ∧ w.cell? ⟨b, off + i * 2 + 1, none⟩ = some (.int .i64 r.2)
theorem SpansAt.ext {w w1 : World} {A : Option Addr} {l : List Piece} (h : SpansAt w A l) (hb : Ext w w1) : SpansAt w1 A l := fun i r hi => by
  obtain ⟨b, off, h1, h2, h3⟩ := h i r hi
  exact ⟨b, off, h1, hb.cellOf h2, hb.cellOf h3⟩
theorem SpansAt.nil (w : World) (A : Option Addr) : SpansAt w A [] := fun i r hi => by simp at hi
theorem SpansAt.form {w : World} {A : Option Addr} {l : List Piece} (h : SpansAt w A l) (hn : 0 < l.length) : ∃ b off, A = some ⟨b, off, none⟩ ∧ ∀ i r, l[i]? = some r → w.cell? ⟨b, off + i * 2, none⟩ = some (.int .i64 r.1) ∧ w.cell? ⟨b, off + i * 2 + 1, none⟩ = some (.int .i64 r.2) := by
  obtain ⟨b, off, e, _⟩ := h 0 l[0] (List.getElem?_eq_getElem hn)
  refine ⟨b, off, e, fun i r hi => ?_⟩
  obtain ⟨b', off', e', hc⟩ := h i r hi
  rw [e] at e'
  injection e' with e'
  injection e' with e1 e2
  subst e1; subst e2
  exact hc
/-- A row of the call's own that holds these pieces. -/
abbrev OwnS (w : World) (base : Nat) (v : Value) (l : List Piece) : Prop := w.ownsRow base 133 2 v l.length (scells l)
theorem OwnS.at {w : World} {base : Nat} {A : Option Addr} {c : Nat} {l : List Piece} (h : OwnS w base (.slice A l.length c) l) : SpansAt w A l := fun i r hi => by
  have hlt : i < l.length := (List.getElem?_eq_some_iff.1 hi).1
  obtain ⟨g, rfl, _⟩ : ∃ g, A = some ⟨g, 0, none⟩ ∧ True := by
    obtain ⟨g, cap, e, _⟩ := World.ownsRow.form h (by omega)
    injection e with e
    exact ⟨g, e, trivial⟩
  have hc := fun j (hj : j < 2) => (World.ownsRow.cellAt h (i * 2 + j) (by omega)).trans (scells_get hi j hj)
  refine ⟨g, 0, rfl, ?_, ?_⟩
  · have := hc 0 (by decide); rw [Nat.zero_add]; simpa [scell] using this
  · have := hc 1 (by decide); rw [Nat.zero_add]; simpa [scell] using this
theorem SpansAt.shows {w : World} {A : Option Addr} {l : List Piece} (h : SpansAt w A l) : Shows w A (scells l) := by
  intro hne
  have hn : 0 < l.length := by
    rcases l with _ | ⟨r, l⟩
    · exact absurd rfl hne
    · simp
  obtain ⟨b, off, rfl, hc⟩ := h.form hn
  refine ⟨_, rfl, fun j u hu => ?_⟩
  have hj : j < l.length * 2 := by
    rw [← scells_length]
    exact (List.getElem?_eq_some_iff.1 hu).1
  have hi : j / 2 < l.length := by omega
  obtain ⟨h0, h1⟩ := hc (j / 2) l[j / 2] (List.getElem?_eq_getElem hi)
  have hg := scells_get (List.getElem?_eq_getElem hi) (j % 2) (Nat.mod_lt _ (by decide))
  have e : j / 2 * 2 + j % 2 = j := by omega
  rw [e, hu] at hg
  rw [add_plain]
  have hm : j % 2 < 2 := Nat.mod_lt _ (by decide)
  generalize hq : j % 2 = q at *
  have ea : off + j = off + j / 2 * 2 + q := by omega
  rw [ea, hg]
  rcases q with _ | _ | q
  · simpa [scell] using h0
  · simpa [scell] using h1
  · omega
theorem info_span : (Try.prog.info? 133).map (fun i => (i.zero, i.size, i.bytes)) = some (some (.agg #[.int .i64 0, .int .i64 0]), 2, 16) := by kernel_rfl
theorem scells_one {l : List Piece} : ∀ u ∈ scells l, u.oneCell' = true := by
  intro u hu
  obtain ⟨r, _, h⟩ := List.mem_flatMap.1 hu
  simp only [scell, List.mem_cons, List.not_mem_nil, or_false] at h
  rcases h with rfl | rfl <;> rfl
theorem scell_one (p : Piece) : ∀ u ∈ scell p, u.oneCell' = true := by simp [scell, Value.oneCell']
/-- One number more. -/
theorem nums_snoc (k : IntKind) (l : List Int) (m : List Int) : nums k (l ++ m) = nums k l ++ nums k m := by simp [nums]
/-- The first k elements of a row. -/
theorem row_cut {w : World} {base size n c k : Nat} {e : TypeId} {A : Option Addr} {xs : List Value} (h : w.ownsRow base e size (.slice A n c) n xs) (hk : k ≤ n) : w.ownsRow base e size (.slice A k c) k (xs.take (k * size)) := by
  obtain ⟨h1, h2⟩ := h
  have hle : k * size ≤ n * size := Nat.mul_le_mul_right size hk
  refine ⟨by rw [List.length_take, h1]; omega, ?_⟩
  rcases h2 with ⟨h2, h3⟩ | ⟨g, cap, cur, e1, e2, e3, e4, e5, e6, e7⟩
  · subst h3
    have hk0 : k = 0 := by omega
    subst hk0
    exact .inl ⟨by injection h2 with e1 e2 e3; subst e1; subst e3; rfl, rfl⟩
  · injection e1 with e1 e8 e9
    subst e1; subst e9
    refine .inr ⟨g, _, cur, rfl, e2, e3, by omega, e5, e6, ?_⟩
    rw [← e7, List.take_take, Nat.min_eq_left hle]
theorem scells_take (l : List Piece) (k : Nat) : (scells l).take (k * 2) = scells (l.take k) := by
  induction k generalizing l with
  | zero => simp [scells]
  | succ k ih =>
    rcases l with _ | ⟨p, l⟩
    · simp [scells]
    · show (scell p ++ scells l).take ((k + 1) * 2) = scell p ++ scells (l.take k)
      rw [List.take_append, List.take_of_length_le (by simp [scell]; omega), show (k + 1) * 2 - (scell p).length = k * 2 by simp [scell]; omega, ih]
/-- A list of pieces that is a block of its own kind. -/
def SpansB (w : World) (A : Option Addr) (l : List Piece) : Prop := l.length = 0 ∨ ∃ g cur, A = some ⟨g, 0, none⟩ ∧ w.heap[g]? = some (.cells cur 133 (0, 0)) ∧ cur.toList.take (l.length * 2) = scells l
theorem OwnS.blk {w : World} {base : Nat} {A : Option Addr} {c : Nat} {l : List Piece} (h : OwnS w base (.slice A l.length c) l) : SpansB w A l := by
  obtain ⟨h1, h2⟩ := h
  rcases h2 with ⟨_, h3⟩ | ⟨g, cap, cur, e1, e2, e3, e4, e5, e6, e7⟩
  · exact .inl h3
  · injection e1 with e1
    exact .inr ⟨g, cur, e1, e3, e7⟩
theorem SpansB.at {w : World} {A : Option Addr} {l : List Piece} (h : SpansB w A l) : SpansAt w A l := fun i r hi => by
  have hlt : i < l.length := (List.getElem?_eq_some_iff.1 hi).1
  rcases h with h | ⟨g, cur, rfl, hg, ht⟩
  · omega
  · have hc := fun j (hj : j < 2) => scells_get hi j hj
    have hcell : ∀ j, j < 2 → w.cell? ⟨g, i * 2 + j, none⟩ = (scell r)[j]? := fun j hj => by
      rw [blk_cell hg, ← hc j hj, ← ht, List.getElem?_take_of_lt (by omega), Array.getElem?_toList]
    refine ⟨g, 0, rfl, ?_, ?_⟩
    · have := hcell 0 (by decide); rw [Nat.zero_add]; simpa [scell] using this
    · have := hcell 1 (by decide); rw [Nat.zero_add]; simpa [scell] using this
theorem SpansB.keep {w w' : World} {A : Option Addr} {l : List Piece} (h : SpansB w A l) (hk : ∀ (g : Nat) (cur : Array Value), w.heap[g]? = some (.cells cur 133 (0, 0)) → w'.heap[g]? = some (.cells cur 133 (0, 0))) : SpansB w' A l := by
  rcases h with h | ⟨g, cur, h1, h2, h3⟩
  · exact .inl h
  · exact .inr ⟨g, cur, h1, hk g cur h2, h3⟩
theorem SpansB.ext {w w' : World} {A : Option Addr} {l : List Piece} (h : SpansB w A l) (hE : Ext w w') : SpansB w' A l := h.keep fun g cur hg => hE.keep hg
end Go.Proofs.Ytjghghbldifhaaa
