/- The library's sorts and its compaction, at rows of the call's own: whole numbers, and pieces across. -/
import Derived.Test.YtjghghbldifhaaaSpA
import Derived.Test.YtjghghbldifhaaaShelf
import Derived.Sort.OwnSortedInts
import Derived.Shelf.SlSortCmp.WholeK
import Derived.Shelf.SlSortCmp.NoneTotal
import Derived.Shelf.Slices.In.SortNone
import Derived.Shelf.Slices.CompactI
import Derived.Shelf.Sort.Plain
import Derived.Shelf.SlicesQ.IndexFunc
set_option linter.unusedVariables false
set_option linter.unusedSimpArgs false
namespace Go.Proofs.Ytjghghbldifhaaa
open Go.RowKit Go.Shelf Go.Sort Go.Lib

/-! ### Flat rows behind a sort -/
theorem heap_sortedV {w : World} {g n : Nat} {os : Array Obj} {cur : Array Value} {e : TypeId} {fr : Nat × Nat} (d : Array Value) (hb : w.heap[g]? = some (.cells cur e fr)) :
    (grow (putRow id (Sort.ahead w n) g 0 d) os).heap[g]? = some (.cells (putCells id 0 d cur) e fr) := by
  have hg : g < w.heap.size := (Array.getElem?_eq_some_iff.1 hb).1
  rw [heap_grow_old _ _ (by simpa using hg)]
  simp [putRow, mapBlock, Sort.ahead, Array.getElem?_modify, hb, onCells]
theorem grownBy_sortedV {w : World} {g n : Nat} {os : Array Obj} (d : Array Value) : w.grownBy (grow (putRow id (Sort.ahead w n) g 0 d) os) (some g) := by
  refine ⟨rfl, rfl, rfl, by simp, fun k hk hne => ?_⟩
  rw [heap_grow_old _ _ (by simpa using hk)]
  have : g ≠ k := fun e => hne (by rw [e])
  simp [putRow, mapBlock, Sort.ahead, Array.getElem?_modify, this]
theorem take_putCellsV (cur : Array Value) (ts : List Value) (h : ts.length ≤ cur.size) : (putCells id 0 ts.toArray cur).toList.take ts.length = ts := by
  apply List.ext_getElem?
  intro j
  by_cases hj : j < ts.length
  · rw [List.getElem?_take_of_lt hj, Array.getElem?_toList]
    simp [putCells, hj, show j < cur.size by omega]
  · rw [List.getElem?_take_eq_none (by omega), List.getElem?_eq_none (by omega)]
theorem putCells_size {α : Type} [Inhabited α] (enc : α → Value) (o : Nat) (d : Array α) (cur : Array Value) : (putCells enc o d cur).size = cur.size := by simp [putCells]

/-! ### Pieces -/
/-- A piece within bounds. -/
structure SpB where
  p : Piece
  h : -1048576 ≤ p.1 ∧ p.1 ≤ p.2 ∧ p.2 ≤ 1048576
instance : Inhabited SpB := ⟨⟨(0, 0), by decide⟩⟩
def encB (x : SpB) : List Value := scell x.p
def cfB (x y : SpB) : Int := x.p.1 - y.p.1
theorem ltB (x y : SpB) : ltOf cfB x y = decide (x.p.1 < y.p.1) := by
  unfold ltOf cfB
  by_cases h : x.p.1 < y.p.1
  · simp [h]; omega
  · simp [h]; omega
theorem swoB : SWO (ltOf cfB) where
  irrefl x := by rw [ltB]; simp
  trans x y z h1 h2 := by rw [ltB] at *; simp at *; omega
  ntrans x y z h1 h2 := by rw [ltB] at *; simp at *; omega
set_option maxHeartbeats 1000000 in
theorem rowcmp_any (x y : SpB) (W : World) : Calls Try.prog 134 #[.agg #[.int .i64 x.p.1, .int .i64 x.p.2], .agg #[.int .i64 y.p.1, .int .i64 y.p.2]] W fun e w' => e = .returned (.int .i64 (cfB x y)) ∧ ∃ q os', w' = grow (W.drewN q) os' := by
  obtain ⟨⟨x1, x2⟩, hx⟩ := x
  obtain ⟨⟨y1, y2⟩, hy⟩ := y
  show Calls Try.prog _ #[.agg #[.int .i64 x1, .int .i64 x2], .agg #[.int .i64 y1, .int .i64 y2]] W fun e w' => e = .returned (.int .i64 (x1 - y1)) ∧ ∃ q os', w' = grow (W.drewN q) os'
  dsimp only at hx hy
  go_enter Try.func134, Try.ntmps134
  go_wp2
  go_ret
  exact ⟨rfl, 0, _, by rw [alloc_eq_grow, alloc_eq_grow, grow_grow]; rfl⟩
theorem cmpB (blk off size : Nat) (w : World) : CmpLays Try.prog 134 #[] encB 2 cfB blk off size w :=
  fun _ _ _ _ x y => rowcmp_any x y _
/-- A list of bounded pieces. -/
def boundL (l : List Piece) (h : ∀ p ∈ l, -1048576 ≤ p.1 ∧ p.1 ≤ p.2 ∧ p.2 ≤ 1048576) : List SpB := l.attach.map fun p => ⟨p.1, h p.1 p.2⟩
theorem boundL_val (l : List Piece) (h : ∀ p ∈ l, -1048576 ≤ p.1 ∧ p.1 ≤ p.2 ∧ p.2 ≤ 1048576) : (boundL l h).map SpB.p = l := by
  unfold boundL
  rw [List.map_map]
  exact List.attach_map_subtype_val l
theorem flatK_cells (l : List SpB) : flatK encB 2 l.toArray = (scells (l.map SpB.p)).toArray := by
  apply Array.ext
  · rw [size_flatK]
    simp [scells_length]
  · intro t h1 h2
    rw [size_flatK] at h1
    have h1' : t < l.length * 2 := by simpa using h1
    have hi : t / 2 < l.length := by omega
    have e1 := get_flatK encB 2 l.toArray t (by simpa using h1')
    have hg := scells_get (l := l.map SpB.p) (i := t / 2) (r := l[t / 2].p) (by rw [List.getElem?_map, List.getElem?_eq_getElem hi]; rfl) (t % 2) (Nat.mod_lt _ (by decide))
    rw [show t / 2 * 2 + t % 2 = t by omega] at hg
    rw [getElem!_pos _ t (by rw [size_flatK]; simpa using h1')] at e1
    rw [e1]
    have e2 : l.toArray[t / 2]! = l[t / 2] := by rw [getElem!_pos l.toArray (t / 2) (by simpa using hi)]; simp
    rw [e2]
    have h3 : t < (scells (l.map SpB.p)).length := by simpa using h2
    rw [List.getElem?_eq_getElem h3] at hg
    have h4 : t % 2 < (scell l[t / 2].p).length := by simp [scell]; omega
    rw [List.getElem?_eq_getElem h4] at hg
    injection hg with hg
    have e3 : (encB l[t / 2])[t % 2]! = (scell l[t / 2].p)[t % 2] := getElem!_pos (encB l[t / 2]) (t % 2) h4
    rw [e3, ← hg]
    simp
theorem shelf_sortS (blk off cap : Nat) (d : Array SpB) (w : World) (hH : HoldsK encB 2 w blk off d) (hblk : blk < w.heap.size) (hsz : d.size < 4611686018427387904) :
    Calls Try.prog 133 #[.slice (some ⟨blk, off, none⟩) d.size cap, .func (.func 134) #[] #[]] w fun e w' =>
      e = .returned (.tuple #[]) ∧ ∃ d' n os, PermIn 0 d.size d d' ∧ SortedIn (ltOf cfB) 0 d.size d' ∧ w' = sortWorldK encB 2 w blk off n d' os := by
  have eg : ∀ args w, (callFunc 134 args).run Try.prog w = .ok (.enter 134 args) w := enters_of Try.func134 (by kernel_rfl) rfl
  exact AnyQ.slices_SortFunc Try.laySF 2 Try.isAgg133 Try.sizeOf133 encB (fun _ => rfl) (fun x v hv => scell_one _ v hv) cfB swoB 134 #[] blk off cap d w eg (cmpB blk off d.size w) hH hblk hsz
theorem permIn_list {α : Type} [Inhabited α] {d d' : Array α} (h : PermIn 0 d.size d d') : d'.toList.Perm d.toList := by
  obtain ⟨h1, _, h3⟩ := h
  have e1 : d.extract 0 d.size = d := by simp
  have e2 : d'.extract 0 d.size = d' := by rw [← h1]; simp
  rwa [e1, e2] at h3
theorem sortedB_list {d : Array SpB} (h : SortedIn (ltOf cfB) 0 d.size d) : (d.toList.map SpB.p).Pairwise (fun p q => p.1 ≤ q.1) := by
  rw [List.pairwise_map, List.pairwise_iff_getElem]
  intro i j hi hj hij
  have hi' : i < d.size := by simpa using hi
  have hj' : j < d.size := by simpa using hj
  have := h i j (Nat.zero_le _) hij hj'
  rw [ltB, getElem!_pos d i hi', getElem!_pos d j hj'] at this
  simp only [decide_eq_false_iff_not] at this
  simp only [Array.getElem_toList]
  omega
set_option maxHeartbeats 1000000 in
/-- slices.SortFunc at a row of pieces of the call's own. -/
theorem ssortf_any (A : Option Addr) (c base : Nat) (l : List Piece) (w : World) (hown : OwnS w base (.slice A l.length c) l) (hbd : ∀ p ∈ l, -1048576 ≤ p.1 ∧ p.1 ≤ p.2 ∧ p.2 ≤ 1048576) (hm : l.length ≤ 4398046511104) :
    Calls Try.prog 133 #[.slice A l.length c, .func (.func 134) #[] #[]] w fun e w' => e = .returned (.tuple #[]) ∧ ∃ l', l'.Perm l ∧ l'.Pairwise (fun p q => p.1 ≤ q.1) ∧ OwnS w' base (.slice A l.length c) l' ∧ w.grownBy w' (Value.slice A l.length c).ownBlock := by
  rcases Nat.eq_zero_or_pos l.length with h0 | hp
  · have hl : l = [] := List.eq_nil_of_length_eq_zero h0
    subst hl
    refine Calls.mono (AnyF.slices_SortFunc_none Try.laySF A c _ w) ?_
    rintro e w' ⟨rfl, rfl⟩
    exact ⟨rfl, [], List.Perm.refl _, List.Pairwise.nil, hown, World.grownBy.refl _ _⟩
  · obtain ⟨g, rfl, hgb⟩ := row_form hown hp
    have hlt : g < w.heap.size := (World.ownsRow.lt hown g (by simp [Value.ownBlock])).2
    have hL := boundL_val l hbd
    have hLn : (boundL l hbd).length = l.length := by rw [← List.length_map (f := SpB.p), hL]
    have hF := flatK_cells (boundL l hbd)
    rw [hL] at hF
    have hH : HoldsK encB 2 w g 0 (boundL l hbd).toArray := by
      unfold HoldsK
      rw [hF]
      intro j hj
      have hj' : j < l.length * 2 := by simpa [scells_length] using hj
      refine ⟨?_, World.ownsRow.frozenAt hown _⟩
      rw [Nat.zero_add, World.ownsRow.cellAt hown j hj']
      have h3 : j < (scells l).length := by rw [scells_length]; exact hj'
      rw [List.getElem?_eq_getElem h3, getElem!_pos _ j (by simpa using h3)]
      simp
    have hc := shelf_sortS g 0 c (boundL l hbd).toArray w hH hlt (by simp [hLn]; omega)
    rw [show (boundL l hbd).toArray.size = l.length by simp [hLn]] at hc
    refine hc.mono ?_
    rintro e w' ⟨rfl, d', n, os, hpm, hso, rfl⟩
    have hsz : d'.size = l.length := by
      have := hpm.1
      simpa [hLn] using this
    have hpm' : d'.toList.Perm (boundL l hbd) := by
      have := permIn_list (d := (boundL l hbd).toArray) (d' := d') (by simpa [hLn] using hpm)
      simpa using this
    have hF2 := flatK_cells d'.toList
    rw [Array.toArray_toList] at hF2
    obtain ⟨l', hl'⟩ : ∃ l', d'.toList.map SpB.p = l' := ⟨_, rfl⟩
    rw [hl'] at hF2
    have hln : l'.length = l.length := by rw [← hl', List.length_map]; simpa using hsz
    have hperm : l'.Perm l := by rw [← hl', ← hL]; exact hpm'.map _
    have hsrt : l'.Pairwise (fun p q => p.1 ≤ q.1) := by rw [← hl']; exact sortedB_list (by rw [hsz]; exact hso)
    refine ⟨rfl, l', hperm, hsrt, ?_, ?_⟩
    · obtain ⟨h1, h2⟩ := hown
      rcases h2 with ⟨h2, _⟩ | ⟨g', cap, cur, e1, e2, e3, e4, e5, e6, e7⟩
      · cases h2
      · injection e1 with e1 _ e9
        injection e1 with e1
        injection e1 with e1
        subst e1; subst e9
        have hb' : (sortWorldK encB 2 w g 0 n d' os).heap[g]? = some (.cells (putCells id 0 (scells l').toArray cur) 133 (0, 0)) := by
          unfold sortWorldK putRowK
          rw [hF2]
          exact heap_sortedV _ e3
        have hc1 : (putCells id 0 (scells l').toArray cur).size = c * 2 := by rw [putCells_size, e6]
        have ht : (putCells id 0 (scells l').toArray cur).toList.take (l'.length * 2) = scells l' := by
          rw [← scells_length l']
          exact take_putCellsV _ _ (by rw [scells_length, e6]; omega)
        exact ⟨scells_length l', .inr ⟨g, c, _, by rw [hln], e2, hb', by omega, e5, hc1, ht⟩⟩
    · unfold sortWorldK putRowK
      exact grownBy_sortedV _

/-! ### Whole numbers -/
theorem own_int_nums (xs : List Int) : nums .i64 xs = xs.map (Value.int .i64) := rfl
set_option maxHeartbeats 1000000 in
/-- slices.Sort at a row of whole numbers of the call's own. -/
theorem isort_any (A : Option Addr) (c base : Nat) (xs : List Int) (w : World) (hown : Own .i64 3 w base (.slice A xs.length c) xs) (hm : xs.length ≤ 17592186044416) :
    Calls Try.prog 123 #[.slice A xs.length c] w fun e w' => e = .returned (.tuple #[]) ∧ ∃ xs', xs'.Perm xs ∧ xs'.Pairwise (· ≤ ·) ∧ Own .i64 3 w' base (.slice A xs'.length c) xs' ∧ w.grownBy w' (Value.slice A xs.length c).ownBlock := by
  rcases Nat.eq_zero_or_pos xs.length with h0 | hp
  · have hl : xs = [] := List.eq_nil_of_length_eq_zero h0
    subst hl
    refine Calls.mono (Any.slices_Sort_int_none Try.laySI A c w) ?_
    rintro e w' ⟨rfl, rfl⟩
    exact ⟨rfl, [], List.Perm.refl _, List.Pairwise.nil, hown, World.grownBy.refl _ _⟩
  · obtain ⟨g, rfl, hgb⟩ := row_form hown hp
    obtain ⟨h1, h2⟩ := hown
    rcases h2 with ⟨h2, _⟩ | ⟨g', cap, cur, e1, e2, e3, e4, e5, e6, e7⟩
    · cases h2
    · injection e1 with e1 _ e9
      injection e1 with e1
      injection e1 with e1
      subst e1; subst e9
      have hlt : g < w.heap.size := blk_lt e3
      refine (Any.slices_Sort_int Try.laySI g 0 c xs w (holds_of_blockI e3 (by rw [← own_int_nums, ← e7, Nat.mul_one])) hlt (by omega)).mono ?_
      rintro e w' ⟨rfl, n, os, rfl⟩
      have hpm := List.mergeSort_perm xs (fun x y => decide (x ≤ y))
      have hln := hpm.length_eq
      refine ⟨rfl, _, hpm, ?_, ?_, grownBy_sortedI _⟩
      · have := List.pairwise_mergeSort (le := fun x y : Int => decide (x ≤ y)) (fun a b c h1 h2 => by simp at *; omega) (fun a b => by simp; omega) xs
        exact this.imp (fun h => by simpa using h)
      · have := ownsRow_sortedI (w := w) (base := base) (g := g) (cap := c) (n := n) (e := 3) (os := os) (cur := cur) (ss := xs) (ts := xs.mergeSort fun x y => decide (x ≤ y)) hln e2 e3 (by omega) e5 e6
        unfold Own
        rw [hln]
        exact this
end Go.Proofs.Ytjghghbldifhaaa
