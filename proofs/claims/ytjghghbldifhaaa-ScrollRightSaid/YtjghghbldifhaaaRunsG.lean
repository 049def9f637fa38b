/- How the program makes the pieces of a row (merged out of sorted ones), and of two rows mixed. No program in sight. -/
/- How the program puts bands behind one another: the last band is stretched, or a new one laid. No program in sight. -/
import Derived.Test.YtjghghbldifhaaaRunsD
namespace Go.Proofs.Ytjghghbldifhaaa

/-- A piece across: from where to where. -/
abbrev Piece := Int × Int
def Piece.run (p : Piece) : Run Bool := ⟨p.1, p.2, true⟩
def Run.piece (r : Run Bool) : Piece := (r.a, r.b)
theorem runs_pieces {l : List (Run Bool)} (h : ∀ r ∈ l, r.v = true) : (l.map Run.piece).map Piece.run = l := by
  induction l with
  | nil => rfl
  | cons r l ih =>
    have h1 := h r (by simp)
    rw [List.map_cons, List.map_cons, ih (fun s hs => h s (by simp [hs]))]
    obtain ⟨a, b, v⟩ := r
    dsimp only at h1
    subst h1
    rfl
theorem pieces_runs (l : List Piece) : (l.map Piece.run).map Run.piece = l := by
  rw [List.map_map]
  exact (List.map_congr_left (fun p _ => rfl)).trans (List.map_id l)
/-- Has a list of pieces a place? -/
def hasP (l : List Piece) (x : Int) : Bool := l.any fun p => decide (p.1 ≤ x) && decide (x < p.2)
theorem hasP_iff {l : List Piece} {x : Int} : hasP l x = true ↔ ∃ p ∈ l, p.1 ≤ x ∧ x < p.2 := by
  unfold hasP
  rw [List.any_eq_true]
  simp only [Bool.and_eq_true, decide_eq_true_eq]
theorem runsAt_pieces : ∀ {l : List Piece} {x : Int}, runsAt false (l.map Piece.run) x = hasP l x
  | [], _ => rfl
  | p :: l, x => by
    have ih := runsAt_pieces (l := l) (x := x)
    show (if p.1 ≤ x ∧ x < p.2 then true else runsAt false (l.map Piece.run) x) = ((decide (p.1 ≤ x) && decide (x < p.2)) || hasP l x)
    rw [ih]
    by_cases h : p.1 ≤ x ∧ x < p.2
    · rw [if_pos h]; simp [h.1, h.2]
    · rw [if_neg h]
      have : (decide (p.1 ≤ x) && decide (x < p.2)) = false := by
        rw [Bool.eq_false_iff]
        intro e
        simp only [Bool.and_eq_true, decide_eq_true_eq] at e
        exact h e
      rw [this, Bool.false_or]

/-- A piece is put behind: it lengthens the last one where they touch. -/
def mergeP (acc : List Piece) (s : Piece) : List Piece :=
  match acc.getLast? with
  | none => [s]
  | some t => if s.1 ≤ t.2 then acc.dropLast ++ [(t.1, mx t.2 s.2)] else acc ++ [s]
def mergedP (l : List Piece) : List Piece := l.foldl mergeP []
theorem mergedP_snoc (l : List Piece) (s : Piece) : mergedP (l ++ [s]) = mergeP (mergedP l) s := by simp [mergedP]
theorem mergeP_length (acc : List Piece) (s : Piece) : (mergeP acc s).length ≤ acc.length + 1 := by
  unfold mergeP
  rcases List.eq_nil_or_concat acc with rfl | ⟨l0, t, rfl⟩
  · simp
  · rw [List.concat_eq_append, show (l0 ++ [t]).getLast? = some t by simp]
    dsimp only
    split <;> simp
theorem foldl_merge_length : ∀ (l : List Piece) (acc : List Piece), (l.foldl mergeP acc).length ≤ acc.length + l.length
  | [], acc => by simp
  | s :: l, acc => by
    have h1 := foldl_merge_length l (mergeP acc s)
    have h2 := mergeP_length acc s
    simp only [List.foldl_cons, List.length_cons]
    omega
theorem mergedP_length (l : List Piece) : (mergedP l).length ≤ l.length := by
  have := foldl_merge_length l []
  simpa [mergedP] using this
theorem mergeP_spec {acc : List Piece} {s : Piece} (hok : runsOk false (acc.map Piece.run)) (hlast : ∀ t ∈ acc.getLast?, t.1 ≤ s.1) (hs : s.1 < s.2) :
    runsOk false ((mergeP acc s).map Piece.run) ∧ (∀ t ∈ (mergeP acc s).getLast?, t.1 ≤ s.1) ∧ ∀ x, hasP (mergeP acc s) x = (hasP acc x || (decide (s.1 ≤ x) && decide (x < s.2))) := by
  unfold mergeP
  rcases List.eq_nil_or_concat acc with rfl | ⟨l0, t, rfl⟩
  · refine ⟨⟨hs, by simp [Piece.run], by simp, trivial⟩, by simp, fun x => by simp [hasP]⟩
  · rw [List.concat_eq_append] at hok hlast ⊢
    rw [show (l0 ++ [t]).getLast? = some t by simp] at hlast ⊢
    dsimp only
    have ht := hlast t rfl
    rw [List.map_append, List.map_cons, List.map_nil] at hok
    have hk := runsOk_snoc.1 hok
    have hx := fun x => runsAt_snoc hok x
    have e1 : (l0 ++ [t]).map Piece.run = l0.map Piece.run ++ [t.run] := by simp
    by_cases h : s.1 ≤ t.2
    · rw [if_pos h, List.dropLast_concat]
      have h2 : t.2 ≤ mx t.2 s.2 ∧ s.2 ≤ mx t.2 s.2 ∧ (mx t.2 s.2 = t.2 ∨ mx t.2 s.2 = s.2) := by unfold mx; split <;> omega
      have hk1 : t.1 < t.2 := hk.2.1
      have hn : runsOk false ((l0 ++ [(t.1, mx t.2 s.2)]).map Piece.run) := by
        rw [List.map_append, List.map_cons, List.map_nil]
        refine runsOk_snoc.2 ⟨hk.1, ?_, by simp [Piece.run], fun q hq => ?_⟩
        · show t.1 < mx t.2 s.2
          omega
        · have := hk.2.2.2 q hq
          exact this
      refine ⟨hn, by simp [ht], fun x => ?_⟩
      rw [← runsAt_pieces, ← runsAt_pieces, e1, hx x]
      rw [List.map_append, List.map_cons, List.map_nil] at hn ⊢
      rw [runsAt_snoc hn]
      show (if t.1 ≤ x ∧ x < mx t.2 s.2 then true else runsAt false (l0.map Piece.run) x) = ((if t.1 ≤ x ∧ x < t.2 then true else runsAt false (l0.map Piece.run) x) || (decide (s.1 ≤ x) && decide (x < s.2)))
      by_cases c1 : t.1 ≤ x ∧ x < t.2
      · rw [if_pos c1, if_pos (by omega)]; rfl
      · rw [if_neg c1]
        by_cases c2 : s.1 ≤ x ∧ x < s.2
        · rw [if_pos (by omega)]; simp [c2.1, c2.2]
        · rw [if_neg (by omega)]
          have : (decide (s.1 ≤ x) && decide (x < s.2)) = false := by
            rw [Bool.eq_false_iff]
            intro e
            simp only [Bool.and_eq_true, decide_eq_true_eq] at e
            exact c2 e
          rw [this, Bool.or_false]
    · rw [if_neg h]
      have hn : runsOk false ((l0 ++ [t] ++ [s]).map Piece.run) := by
        rw [List.map_append, List.map_cons, List.map_nil, e1]
        refine runsOk_snoc.2 ⟨hok, hs, by simp [Piece.run], fun q hq => ?_⟩
        rw [show (l0.map Piece.run ++ [t.run]).getLast? = some t.run by simp] at hq
        injection hq with hq
        subst hq
        have hlt : t.2 < s.1 := by omega
        exact ⟨Int.le_of_lt hlt, fun e => absurd (show t.2 = s.1 from e) (by omega)⟩
      refine ⟨hn, by simp, fun x => ?_⟩
      rw [← runsAt_pieces, ← runsAt_pieces]
      rw [List.map_append, List.map_cons, List.map_nil] at hn ⊢
      rw [runsAt_snoc hn]
      show (if s.1 ≤ x ∧ x < s.2 then true else _) = _
      by_cases c2 : s.1 ≤ x ∧ x < s.2
      · rw [if_pos c2]; simp [c2.1, c2.2]
      · rw [if_neg c2]
        have : (decide (s.1 ≤ x) && decide (x < s.2)) = false := by
          rw [Bool.eq_false_iff]
          intro e
          simp only [Bool.and_eq_true, decide_eq_true_eq] at e
          exact c2 e
        rw [this, Bool.or_false]
theorem hasP_snoc (l : List Piece) (s : Piece) (x : Int) : hasP (l ++ [s]) x = (hasP l x || (decide (s.1 ≤ x) && decide (x < s.2))) := by simp [hasP]
theorem mergedP_spec : ∀ (n : Nat) (l : List Piece), l.length = n → l.Pairwise (fun p q => p.1 ≤ q.1) → (∀ p ∈ l, p.1 < p.2) →
    runsOk false ((mergedP l).map Piece.run) ∧ (∀ t ∈ (mergedP l).getLast?, ∃ q ∈ l, t.1 ≤ q.1) ∧ ∀ x, hasP (mergedP l) x = hasP l x := by
  intro n
  induction n with
  | zero =>
    intro l hl _ _
    have : l = [] := List.eq_nil_of_length_eq_zero hl
    subst this
    exact ⟨trivial, by simp [mergedP], fun x => rfl⟩
  | succ n ih =>
    intro l hl hs hp
    rcases List.eq_nil_or_concat l with rfl | ⟨l0, s, rfl⟩
    · simp at hl
    · rw [List.concat_eq_append] at hl hs hp ⊢
      have hs' := List.pairwise_append.1 hs
      obtain ⟨i1, i2, i3⟩ := ih l0 (by simp at hl; omega) hs'.1 (fun p h => hp p (by simp [h]))
      have hle : ∀ t ∈ (mergedP l0).getLast?, t.1 ≤ s.1 := fun t ht => by
        obtain ⟨q, hq, h⟩ := i2 t ht
        have := hs'.2.2 q hq s (by simp)
        omega
      obtain ⟨m1, m2, m3⟩ := mergeP_spec i1 hle (hp s (by simp))
      rw [mergedP_snoc]
      refine ⟨m1, fun t ht => ⟨s, by simp, m2 t ht⟩, fun x => ?_⟩
      rw [m3 x, i3 x, hasP_snoc]
theorem hasP_perm {l l' : List Piece} (h : l.Perm l') (x : Int) : hasP l x = hasP l' x := by
  rw [Bool.eq_iff_iff, hasP_iff, hasP_iff]
  exact ⟨fun ⟨p, hp, h1⟩ => ⟨p, h.mem_iff.1 hp, h1⟩, fun ⟨p, hp, h1⟩ => ⟨p, h.mem_iff.2 hp, h1⟩⟩

/-- The rectangles of a list that a row of pixels crosses, as pieces. -/
def crossP (y : Int) (r : Rect) : Bool := !r.empty && (decide (r.y ≤ y) && decide (y < r.y + r.h))
def pieceOf (r : Rect) : Piece := (r.x, r.x + r.w)
def rawP (l : List Rect) (y : Int) : List Piece := (l.filter (crossP y)).map pieceOf
theorem rawP_snoc (l : List Rect) (r : Rect) (y : Int) : rawP (l ++ [r]) y = if crossP y r then rawP l y ++ [pieceOf r] else rawP l y := by
  unfold rawP
  rw [List.filter_append, List.map_append]
  cases h : crossP y r <;> simp [h]
theorem rawP_length (l : List Rect) (y : Int) : (rawP l y).length ≤ l.length := by
  unfold rawP
  rw [List.length_map]
  exact List.length_filter_le _ _
theorem rawP_bd {l : List Rect} {y : Int} {p : Piece} (h : p ∈ rawP l y) : -1048576 ≤ p.1 ∧ p.1 < p.2 ∧ p.2 ≤ 1048576 := by
  unfold rawP at h
  obtain ⟨r, hr, rfl⟩ := List.mem_map.1 h
  have h1 := (List.mem_filter.1 hr).2
  simp only [crossP, Bool.and_eq_true, Bool.not_eq_true', decide_eq_true_eq] at h1
  have := Rect.empty_iff.1 h1.1
  unfold pieceOf
  dsimp only
  omega
theorem hasP_raw (l : List Rect) (x y : Int) : hasP (rawP l y) x = hasL l x y := by
  rw [Bool.eq_iff_iff, hasP_iff, hasL_iff]
  unfold rawP
  constructor
  · rintro ⟨p, hp, h1, h2⟩
    obtain ⟨r, hr, rfl⟩ := List.mem_map.1 hp
    obtain ⟨hm, hc⟩ := List.mem_filter.1 hr
    simp only [crossP, Bool.and_eq_true, Bool.not_eq_true', decide_eq_true_eq] at hc
    exact ⟨r, hm, hc.1, h1, h2, hc.2.1, hc.2.2⟩
  · rintro ⟨r, hr, he, h1, h2, h3, h4⟩
    exact ⟨_, List.mem_map.2 ⟨r, List.mem_filter.2 ⟨hr, by simp [crossP, he, h3, h4]⟩, rfl⟩, h1, h2⟩
/-- The pieces of a list in a row of pixels. -/
def piecesOf (how : Int) (a b : List Rect) (y : Int) : List Piece := (spansOf how a b y).map Run.piece
theorem spansOf_true {how : Int} {a b : List Rect} {y : Int} : ∀ r ∈ spansOf how a b y, r.v = true := fun r hr => by
  have := (runsOk_pos (spansOf_spec how a b y).1 r hr).2
  simpa using this
theorem piecesOf_runs (how : Int) (a b : List Rect) (y : Int) : (piecesOf how a b y).map Piece.run = spansOf how a b y := runs_pieces spansOf_true
theorem hasP_pieces (how : Int) (a b : List Rect) (x y : Int) : hasP (piecesOf how a b y) x = rowF how a b y x := by
  rw [← runsAt_pieces, piecesOf_runs, (spansOf_spec how a b y).2 x]
/-- Pieces in form that have what is meant are those. -/
theorem pieces_eq {l : List Piece} {how : Int} {a b : List Rect} {y : Int} (h : runsOk false (l.map Piece.run)) (he : ∀ x, hasP l x = rowF how a b y x) : l = piecesOf how a b y := by
  have h1 : l.map Piece.run = spansOf how a b y := runs_unique h (spansOf_spec how a b y).1 fun x => by rw [runsAt_pieces, he x, (spansOf_spec how a b y).2 x]
  unfold piecesOf
  rw [← h1, pieces_runs]
theorem meant0 (p : Bool) : meant 0 p false = p := by simp [meant]
/-- The row of a list: its raw pieces sorted and merged, in whatever order the sort lays equal ones. -/
theorem row_merged {l : List Rect} {y : Int} {s : List Piece} (hp : s.Perm (rawP l y)) (hs : s.Pairwise (fun p q => p.1 ≤ q.1)) : mergedP s = piecesOf 0 l [] y := by
  obtain ⟨h1, _, h3⟩ := mergedP_spec s.length s rfl hs (fun p h => (rawP_bd (hp.mem_iff.1 h)).2.1)
  refine pieces_eq h1 fun x => ?_
  rw [h3 x, hasP_perm hp, hasP_raw]
  unfold rowF
  rw [show hasL [] x y = false from rfl, meant0]
theorem piecesOf_bd {how : Int} {a b : List Rect} {y : Int} {p : Piece} (h : p ∈ piecesOf how a b y) : -1048576 ≤ p.1 ∧ p.1 < p.2 ∧ p.2 ≤ 1048576 := by
  unfold piecesOf at h
  obtain ⟨r, hr, rfl⟩ := List.mem_map.1 h
  have h1 := (runsOk_pos (spansOf_spec how a b y).1 r hr).1
  obtain ⟨g1, g2, _⟩ := cellsAll_mem hr
  exact ⟨(cuts_bd g1).1, h1, (cuts_bd g2).2⟩

/-! ### Two rows mixed -/
/-- The ends of pieces. -/
def endsP (l : List Piece) : List Int := l.flatMap fun p => [p.1, p.2]
theorem endsP_snoc (l : List Piece) (p : Piece) : endsP (l ++ [p]) = endsP l ++ [p.1, p.2] := by simp [endsP]
theorem endsP_length (l : List Piece) : (endsP l).length = l.length * 2 := by
  induction l with
  | nil => rfl
  | cons p l ih => simp [endsP] at ih ⊢; omega
theorem endsP_mem {l : List Piece} {z : Int} : z ∈ endsP l ↔ ∃ p ∈ l, z = p.1 ∨ z = p.2 := by
  unfold endsP
  rw [List.mem_flatMap]
  simp
/-- The first i cells of a grid in which a cut may stand twice. -/
def mixOf (F : Int → Bool) (xs : List Int) : Nat → List Piece
  | 0 => []
  | i + 1 => if xs.getD (i + 1) 0 = xs.getD i 0 ∨ F (xs.getD i 0) = false then mixOf F xs i else
    match (mixOf F xs i).getLast? with
    | none => mixOf F xs i ++ [(xs.getD i 0, xs.getD (i + 1) 0)]
    | some t => if t.2 = xs.getD i 0 then (mixOf F xs i).dropLast ++ [(t.1, xs.getD (i + 1) 0)] else mixOf F xs i ++ [(xs.getD i 0, xs.getD (i + 1) 0)]
theorem mixOf_length (F : Int → Bool) (xs : List Int) : ∀ i, (mixOf F xs i).length ≤ i
  | 0 => by simp [mixOf]
  | i + 1 => by
    have := mixOf_length F xs i
    unfold mixOf
    split
    · omega
    · rcases List.eq_nil_or_concat (mixOf F xs i) with h | ⟨l0, t, h⟩
      · rw [h]; simp
      · rw [h, List.concat_eq_append] at this ⊢
        rw [show (l0 ++ [t]).getLast? = some t by simp]
        dsimp only
        split <;> simp at this ⊢ <;> omega
theorem mixOf_push (F : Int → Bool) (xs : List Int) (i : Nat) (hne : xs.getD (i + 1) 0 ≠ xs.getD i 0) :
    (mixOf F xs (i + 1)).map Piece.run = runsPush false ((mixOf F xs i).map Piece.run) (xs.getD i 0) (xs.getD (i + 1) 0) (F (xs.getD i 0)) := by
  unfold runsPush
  rw [mixOf]
  by_cases hF : F (xs.getD i 0) = false
  · rw [if_pos (.inr hF), if_pos hF]
  · have hT : F (xs.getD i 0) = true := by simpa using hF
    rw [if_neg (by intro h; rcases h with h | h <;> contradiction), if_neg hF, hT]
    rcases List.eq_nil_or_concat (mixOf F xs i) with h | ⟨l0, t, h⟩
    · rw [h]; rfl
    · rw [h, List.concat_eq_append, show (l0 ++ [t]).getLast? = some t by simp, show ((l0 ++ [t]).map Piece.run).getLast? = some t.run by simp]
      dsimp only
      by_cases hm : t.2 = xs.getD i 0
      · rw [if_pos hm, if_pos ⟨hm, rfl⟩, List.dropLast_concat, List.map_append, List.map_append]
        simp [Piece.run]
      · rw [if_neg hm, if_neg (fun e => hm e.1)]
        simp [Piece.run]
theorem getD_le_of_weak {xs : List Int} (h : xs.Pairwise (· ≤ ·)) {i j : Nat} (hij : i ≤ j) (hj : j < xs.length) : xs.getD i 0 ≤ xs.getD j 0 := by
  rcases Nat.lt_or_eq_of_le hij with hlt | rfl
  · rw [List.getD_eq_getElem?_getD, List.getD_eq_getElem?_getD, List.getElem?_eq_getElem (by omega), List.getElem?_eq_getElem hj]
    exact List.pairwise_iff_getElem.1 h i j (by omega) hj hlt
  · exact Int.le_refl _
theorem getD_mem {xs : List Int} {i : Nat} (hi : i < xs.length) : xs.getD i 0 ∈ xs := by
  rw [List.getD_eq_getElem?_getD, List.getElem?_eq_getElem hi]
  exact List.getElem_mem hi
theorem mem_getD {xs : List Int} {u : Int} (hu : u ∈ xs) : ∃ i, i < xs.length ∧ xs.getD i 0 = u := by
  obtain ⟨i, hi, rfl⟩ := List.getElem_of_mem hu
  exact ⟨i, hi, by rw [List.getD_eq_getElem?_getD, List.getElem?_eq_getElem hi]; rfl⟩
theorem mixOf_spec {F : Int → Bool} {xs : List Int} (h : xs.Pairwise (· ≤ ·)) (hF : ∀ i, i + 1 < xs.length → ∀ z, xs.getD i 0 ≤ z → z < xs.getD (i + 1) 0 → F z = F (xs.getD i 0)) :
    ∀ i, i < xs.length → runsOk false ((mixOf F xs i).map Piece.run) ∧ runsTo ((mixOf F xs i).map Piece.run) (xs.getD i 0) ∧ ∀ z, runsAt false ((mixOf F xs i).map Piece.run) z = if xs.getD 0 0 ≤ z ∧ z < xs.getD i 0 then F z else false
  | 0, _ => ⟨trivial, fun s hs => by simp [mixOf] at hs, fun z => by rw [if_neg (by omega)]; rfl⟩
  | i + 1, hi => by
    obtain ⟨h1, h2, h3⟩ := mixOf_spec h hF i (by omega)
    have hle := getD_le_of_weak h (Nat.le_succ i) hi
    have h0 := getD_le_of_weak h (Nat.zero_le i) (by omega)
    by_cases he : xs.getD (i + 1) 0 = xs.getD i 0
    · have e1 : mixOf F xs (i + 1) = mixOf F xs i := by rw [mixOf, if_pos (.inl he)]
      rw [e1, he]
      exact ⟨h1, h2, h3⟩
    · rw [mixOf_push F xs i he]
      have hlt : xs.getD i 0 < xs.getD (i + 1) 0 := by
        rcases Int.lt_or_eq_of_le hle with h | h
        · exact h
        · exact absurd h.symm he
      obtain ⟨p1, p2, p3⟩ := runsPush_ok (v := F (xs.getD i 0)) h1 h2 hlt
      refine ⟨p1, p2, fun z => ?_⟩
      rw [p3 z]
      by_cases hc : xs.getD i 0 ≤ z ∧ z < xs.getD (i + 1) 0
      · have hr : (if xs.getD 0 0 ≤ z ∧ z < xs.getD (i + 1) 0 then F z else false) = F z := if_pos (by omega)
        rw [if_pos hc, hr, hF i hi z hc.1 hc.2]
        by_cases hv : F (xs.getD i 0) = false
        · rw [if_pos hv, h3 z, if_neg (by omega), hv]
        · rw [if_neg hv]
      · rw [if_neg hc, h3 z]
        by_cases h4 : xs.getD 0 0 ≤ z ∧ z < xs.getD i 0
        · rw [if_pos h4, if_pos (by omega)]
        · rw [if_neg h4, if_neg (by omega)]
theorem hasP_const {l : List Piece} {u z : Int} (huz : u ≤ z) (hn : ∀ v ∈ endsP l, ¬ (u < v ∧ v ≤ z)) : hasP l z = hasP l u := by
  rw [Bool.eq_iff_iff, hasP_iff, hasP_iff]
  constructor
  · rintro ⟨p, hp, h1, h2⟩
    have := hn p.1 (endsP_mem.2 ⟨p, hp, .inl rfl⟩)
    have := hn p.2 (endsP_mem.2 ⟨p, hp, .inr rfl⟩)
    exact ⟨p, hp, by omega, by omega⟩
  · rintro ⟨p, hp, h1, h2⟩
    have := hn p.1 (endsP_mem.2 ⟨p, hp, .inl rfl⟩)
    have := hn p.2 (endsP_mem.2 ⟨p, hp, .inr rfl⟩)
    exact ⟨p, hp, by omega, by omega⟩
/-- What is meant of two rows of pieces. -/
def mixF (how : Int) (a b : List Piece) (z : Int) : Bool := meant how (hasP a z) (hasP b z)
/-- Two rows mixed: what the grid of their sorted ends tells is the row that is meant. -/
theorem mix_pieces {how : Int} {a b : List Rect} {y : Int} {xs : List Int} (hp : xs.Perm (endsP (piecesOf 0 a [] y) ++ endsP (piecesOf 0 b [] y))) (hs : xs.Pairwise (· ≤ ·)) :
    mixOf (mixF how (piecesOf 0 a [] y) (piecesOf 0 b [] y)) xs (xs.length - 1) = piecesOf how a b y := by
  generalize hA : piecesOf 0 a [] y = A at *
  generalize hB : piecesOf 0 b [] y = B at *
  have hA2 : ∀ x, hasP A x = hasL a x y := fun x => by rw [← hA, hasP_pieces]; unfold rowF; rw [show hasL [] x y = false from rfl, meant0]
  have hB2 : ∀ x, hasP B x = hasL b x y := fun x => by rw [← hB, hasP_pieces]; unfold rowF; rw [show hasL [] x y = false from rfl, meant0]
  have hF : ∀ z, mixF how A B z = rowF how a b y z := fun z => by unfold mixF rowF; rw [hA2, hB2]
  have hmA : ∀ v ∈ endsP A, v ∈ xs := fun v hv => hp.mem_iff.2 (List.mem_append.2 (.inl hv))
  have hmB : ∀ v ∈ endsP B, v ∈ xs := fun v hv => hp.mem_iff.2 (List.mem_append.2 (.inr hv))
  have hcell : ∀ i, i + 1 < xs.length → ∀ z, xs.getD i 0 ≤ z → z < xs.getD (i + 1) 0 → mixF how A B z = mixF how A B (xs.getD i 0) := fun i hi z h1 h2 => by
    have hno : ∀ v ∈ xs, ¬ (xs.getD i 0 < v ∧ v ≤ z) := fun v hv hh => by
      obtain ⟨j, hj, rfl⟩ := mem_getD hv
      rcases Nat.lt_or_ge i j with hlt | hge
      · have := getD_le_of_weak hs (show i + 1 ≤ j from hlt) hj
        omega
      · have := getD_le_of_weak hs hge (by omega)
        omega
    unfold mixF
    rw [hasP_const h1 (fun v hv => hno v (hmA v hv)), hasP_const h1 (fun v hv => hno v (hmB v hv))]
  rcases Nat.eq_zero_or_pos xs.length with h0 | hpos
  · have hx : xs = [] := List.eq_nil_of_length_eq_zero h0
    subst hx
    refine pieces_eq (by exact trivial) fun x => ?_
    rw [← hF]
    have hz : ∀ l : List Piece, (∀ v ∈ endsP l, v ∈ ([] : List Int)) → l = [] := fun l h => by
      rcases l with _ | ⟨p, l⟩
      · rfl
      · exact absurd (h p.1 (endsP_mem.2 ⟨p, by simp, .inl rfl⟩)) (by simp)
    rw [hz A hmA, hz B hmB]
    show false = meant how false false
    rw [meant_none]
  · obtain ⟨s1, _, s3⟩ := mixOf_spec hs hcell (xs.length - 1) (by omega)
    refine pieces_eq s1 fun x => ?_
    rw [← runsAt_pieces, s3 x, ← hF x]
    split
    · rfl
    · rename_i hno
      unfold mixF
      have hz : ∀ l : List Piece, (∀ v ∈ endsP l, v ∈ xs) → hasP l x = false := fun l h => by
        rw [Bool.eq_false_iff]
        intro e
        obtain ⟨p, hp, h1, h2⟩ := hasP_iff.1 e
        obtain ⟨i, hi, e1⟩ := mem_getD (h p.1 (endsP_mem.2 ⟨p, hp, .inl rfl⟩))
        obtain ⟨j, hj, e2⟩ := mem_getD (h p.2 (endsP_mem.2 ⟨p, hp, .inr rfl⟩))
        have := getD_le_of_weak hs (Nat.zero_le i) hi
        have := getD_le_of_weak hs (show j ≤ xs.length - 1 by omega) (by omega)
        omega
      rw [hz A hmA, hz B hmB, meant_none]
end Go.Proofs.Ytjghghbldifhaaa
/- The rounds of region.of, one behind the other. No program in sight. -/
namespace Go.Proofs.Ytjghghbldifhaaa

/-- The last n rectangles of a list, by some more down. -/
def stretch (O : List Rect) (n : Nat) (dh : Int) : List Rect := O.take (O.length - n) ++ (O.drop (O.length - n)).map fun r => ⟨r.x, r.y, r.w, r.h + dh⟩
theorem stretch_append {L M : List Rect} {n : Nat} {dh : Int} (h : M.length = n) : stretch (L ++ M) n dh = L ++ M.map fun r => ⟨r.x, r.y, r.w, r.h + dh⟩ := by
  unfold stretch
  have e : (L ++ M).length - n = L.length := by rw [List.length_append]; omega
  rw [e, List.take_left, List.drop_left]
section
variable {α : Type} [DecidableEq α] {d : α}
/-- What the last cell left, where it is none of the default. -/
theorem cellsOf_last {val : Int → α} {xs : List Int} {i : Nat} (hv : val (xs.getD i 0) ≠ d) : ∃ l r, cellsOf d val xs (i + 1) = l ++ [r] ∧ r.b = xs.getD (i + 1) 0 ∧ r.v = val (xs.getD i 0) := by
  show ∃ l r, runsPush d (cellsOf d val xs i) _ _ _ = l ++ [r] ∧ _
  unfold runsPush
  rw [if_neg hv]
  rcases List.eq_nil_or_concat (cellsOf d val xs i) with h | ⟨l0, t, h⟩
  · rw [h]; exact ⟨[], _, rfl, rfl, rfl⟩
  · rw [h, List.concat_eq_append, show (l0 ++ [t]).getLast? = some t by simp]
    dsimp only
    by_cases hm : t.b = xs.getD i 0 ∧ t.v = val (xs.getD i 0)
    · rw [if_pos hm, List.dropLast_concat]; exact ⟨l0, _, rfl, rfl, hm.2⟩
    · rw [if_neg hm]; exact ⟨l0 ++ [t], _, rfl, rfl, rfl⟩
end
/-- The band that was laid last: its pieces (none: the last row was empty). -/
def lastP (how : Int) (a b : List Rect) (ys : List Int) (i : Nat) : List Piece := if i = 0 then [] else piecesOf how a b (ys.getD (i - 1) 0)
/-- The rectangles of the first i bands. -/
def flatTo (how : Int) (a b : List Rect) (ys : List Int) (i : Nat) : List Rect := flat (cellsOf [] (spansOf how a b) ys i)
def pieceRect (y0 y1 : Int) (p : Piece) : Rect := ⟨p.1, y0, p.2 - p.1, y1 - y0⟩
theorem bandRects_pieces {y0 y1 : Int} {how : Int} {a b : List Rect} {y : Int} : bandRects ⟨y0, y1, spansOf how a b y⟩ = (piecesOf how a b y).map (pieceRect y0 y1) := by
  unfold bandRects piecesOf
  rw [List.map_map]
  rfl
theorem flat_append (V W : List (Run (List (Run Bool)))) : flat (V ++ W) = flat V ++ flat W := by simp [flat]
theorem flat_one (r : Run (List (Run Bool))) : flat [r] = bandRects r := by simp [flat]
theorem pieces_inj {how : Int} {a b : List Rect} {y z : Int} (h : piecesOf how a b y = piecesOf how a b z) : spansOf how a b y = spansOf how a b z := by
  rw [← piecesOf_runs, ← piecesOf_runs, h]
theorem pieces_nil {how : Int} {a b : List Rect} {y : Int} : piecesOf how a b y = [] ↔ spansOf how a b y = [] := by
  unfold piecesOf
  rw [List.map_eq_nil_iff]
/-- The same pieces again: the last band is stretched. -/
theorem flatTo_same {how : Int} {a b : List Rect} {ys : List Int} {i : Nat} (hne : piecesOf how a b (ys.getD i 0) ≠ []) (hs : piecesOf how a b (ys.getD i 0) = lastP how a b ys i) :
    flatTo how a b ys (i + 1) = stretch (flatTo how a b ys i) (piecesOf how a b (ys.getD i 0)).length (ys.getD (i + 1) 0 - ys.getD i 0) ∧ (piecesOf how a b (ys.getD i 0)).length ≤ (flatTo how a b ys i).length := by
  rcases i with _ | i
  · exact absurd hs hne
  · have hs' : piecesOf how a b (ys.getD (i + 1) 0) = piecesOf how a b (ys.getD i 0) := hs
    have hsp := pieces_inj hs'
    have hv : spansOf how a b (ys.getD i 0) ≠ [] := fun e => hne (by rw [hs', pieces_nil]; exact e)
    obtain ⟨l, r, h1, h2, h3⟩ := cellsOf_last (d := ([] : List (Run Bool))) (val := spansOf how a b) (xs := ys) (i := i) hv
    have hstep : cellsOf [] (spansOf how a b) ys (i + 1 + 1) = l ++ [⟨r.a, ys.getD (i + 1 + 1) 0, r.v⟩] := by
      show runsPush _ (cellsOf [] (spansOf how a b) ys (i + 1)) _ _ _ = _
      unfold runsPush
      rw [if_neg (by rw [hsp]; exact hv), h1, show (l ++ [r]).getLast? = some r by simp]
      dsimp only
      rw [if_pos ⟨h2, by rw [h3, hsp]⟩, List.dropLast_concat]
    have hlen : (bandRects r).length = (piecesOf how a b (ys.getD (i + 1) 0)).length := by
      unfold bandRects piecesOf
      rw [List.length_map, List.length_map, h3, hsp]
    unfold flatTo
    rw [hstep, h1, flat_append, flat_append, flat_one, flat_one]
    constructor
    · rw [stretch_append hlen]
      congr 1
      unfold bandRects
      rw [List.map_map]
      refine List.map_congr_left fun s _ => ?_
      simp only [Function.comp]
      congr 1
      omega
    · rw [List.length_append, hlen]; omega
/-- Other pieces: they are laid behind. -/
theorem flatTo_new {how : Int} {a b : List Rect} {ys : List Int} {i : Nat} (hsrt : ys.Pairwise (· < ·)) (hi : i + 1 < ys.length) (hs : piecesOf how a b (ys.getD i 0) = [] ∨ piecesOf how a b (ys.getD i 0) ≠ lastP how a b ys i) :
    flatTo how a b ys (i + 1) = flatTo how a b ys i ++ (piecesOf how a b (ys.getD i 0)).map (pieceRect (ys.getD i 0) (ys.getD (i + 1) 0)) := by
  by_cases hn : piecesOf how a b (ys.getD i 0) = []
  · have hsp := pieces_nil.1 hn
    unfold flatTo
    rw [hn, List.map_nil, List.append_nil]
    show flat (runsPush _ _ _ _ _) = _
    unfold runsPush
    rw [if_pos hsp]
  · have hs' := hs.resolve_left hn
    have hsp : spansOf how a b (ys.getD i 0) ≠ [] := fun e => hn (pieces_nil.2 e)
    have hstep : cellsOf [] (spansOf how a b) ys (i + 1) = cellsOf [] (spansOf how a b) ys i ++ [⟨ys.getD i 0, ys.getD (i + 1) 0, spansOf how a b (ys.getD i 0)⟩] := by
      show runsPush _ (cellsOf [] (spansOf how a b) ys i) _ _ _ = _
      unfold runsPush
      rw [if_neg hsp]
      rcases List.eq_nil_or_concat (cellsOf [] (spansOf how a b) ys i) with h | ⟨l0, t, h⟩
      · rw [h]; rfl
      · rw [h, List.concat_eq_append, show (l0 ++ [t]).getLast? = some t by simp]
        dsimp only
        rw [if_neg]
        rintro ⟨h1, h2⟩
        rcases i with _ | i
        · simp [cellsOf] at h
        · rw [List.concat_eq_append] at h
          by_cases hv : spansOf how a b (ys.getD i 0) = []
          · -- the last run ends ahead of this cut
            have hskip : cellsOf [] (spansOf how a b) ys (i + 1) = cellsOf [] (spansOf how a b) ys i := by
              show runsPush _ _ _ _ _ = _
              unfold runsPush
              rw [if_pos hv]
            have hto : ∀ i, i < ys.length → ∀ r ∈ cellsOf [] (spansOf how a b) ys i, r.b ≤ ys.getD i 0 := by
              intro i
              induction i with
              | zero => intro _ r hr; simp [cellsOf] at hr
              | succ i ih =>
                intro hi r hr
                have hlt : ys.getD i 0 < ys.getD (i + 1) 0 := getD_lt_of_sorted hsrt (Nat.lt_succ_self i) hi
                rcases runsPush_mem hr with hr | ⟨_, _, h3, _⟩
                · have := ih (by omega) r hr; omega
                · omega
            have h3 := hto i (by omega) t (by rw [← hskip, h]; simp)
            have hlt : ys.getD i 0 < ys.getD (i + 1) 0 := getD_lt_of_sorted hsrt (Nat.lt_succ_self i) (by omega)
            omega
          · obtain ⟨l, r, e1, e2, e3⟩ := cellsOf_last (d := ([] : List (Run Bool))) (val := spansOf how a b) (xs := ys) (i := i) hv
            rw [h] at e1
            have : t = r := by
              have := congrArg List.getLast? e1
              simpa using this
            subst this
            refine hs' ?_
            show _ = piecesOf how a b (ys.getD i 0)
            unfold piecesOf
            rw [← h2, e3]
    unfold flatTo
    rw [hstep, flat_append, flat_one, bandRects_pieces]
theorem flatTo_all (how : Int) (a b : List Rect) : flatTo how a b (cutsOf true a b) ((cutsOf true a b).length - 1) = listOf how a b := rfl
end Go.Proofs.Ytjghghbldifhaaa
namespace Go.Proofs.Ytjghghbldifhaaa

/-- What a round leaves: the list, the pieces of the last band, where it ends. -/
structure OfSt where
  O : List Rect
  last : List Piece
  E : Int
def ofStart : OfSt := ⟨[], [], 0⟩
/-- Is the last band stretched? -/
def ofSame (how : Int) (a b : List Rect) (y0 : Int) (st : OfSt) : Prop := piecesOf how a b y0 ≠ [] ∧ st.last ≠ [] ∧ st.E = y0 ∧ piecesOf how a b y0 = st.last
instance (how : Int) (a b : List Rect) (y0 : Int) (st : OfSt) : Decidable (ofSame how a b y0 st) := inferInstanceAs (Decidable (_ ∧ _ ∧ _ ∧ _))
def ofStep (how : Int) (a b : List Rect) (ys : List Int) (st : OfSt) (i : Nat) : OfSt :=
  if ofSame how a b (ys.getD i 0) st then ⟨stretch st.O (piecesOf how a b (ys.getD i 0)).length (ys.getD (i + 1) 0 - ys.getD i 0), piecesOf how a b (ys.getD i 0), ys.getD (i + 1) 0⟩
  else ⟨st.O ++ (piecesOf how a b (ys.getD i 0)).map (pieceRect (ys.getD i 0) (ys.getD (i + 1) 0)), piecesOf how a b (ys.getD i 0), ys.getD (i + 1) 0⟩
def ofRounds (how : Int) (a b : List Rect) (ys : List Int) (l : List Nat) : OfSt := l.foldl (ofStep how a b ys) ofStart
theorem ofRounds_snoc (how : Int) (a b : List Rect) (ys : List Int) (l : List Nat) (i : Nat) : ofRounds how a b ys (l ++ [i]) = ofStep how a b ys (ofRounds how a b ys l) i := by simp [ofRounds]
theorem stretch_length {O : List Rect} {n : Nat} {dh : Int} : (stretch O n dh).length = O.length := by
  unfold stretch
  rw [List.length_append, List.length_map, List.length_take, List.length_drop]
  omega
theorem gaps_length : ∀ (l : List Piece) (lo : Int), runsOk false (l.map Piece.run) → (∀ p ∈ l, lo ≤ p.1 ∧ p.2 ≤ 1048576) → 2 * (l.length : Int) ≤ 1048576 - lo + 1 ∨ l = []
  | [], _, _, _ => .inr rfl
  | p :: l, lo, h, hb => by
    have h1 : p.1 < p.2 := h.1
    have hp := hb p (by simp)
    rcases l with _ | ⟨q, l⟩
    · left; simp; omega
    · have hq := h.2.2.1 q.run (by simp)
      have hlt : p.2 < q.1 := by
        rcases Int.lt_or_eq_of_le hq.1 with h | h
        · exact h
        · exact absurd rfl (hq.2 h)
      have hge : ∀ (l : List Piece) (e : Int), runsOk false (l.map Piece.run) → (∀ s ∈ l.head?, e ≤ s.1) → ∀ r ∈ l, e ≤ r.1 := by
        intro l
        induction l with
        | nil => intro e _ _ r hr; cases hr
        | cons s l ih =>
          intro e h hs r hr
          have e1 : e ≤ s.1 := hs s (by simp)
          rcases List.mem_cons.1 hr with rfl | hr
          · exact e1
          · have h5 : s.1 < s.2 := h.1
            have := ih s.2 h.2.2.2 (fun t ht => (h.2.2.1 t.run (by
              rcases l with _ | ⟨u, l⟩
              · cases ht
              · simp at ht; subst ht; simp)).1) r hr
            omega
      have h2 := gaps_length (q :: l) (p.2 + 1) h.2.2.2 (fun r hr => ⟨by
        have := hge (q :: l) (p.2 + 1) h.2.2.2 (fun s hs => by simp at hs; subst hs; omega) r hr
        exact this, (hb r (by simp [hr])).2⟩)
      rcases h2 with h2 | h2
      · left; simp only [List.length_cons] at h2 ⊢; omega
      · cases h2
theorem piecesOf_length2 (how : Int) (a b : List Rect) (y : Int) : (piecesOf how a b y).length ≤ 1048576 := by
  rcases gaps_length (piecesOf how a b y) (-1048576) (by rw [piecesOf_runs]; exact (spansOf_spec how a b y).1) (fun p hp => by have := piecesOf_bd hp; omega) with h | h
  · omega
  · rw [h]; simp
theorem sorted_length : ∀ (l : List Int) (lo hi : Int), l.Pairwise (· < ·) → (∀ z ∈ l, lo ≤ z ∧ z ≤ hi) → (l.length : Int) ≤ hi - lo + 1 ∨ l = []
  | [], _, _, _, _ => .inr rfl
  | a :: l, lo, hi, h, hb => by
    have hp := List.pairwise_cons.1 h
    have ha := hb a (by simp)
    rcases sorted_length l (a + 1) hi hp.2 (fun z hz => ⟨by have := hp.1 z hz; omega, (hb z (by simp [hz])).2⟩) with h2 | h2
    · left; simp only [List.length_cons]; omega
    · left; subst h2; simp; omega
theorem cutsOf_length (a b : List Rect) : (cutsOf true a b).length ≤ 2097153 := by
  rcases sorted_length (cutsOf true a b) (-1048576) 1048576 (cutsOf_sorted _ _ _) (fun z hz => cuts_bd hz) with h | h
  · omega
  · rw [h]; simp

/-- What is known of a round's end, in whatever order the bands come. -/
structure OfInv (st : OfSt) (k : Nat) : Prop where
  le : st.last.length ≤ st.O.length
  ends : ∀ r ∈ st.O.drop (st.O.length - st.last.length), r.y + r.h = st.E ∧ -1048576 ≤ r.y ∧ r.y ≤ 1048576
  bd : -1048576 ≤ st.E ∧ st.E ≤ 1048576
  many : st.O.length ≤ k * 1048576
  last : st.last.length ≤ 1048576
theorem ofInv_start : OfInv ofStart 0 := ⟨Nat.le_refl _, fun r hr => by simp [ofStart] at hr, by simp [ofStart], by simp [ofStart], by simp [ofStart]⟩
theorem ofInv_step {how : Int} {a b : List Rect} {ys : List Int} {st : OfSt} {i k : Nat} (hys : ∀ z ∈ ys, -1048576 ≤ z ∧ z ≤ 1048576) (hi : i + 1 < ys.length) (h : OfInv st k) : OfInv (ofStep how a b ys st i) (k + 1) := by
  have b0 := hys _ (getD_mem (show i < ys.length by omega))
  have b1 := hys _ (getD_mem hi)
  have hl := piecesOf_length2 how a b (ys.getD i 0)
  unfold ofStep
  by_cases hs : ofSame how a b (ys.getD i 0) st
  · rw [if_pos hs]
    obtain ⟨h1, h2, h3, h4⟩ := hs
    have hle := h.le
    refine ⟨?_, ?_, b1, ?_, hl⟩
    · rw [stretch_length, h4]; exact h.le
    · dsimp only
      rw [stretch_length, h4]
      intro r hr
      unfold stretch at hr
      rw [List.drop_append, List.drop_eq_nil_of_le (by rw [List.length_take]; omega), List.nil_append, List.length_take] at hr
      obtain ⟨q, hq, rfl⟩ := List.mem_map.1 (List.mem_of_mem_drop hr)
      have := h.ends q hq
      dsimp only
      omega
    · show (stretch _ _ _).length ≤ _
      rw [stretch_length, Nat.add_mul]
      exact Nat.le_trans h.many (Nat.le_add_right _ _)
  · rw [if_neg hs]
    refine ⟨by simp, ?_, b1, ?_, hl⟩
    · dsimp only
      rw [show (st.O ++ (piecesOf how a b (ys.getD i 0)).map (pieceRect (ys.getD i 0) (ys.getD (i + 1) 0))).length - (piecesOf how a b (ys.getD i 0)).length = st.O.length by simp, List.drop_left]
      intro r hr
      obtain ⟨p, hp, rfl⟩ := List.mem_map.1 hr
      unfold pieceRect
      dsimp only
      omega
    · show (st.O ++ (piecesOf how a b (ys.getD i 0)).map (pieceRect (ys.getD i 0) (ys.getD (i + 1) 0))).length ≤ _
      rw [List.length_append, List.length_map, Nat.add_mul, Nat.one_mul]
      exact Nat.add_le_add h.many hl
theorem ofInv_rounds {how : Int} {a b : List Rect} {ys : List Int} (hys : ∀ z ∈ ys, -1048576 ≤ z ∧ z ≤ 1048576) : ∀ (n : Nat) (l : List Nat), l.length = n → (∀ i ∈ l, i + 1 < ys.length) → OfInv (ofRounds how a b ys l) l.length := by
  intro n
  induction n with
  | zero =>
    intro l hl _
    have : l = [] := List.eq_nil_of_length_eq_zero hl
    subst this
    exact ofInv_start
  | succ n ih =>
    intro l hl hi
    rcases List.eq_nil_or_concat l with rfl | ⟨l0, j, rfl⟩
    · simp at hl
    · rw [List.concat_eq_append] at hl hi ⊢
      rw [ofRounds_snoc, List.length_append]
      exact ofInv_step hys (hi j (by simp)) (ih l0 (by simp at hl; omega) (fun i h => hi i (by simp [h])))
/-- The bands in their order. -/
theorem ofRounds_range {how : Int} {a b : List Rect} {ys : List Int} (hsrt : ys.Pairwise (· < ·)) : ∀ n, n < ys.length ∨ n = 0 → ofRounds how a b ys (List.range n) = ⟨flatTo how a b ys n, lastP how a b ys n, if n = 0 then 0 else ys.getD n 0⟩
  | 0, _ => rfl
  | n + 1, h => by
    have hn : n + 1 < ys.length := by omega
    have ih := ofRounds_range (how := how) (a := a) (b := b) hsrt n (.inl (by omega))
    rw [List.range_succ, ofRounds_snoc, ih]
    have hl : lastP how a b ys (n + 1) = piecesOf how a b (ys.getD n 0) := rfl
    unfold ofStep
    by_cases hs : ofSame how a b (ys.getD n 0) ⟨flatTo how a b ys n, lastP how a b ys n, if n = 0 then 0 else ys.getD n 0⟩
    · rw [if_pos hs]
      obtain ⟨h1, h2, h3, h4⟩ := hs
      rw [(flatTo_same h1 h4).1, hl, if_neg (Nat.succ_ne_zero n)]
    · rw [if_neg hs]
      have hno : piecesOf how a b (ys.getD n 0) = [] ∨ piecesOf how a b (ys.getD n 0) ≠ lastP how a b ys n := by
        by_cases h1 : piecesOf how a b (ys.getD n 0) = []
        · exact .inl h1
        · right
          intro h4
          refine hs ⟨h1, fun e => h1 (h4.trans e), ?_, h4⟩
          dsimp only
          rcases n with _ | n
          · exact absurd h4 h1
          · rw [if_neg (by omega)]
      rw [flatTo_new hsrt hn hno, hl, if_neg (Nat.succ_ne_zero n)]
end Go.Proofs.Ytjghghbldifhaaa
namespace Go.Proofs.Ytjghghbldifhaaa
open Go.RowKit
theorem row_cells {W : World} {base size n : Nat} {e : TypeId} {v : Value} {xs : List Value} (h : W.ownsRow base e size v n xs) : ∀ (j : Nat) (o : Obj), v.ownBlock = some j → W.heap[j]? = some o → o.isCells = true := fun j o hj ho => by
  rcases h.2 with ⟨h3, _⟩ | ⟨g, cap, cur, e1, _, e3, _⟩
  · rw [h3] at hj; simp [Value.ownBlock] at hj
  · rw [e1] at hj
    simp only [Value.ownBlock] at hj
    injection hj with hj
    subst hj
    rw [e3] at ho
    injection ho with ho
    subst ho
    rfl
theorem rcells_seth : ∀ {l : List Rect} {j : Nat} {t : Rect} (v : Int), l[j]? = some t → (rcells l).set (j * 4 + 3) (.int .i64 v) = rcells (l.set j ⟨t.x, t.y, t.w, v⟩)
  | [], j, t, v, h => by simp at h
  | p :: l, 0, t, v, h => by
    simp at h
    subst h
    rfl
  | p :: l, j + 1, t, v, h => by
    have ih := rcells_seth (l := l) (j := j) v (by simpa using h)
    show (rcell p ++ rcells l).set ((j + 1) * 4 + 3) _ = rcell p ++ rcells (l.set j _)
    rw [List.set_append_right _ _ (by simp [rcell]; omega), show (j + 1) * 4 + 3 - (rcell p).length = j * 4 + 3 by simp [rcell]; omega, ih]
theorem rcells_snoc (l : List Rect) (r : Rect) : rcells (l ++ [r]) = rcells l ++ rcell r := by simp [rcells]
/-- The last rectangles, the first k of them stretched. -/
def stretchTo (O : List Rect) (q k : Nat) (dh : Int) : List Rect := O.take q ++ (((O.drop q).take k).map fun r => ⟨r.x, r.y, r.w, r.h + dh⟩) ++ (O.drop q).drop k
theorem stretchTo_length (O : List Rect) (q k : Nat) (dh : Int) : (stretchTo O q k dh).length = O.length := by
  unfold stretchTo
  simp only [List.length_append, List.length_map, List.length_take, List.length_drop]
  omega
theorem stretchTo_zero (O : List Rect) (q : Nat) (dh : Int) : stretchTo O q 0 dh = O := by simp [stretchTo]
theorem stretchTo_all (O : List Rect) (n : Nat) (dh : Int) (h : n ≤ O.length) : stretchTo O (O.length - n) n dh = stretch O n dh := by
  unfold stretchTo stretch
  rw [show (O.drop (O.length - n)).take n = O.drop (O.length - n) from List.take_of_length_le (by rw [List.length_drop]; omega), show (O.drop (O.length - n)).drop n = [] from List.drop_eq_nil_of_le (by rw [List.length_drop]; omega), List.append_nil]
theorem stretchTo_at {O : List Rect} {q k : Nat} {dh : Int} {r : Rect} (h : O[q + k]? = some r) : (stretchTo O q k dh)[q + k]? = some r := by
  have hl : q + k < O.length := (List.getElem?_eq_some_iff.1 h).1
  unfold stretchTo
  rw [List.getElem?_append_right (by simp; omega)]
  have e : q + k - (O.take q ++ ((O.drop q).take k).map fun r => (⟨r.x, r.y, r.w, r.h + dh⟩ : Rect)).length = 0 := by simp; omega
  rw [e, List.getElem?_drop, List.getElem?_drop, Nat.add_zero]
  exact h
theorem stretchTo_succ {O : List Rect} {q k : Nat} {dh : Int} {r : Rect} (h : O[q + k]? = some r) : (stretchTo O q k dh).set (q + k) ⟨r.x, r.y, r.w, r.h + dh⟩ = stretchTo O q (k + 1) dh := by
  have hl : q + k < O.length := (List.getElem?_eq_some_iff.1 h).1
  have h2 : (O.drop q)[k]? = some r := by rw [List.getElem?_drop]; exact h
  have hk : k < (O.drop q).length := (List.getElem?_eq_some_iff.1 h2).1
  have hd : (O.drop q).drop k = r :: (O.drop q).drop (k + 1) := by
    rw [List.drop_eq_getElem_cons hk]
    congr 1
    exact (List.getElem?_eq_some_iff.1 h2).2
  unfold stretchTo
  rw [hd, List.take_add_one, h2, List.set_append_right _ _ (by simp; omega)]
  have e : q + k - (O.take q ++ ((O.drop q).take k).map fun r => (⟨r.x, r.y, r.w, r.h + dh⟩ : Rect)).length = 0 := by simp; omega
  rw [e]
  simp

theorem listOf_length (how : Int) (a b : List Rect) : (listOf how a b).length ≤ 2199023255552 := by
  have hsrt := cutsOf_sorted true a b
  have hbd : ∀ z ∈ cutsOf true a b, -1048576 ≤ z ∧ z ≤ 1048576 := fun z hz => cuts_bd hz
  have hlen := cutsOf_length a b
  rw [← flatTo_all]
  generalize cutsOf true a b = ys at *
  have h1 := ofRounds_range (how := how) (a := a) (b := b) hsrt (ys.length - 1) (by omega)
  have h2 := (ofInv_rounds hbd _ (List.range (ys.length - 1)) rfl (how := how) (a := a) (b := b) (fun j hj => by have := List.mem_range.1 hj; omega)).many
  rw [h1, List.length_range] at h2
  dsimp only at h2
  have h3 : (ys.length - 1) * 1048576 ≤ 2097152 * 1048576 := Nat.mul_le_mul_right _ (by omega)
  omega
/-- A call hands back a list of rectangles, a row of its own. -/
def GivesR (L : List Rect) (w : World) (e : Ending) (w' : World) : Prop := ∃ B d, e = .returned (.slice B L.length d) ∧ OwnR w' w.heap.size (.slice B L.length d) L ∧ (B = none → d = 0) ∧ Ext w w'
theorem GivesR.of {L : List Rect} {w w' : World} {e : Ending} (h : ∃ B d, e = .returned (.slice B L.length d) ∧ OwnR w' w.heap.size (.slice B L.length d) L ∧ Ext w w') : GivesR L w e w' := by
  obtain ⟨B, d, h1, h2, h3⟩ := h
  exact ⟨B, d, h1, h2, fun e => (row_nil_of h2 e).1, h3⟩
end Go.Proofs.Ytjghghbldifhaaa
