/- How the program puts bands behind one another: the last band is stretched, or a new one laid. No program in sight. -/
/- The rounds of region.of, one behind the other. No program in sight. -/
import Derived.Test.YtilcggkbancniaaRunsE
namespace Go.Proofs.Ytilcggkbancniaa

/-- The last n rectangles of a list, by some more down. -/
def stretch (O : List Rect) (n : Nat) (dh : Int) : List Rect := O.take (O.length - n) ++ (O.drop (O.length - n)).map fun r => ⟨r.x, r.y, r.w, r.h + dh⟩
theorem stretch_append {L M : List Rect} {n : Nat} {dh : Int} (h : M.length = n) : stretch (L ++ M) n dh = L ++ M.map fun r => ⟨r.x, r.y, r.w, r.h + dh⟩ := by
  unfold stretch
  have e : (L ++ M).length - n = L.length := by rw [List.length_append]; omega
  rw [e, List.take_left, List.drop_left]
section
variable {α : Type} [DecidableEq α] {d : α}
/-- What the last cell left, where it is none of the default. -/
theorem cellsOf_last {val : Int → α} {xs : List Int} {i : Nat} (hv : val (xs.getD i 0) ≠ d) : ∃ l r, cellsOf d val xs (i + 1) = l ++ [r] ∧ r.b = xs.getD (i + 1) 0 ∧ r.v = val (xs.getD i 0) := by
  show ∃ l r, runsPush d (cellsOf d val xs i) _ _ _ = l ++ [r] ∧ _
  unfold runsPush
  rw [if_neg hv]
  rcases List.eq_nil_or_concat (cellsOf d val xs i) with h | ⟨l0, t, h⟩
  · rw [h]; exact ⟨[], _, rfl, rfl, rfl⟩
  · rw [h, List.concat_eq_append, show (l0 ++ [t]).getLast? = some t by simp]
    dsimp only
    by_cases hm : t.b = xs.getD i 0 ∧ t.v = val (xs.getD i 0)
    · rw [if_pos hm, List.dropLast_concat]; exact ⟨l0, _, rfl, rfl, hm.2⟩
    · rw [if_neg hm]; exact ⟨l0 ++ [t], _, rfl, rfl, rfl⟩
end
/-- The band that was laid last: its pieces (none: the last row was empty). -/
def lastP (how : Int) (a b : List Rect) (ys : List Int) (i : Nat) : List Piece := if i = 0 then [] else piecesOf how a b (ys.getD (i - 1) 0)
/-- The rectangles of the first i bands. -/
def flatTo (how : Int) (a b : List Rect) (ys : List Int) (i : Nat) : List Rect := flat (cellsOf [] (spansOf how a b) ys i)
def pieceRect (y0 y1 : Int) (p : Piece) : Rect := ⟨p.1, y0, p.2 - p.1, y1 - y0⟩
theorem bandRects_pieces {y0 y1 : Int} {how : Int} {a b : List Rect} {y : Int} : bandRects ⟨y0, y1, spansOf how a b y⟩ = (piecesOf how a b y).map (pieceRect y0 y1) := by
  unfold bandRects piecesOf
  rw [List.map_map]
  rfl
theorem flat_append (V W : List (Run (List (Run Bool)))) : flat (V ++ W) = flat V ++ flat W := by simp [flat]
theorem flat_one (r : Run (List (Run Bool))) : flat [r] = bandRects r := by simp [flat]
theorem pieces_inj {how : Int} {a b : List Rect} {y z : Int} (h : piecesOf how a b y = piecesOf how a b z) : spansOf how a b y = spansOf how a b z := by
  rw [← piecesOf_runs, ← piecesOf_runs, h]
theorem pieces_nil {how : Int} {a b : List Rect} {y : Int} : piecesOf how a b y = [] ↔ spansOf how a b y = [] := by
  unfold piecesOf
  rw [List.map_eq_nil_iff]
/-- The same pieces again: the last band is stretched. -/
theorem flatTo_same {how : Int} {a b : List Rect} {ys : List Int} {i : Nat} (hne : piecesOf how a b (ys.getD i 0) ≠ []) (hs : piecesOf how a b (ys.getD i 0) = lastP how a b ys i) :
    flatTo how a b ys (i + 1) = stretch (flatTo how a b ys i) (piecesOf how a b (ys.getD i 0)).length (ys.getD (i + 1) 0 - ys.getD i 0) ∧ (piecesOf how a b (ys.getD i 0)).length ≤ (flatTo how a b ys i).length := by
  rcases i with _ | i
  · exact absurd hs hne
  · have hs' : piecesOf how a b (ys.getD (i + 1) 0) = piecesOf how a b (ys.getD i 0) := hs
    have hsp := pieces_inj hs'
    have hv : spansOf how a b (ys.getD i 0) ≠ [] := fun e => hne (by rw [hs', pieces_nil]; exact e)
    obtain ⟨l, r, h1, h2, h3⟩ := cellsOf_last (d := ([] : List (Run Bool))) (val := spansOf how a b) (xs := ys) (i := i) hv
    have hstep : cellsOf [] (spansOf how a b) ys (i + 1 + 1) = l ++ [⟨r.a, ys.getD (i + 1 + 1) 0, r.v⟩] := by
      show runsPush _ (cellsOf [] (spansOf how a b) ys (i + 1)) _ _ _ = _
      unfold runsPush
      rw [if_neg (by rw [hsp]; exact hv), h1, show (l ++ [r]).getLast? = some r by simp]
      dsimp only
      rw [if_pos ⟨h2, by rw [h3, hsp]⟩, List.dropLast_concat]
    have hlen : (bandRects r).length = (piecesOf how a b (ys.getD (i + 1) 0)).length := by
      unfold bandRects piecesOf
      rw [List.length_map, List.length_map, h3, hsp]
    unfold flatTo
    rw [hstep, h1, flat_append, flat_append, flat_one, flat_one]
    constructor
    · rw [stretch_append hlen]
      congr 1
      unfold bandRects
      rw [List.map_map]
      refine List.map_congr_left fun s _ => ?_
      simp only [Function.comp]
      congr 1
      omega
    · rw [List.length_append, hlen]; omega
/-- Other pieces: they are laid behind. -/
theorem flatTo_new {how : Int} {a b : List Rect} {ys : List Int} {i : Nat} (hsrt : ys.Pairwise (· < ·)) (hi : i + 1 < ys.length) (hs : piecesOf how a b (ys.getD i 0) = [] ∨ piecesOf how a b (ys.getD i 0) ≠ lastP how a b ys i) :
    flatTo how a b ys (i + 1) = flatTo how a b ys i ++ (piecesOf how a b (ys.getD i 0)).map (pieceRect (ys.getD i 0) (ys.getD (i + 1) 0)) := by
  by_cases hn : piecesOf how a b (ys.getD i 0) = []
  · have hsp := pieces_nil.1 hn
    unfold flatTo
    rw [hn, List.map_nil, List.append_nil]
    show flat (runsPush _ _ _ _ _) = _
    unfold runsPush
    rw [if_pos hsp]
  · have hs' := hs.resolve_left hn
    have hsp : spansOf how a b (ys.getD i 0) ≠ [] := fun e => hn (pieces_nil.2 e)
    have hstep : cellsOf [] (spansOf how a b) ys (i + 1) = cellsOf [] (spansOf how a b) ys i ++ [⟨ys.getD i 0, ys.getD (i + 1) 0, spansOf how a b (ys.getD i 0)⟩] := by
      show runsPush _ (cellsOf [] (spansOf how a b) ys i) _ _ _ = _
      unfold runsPush
      rw [if_neg hsp]
      rcases List.eq_nil_or_concat (cellsOf [] (spansOf how a b) ys i) with h | ⟨l0, t, h⟩
      · rw [h]; rfl
      · rw [h, List.concat_eq_append, show (l0 ++ [t]).getLast? = some t by simp]
        dsimp only
        rw [if_neg]
        rintro ⟨h1, h2⟩
        rcases i with _ | i
        · simp [cellsOf] at h
        · rw [List.concat_eq_append] at h
          by_cases hv : spansOf how a b (ys.getD i 0) = []
          · -- the last run ends ahead of this cut
            have hskip : cellsOf [] (spansOf how a b) ys (i + 1) = cellsOf [] (spansOf how a b) ys i := by
              show runsPush _ _ _ _ _ = _
              unfold runsPush
              rw [if_pos hv]
            have hto : ∀ i, i < ys.length → ∀ r ∈ cellsOf [] (spansOf how a b) ys i, r.b ≤ ys.getD i 0 := by
              intro i
              induction i with
              | zero => intro _ r hr; simp [cellsOf] at hr
              | succ i ih =>
                intro hi r hr
                have hlt : ys.getD i 0 < ys.getD (i + 1) 0 := getD_lt_of_sorted hsrt (Nat.lt_succ_self i) hi
                rcases runsPush_mem hr with hr | ⟨_, _, h3, _⟩
                · have := ih (by omega) r hr; omega
                · omega
            have h3 := hto i (by omega) t (by rw [← hskip, h]; simp)
            have hlt : ys.getD i 0 < ys.getD (i + 1) 0 := getD_lt_of_sorted hsrt (Nat.lt_succ_self i) (by omega)
            omega
          · obtain ⟨l, r, e1, e2, e3⟩ := cellsOf_last (d := ([] : List (Run Bool))) (val := spansOf how a b) (xs := ys) (i := i) hv
            rw [h] at e1
            have : t = r := by
              have := congrArg List.getLast? e1
              simpa using this
            subst this
            refine hs' ?_
            show _ = piecesOf how a b (ys.getD i 0)
            unfold piecesOf
            rw [← h2, e3]
    unfold flatTo
    rw [hstep, flat_append, flat_one, bandRects_pieces]
theorem flatTo_all (how : Int) (a b : List Rect) : flatTo how a b (cutsOf true a b) ((cutsOf true a b).length - 1) = listOf how a b := rfl
end Go.Proofs.Ytilcggkbancniaa
namespace Go.Proofs.Ytilcggkbancniaa

/-- What a round leaves: the list, the pieces of the last band, where it ends. -/
structure OfSt where
  O : List Rect
  last : List Piece
  E : Int
def ofStart : OfSt := ⟨[], [], 0⟩
/-- Is the last band stretched? -/
def ofSame (how : Int) (a b : List Rect) (y0 : Int) (st : OfSt) : Prop := piecesOf how a b y0 ≠ [] ∧ st.last ≠ [] ∧ st.E = y0 ∧ piecesOf how a b y0 = st.last
instance (how : Int) (a b : List Rect) (y0 : Int) (st : OfSt) : Decidable (ofSame how a b y0 st) := inferInstanceAs (Decidable (_ ∧ _ ∧ _ ∧ _))
def ofStep (how : Int) (a b : List Rect) (ys : List Int) (st : OfSt) (i : Nat) : OfSt :=
  if ofSame how a b (ys.getD i 0) st then ⟨stretch st.O (piecesOf how a b (ys.getD i 0)).length (ys.getD (i + 1) 0 - ys.getD i 0), piecesOf how a b (ys.getD i 0), ys.getD (i + 1) 0⟩
  else ⟨st.O ++ (piecesOf how a b (ys.getD i 0)).map (pieceRect (ys.getD i 0) (ys.getD (i + 1) 0)), piecesOf how a b (ys.getD i 0), ys.getD (i + 1) 0⟩
def ofRounds (how : Int) (a b : List Rect) (ys : List Int) (l : List Nat) : OfSt := l.foldl (ofStep how a b ys) ofStart
theorem ofRounds_snoc (how : Int) (a b : List Rect) (ys : List Int) (l : List Nat) (i : Nat) : ofRounds how a b ys (l ++ [i]) = ofStep how a b ys (ofRounds how a b ys l) i := by simp [ofRounds]
theorem stretch_length {O : List Rect} {n : Nat} {dh : Int} : (stretch O n dh).length = O.length := by
  unfold stretch
  rw [List.length_append, List.length_map, List.length_take, List.length_drop]
  omega
theorem gaps_length : ∀ (l : List Piece) (lo : Int), runsOk false (l.map Piece.run) → (∀ p ∈ l, lo ≤ p.1 ∧ p.2 ≤ 1048576) → 2 * (l.length : Int) ≤ 1048576 - lo + 1 ∨ l = []
  | [], _, _, _ => .inr rfl
  | p :: l, lo, h, hb => by
    have h1 : p.1 < p.2 := h.1
    have hp := hb p (by simp)
    rcases l with _ | ⟨q, l⟩
    · left; simp; omega
    · have hq := h.2.2.1 q.run (by simp)
      have hlt : p.2 < q.1 := by
        rcases Int.lt_or_eq_of_le hq.1 with h | h
        · exact h
        · exact absurd rfl (hq.2 h)
      have hge : ∀ (l : List Piece) (e : Int), runsOk false (l.map Piece.run) → (∀ s ∈ l.head?, e ≤ s.1) → ∀ r ∈ l, e ≤ r.1 := by
        intro l
        induction l with
        | nil => intro e _ _ r hr; cases hr
        | cons s l ih =>
          intro e h hs r hr
          have e1 : e ≤ s.1 := hs s (by simp)
          rcases List.mem_cons.1 hr with rfl | hr
          · exact e1
          · have h5 : s.1 < s.2 := h.1
            have := ih s.2 h.2.2.2 (fun t ht => (h.2.2.1 t.run (by
              rcases l with _ | ⟨u, l⟩
              · cases ht
              · simp at ht; subst ht; simp)).1) r hr
            omega
      have h2 := gaps_length (q :: l) (p.2 + 1) h.2.2.2 (fun r hr => ⟨by
        have := hge (q :: l) (p.2 + 1) h.2.2.2 (fun s hs => by simp at hs; subst hs; omega) r hr
        exact this, (hb r (by simp [hr])).2⟩)
      rcases h2 with h2 | h2
      · left; simp only [List.length_cons] at h2 ⊢; omega
      · cases h2
theorem piecesOf_length2 (how : Int) (a b : List Rect) (y : Int) : (piecesOf how a b y).length ≤ 1048576 := by
  rcases gaps_length (piecesOf how a b y) (-1048576) (by rw [piecesOf_runs]; exact (spansOf_spec how a b y).1) (fun p hp => by have := piecesOf_bd hp; omega) with h | h
  · omega
  · rw [h]; simp
theorem sorted_length : ∀ (l : List Int) (lo hi : Int), l.Pairwise (· < ·) → (∀ z ∈ l, lo ≤ z ∧ z ≤ hi) → (l.length : Int) ≤ hi - lo + 1 ∨ l = []
  | [], _, _, _, _ => .inr rfl
  | a :: l, lo, hi, h, hb => by
    have hp := List.pairwise_cons.1 h
    have ha := hb a (by simp)
    rcases sorted_length l (a + 1) hi hp.2 (fun z hz => ⟨by have := hp.1 z hz; omega, (hb z (by simp [hz])).2⟩) with h2 | h2
    · left; simp only [List.length_cons]; omega
    · left; subst h2; simp; omega
theorem cutsOf_length (a b : List Rect) : (cutsOf true a b).length ≤ 2097153 := by
  rcases sorted_length (cutsOf true a b) (-1048576) 1048576 (cutsOf_sorted _ _ _) (fun z hz => cuts_bd hz) with h | h
  · omega
  · rw [h]; simp

/-- What is known of a round's end, in whatever order the bands come. -/
structure OfInv (st : OfSt) (k : Nat) : Prop where
  le : st.last.length ≤ st.O.length
  ends : ∀ r ∈ st.O.drop (st.O.length - st.last.length), r.y + r.h = st.E ∧ -1048576 ≤ r.y ∧ r.y ≤ 1048576
  bd : -1048576 ≤ st.E ∧ st.E ≤ 1048576
  many : st.O.length ≤ k * 1048576
  last : st.last.length ≤ 1048576
theorem ofInv_start : OfInv ofStart 0 := ⟨Nat.le_refl _, fun r hr => by simp [ofStart] at hr, by simp [ofStart], by simp [ofStart], by simp [ofStart]⟩
theorem ofInv_step {how : Int} {a b : List Rect} {ys : List Int} {st : OfSt} {i k : Nat} (hys : ∀ z ∈ ys, -1048576 ≤ z ∧ z ≤ 1048576) (hi : i + 1 < ys.length) (h : OfInv st k) : OfInv (ofStep how a b ys st i) (k + 1) := by
  have b0 := hys _ (getD_mem (show i < ys.length by omega))
  have b1 := hys _ (getD_mem hi)
  have hl := piecesOf_length2 how a b (ys.getD i 0)
  unfold ofStep
  by_cases hs : ofSame how a b (ys.getD i 0) st
  · rw [if_pos hs]
    obtain ⟨h1, h2, h3, h4⟩ := hs
    have hle := h.le
    refine ⟨?_, ?_, b1, ?_, hl⟩
    · rw [stretch_length, h4]; exact h.le
    · dsimp only
      rw [stretch_length, h4]
      intro r hr
      unfold stretch at hr
      rw [List.drop_append, List.drop_eq_nil_of_le (by rw [List.length_take]; omega), List.nil_append, List.length_take] at hr
      obtain ⟨q, hq, rfl⟩ := List.mem_map.1 (List.mem_of_mem_drop hr)
      have := h.ends q hq
      dsimp only
      omega
    · show (stretch _ _ _).length ≤ _
      rw [stretch_length, Nat.add_mul]
      exact Nat.le_trans h.many (Nat.le_add_right _ _)
  · rw [if_neg hs]
    refine ⟨by simp, ?_, b1, ?_, hl⟩
    · dsimp only
      rw [show (st.O ++ (piecesOf how a b (ys.getD i 0)).map (pieceRect (ys.getD i 0) (ys.getD (i + 1) 0))).length - (piecesOf how a b (ys.getD i 0)).length = st.O.length by simp, List.drop_left]
      intro r hr
      obtain ⟨p, hp, rfl⟩ := List.mem_map.1 hr
      unfold pieceRect
      dsimp only
      omega
    · show (st.O ++ (piecesOf how a b (ys.getD i 0)).map (pieceRect (ys.getD i 0) (ys.getD (i + 1) 0))).length ≤ _
      rw [List.length_append, List.length_map, Nat.add_mul, Nat.one_mul]
      exact Nat.add_le_add h.many hl
theorem ofInv_rounds {how : Int} {a b : List Rect} {ys : List Int} (hys : ∀ z ∈ ys, -1048576 ≤ z ∧ z ≤ 1048576) : ∀ (n : Nat) (l : List Nat), l.length = n → (∀ i ∈ l, i + 1 < ys.length) → OfInv (ofRounds how a b ys l) l.length := by
  intro n
  induction n with
  | zero =>
    intro l hl _
    have : l = [] := List.eq_nil_of_length_eq_zero hl
    subst this
    exact ofInv_start
  | succ n ih =>
    intro l hl hi
    rcases List.eq_nil_or_concat l with rfl | ⟨l0, j, rfl⟩
    · simp at hl
    · rw [List.concat_eq_append] at hl hi ⊢
      rw [ofRounds_snoc, List.length_append]
      exact ofInv_step hys (hi j (by simp)) (ih l0 (by simp at hl; omega) (fun i h => hi i (by simp [h])))
/-- The bands in their order. -/
theorem ofRounds_range {how : Int} {a b : List Rect} {ys : List Int} (hsrt : ys.Pairwise (· < ·)) : ∀ n, n < ys.length ∨ n = 0 → ofRounds how a b ys (List.range n) = ⟨flatTo how a b ys n, lastP how a b ys n, if n = 0 then 0 else ys.getD n 0⟩
  | 0, _ => rfl
  | n + 1, h => by
    have hn : n + 1 < ys.length := by omega
    have ih := ofRounds_range (how := how) (a := a) (b := b) hsrt n (.inl (by omega))
    rw [List.range_succ, ofRounds_snoc, ih]
    have hl : lastP how a b ys (n + 1) = piecesOf how a b (ys.getD n 0) := rfl
    unfold ofStep
    by_cases hs : ofSame how a b (ys.getD n 0) ⟨flatTo how a b ys n, lastP how a b ys n, if n = 0 then 0 else ys.getD n 0⟩
    · rw [if_pos hs]
      obtain ⟨h1, h2, h3, h4⟩ := hs
      rw [(flatTo_same h1 h4).1, hl, if_neg (Nat.succ_ne_zero n)]
    · rw [if_neg hs]
      have hno : piecesOf how a b (ys.getD n 0) = [] ∨ piecesOf how a b (ys.getD n 0) ≠ lastP how a b ys n := by
        by_cases h1 : piecesOf how a b (ys.getD n 0) = []
        · exact .inl h1
        · right
          intro h4
          refine hs ⟨h1, fun e => h1 (h4.trans e), ?_, h4⟩
          dsimp only
          rcases n with _ | n
          · exact absurd h4 h1
          · rw [if_neg (by omega)]
      rw [flatTo_new hsrt hn hno, hl, if_neg (Nat.succ_ne_zero n)]
end Go.Proofs.Ytilcggkbancniaa
