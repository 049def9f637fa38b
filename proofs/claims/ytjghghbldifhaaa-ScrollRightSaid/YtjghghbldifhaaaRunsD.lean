/- Runs: what holds a value from where to where; a function that is constant between cuts has one list of runs. No program in sight. -/
/- Runs over a grid of cuts; the pixels of lists of rectangles as runs of runs. No program in sight. -/
/- The pixels of two lists of rectangles, as runs of runs: the list in form. No program in sight. -/
/- A list of bands as rectangles: its pixels, its bounds. No program in sight. -/
import Derived.Test.YtjghghbldifhaaaApp
import Derived.Test.YtjghghbldifhaaaRegB
import Derived.Test.YtjghghbldifhaaaPicA
set_option linter.unusedVariables false
set_option linter.unusedSimpArgs false
namespace Go.Proofs.Ytjghghbldifhaaa

structure Run (α : Type) where
  a : Int
  b : Int
  v : α
deriving DecidableEq
section
variable {α : Type} {d : α}
/-- In form: rising, none of the default, no two that could be one. -/
def runsOk (d : α) : List (Run α) → Prop
  | [] => True
  | r :: l => r.a < r.b ∧ r.v ≠ d ∧ (∀ s ∈ l.head?, r.b ≤ s.a ∧ (r.b = s.a → r.v ≠ s.v)) ∧ runsOk d l
def runsAt (d : α) : List (Run α) → Int → α
  | [], _ => d
  | r :: l, x => if r.a ≤ x ∧ x < r.b then r.v else runsAt d l x
theorem runsAt_before : ∀ {l : List (Run α)} {x : Int}, runsOk d l → (∀ s ∈ l.head?, x < s.a) → runsAt d l x = d
  | [], _, _, _ => rfl
  | r :: l, x, h, hx => by
    have h1 := hx r (by simp)
    unfold runsAt
    rw [if_neg (by omega)]
    refine runsAt_before h.2.2.2 fun s hs => ?_
    have := (h.2.2.1 s hs).1
    have := h.1
    omega
theorem runsAt_first {r : Run α} {l : List (Run α)} (h : runsOk d (r :: l)) {x : Int} (h1 : r.a ≤ x) (h2 : x < r.b) : runsAt d (r :: l) x = r.v := by
  unfold runsAt
  rw [if_pos ⟨h1, h2⟩]
theorem runsAt_behind {r : Run α} {l : List (Run α)} {x : Int} (h2 : r.b ≤ x) : runsAt d (r :: l) x = runsAt d l x := by
  show (if _ then _ else _) = _
  rw [if_neg (by omega)]
/-- Behind a run another value holds. -/
theorem runsAt_end {r : Run α} {l : List (Run α)} (h : runsOk d (r :: l)) : runsAt d (r :: l) r.b ≠ r.v := by
  rw [runsAt_behind (Int.le_refl _)]
  rcases l with _ | ⟨s, l⟩
  · exact fun e => h.2.1 e.symm
  · have h3 := h.2.2.1 s (by simp)
    rcases Int.lt_or_eq_of_le h3.1 with hlt | heq
    · rw [runsAt_before h.2.2.2 (fun t ht => by simp at ht; subst ht; exact hlt)]
      exact fun e => h.2.1 e.symm
    · rw [runsAt_first h.2.2.2 (by omega) (by have := h.2.2.2.1; omega)]
      exact fun e => h3.2 heq e.symm
/-- A function has one list of runs. -/
theorem runs_unique : ∀ {l l' : List (Run α)}, runsOk d l → runsOk d l' → (∀ x, runsAt d l x = runsAt d l' x) → l = l'
  | [], [], _, _, _ => rfl
  | [], r :: l', _, h', he => by
    have := he r.a
    rw [runsAt_first h' (Int.le_refl _) h'.1] at this
    exact absurd this.symm h'.2.1
  | r :: l, [], h, _, he => by
    have := he r.a
    rw [runsAt_first h (Int.le_refl _) h.1] at this
    exact absurd this h.2.1
  | r :: l, s :: l', h, h', he => by
    have ea : r.a = s.a := by
      rcases Int.lt_trichotomy r.a s.a with hlt | heq | hgt
      · have := he r.a
        rw [runsAt_first h (Int.le_refl _) h.1, runsAt_before h' (fun t ht => by simp at ht; subst ht; exact hlt)] at this
        exact absurd this h.2.1
      · exact heq
      · have := he s.a
        rw [runsAt_first h' (Int.le_refl _) h'.1, runsAt_before h (fun t ht => by simp at ht; subst ht; exact hgt)] at this
        exact absurd this.symm h'.2.1
    have ev : r.v = s.v := by
      have := he r.a
      rw [runsAt_first h (Int.le_refl _) h.1, runsAt_first h' (by omega) (by have := h'.1; omega)] at this
      exact this
    have hr := h.1
    have hs := h'.1
    have eb : r.b = s.b := by
      rcases Int.lt_trichotomy r.b s.b with hlt | heq | hgt
      · have := he r.b
        rw [runsAt_first h' (by omega) hlt, ← ev] at this
        exact absurd this (runsAt_end h)
      · exact heq
      · have := he s.b
        rw [runsAt_first h (by omega) hgt, ev] at this
        exact absurd this.symm (runsAt_end h')
    have hl : l = l' := runs_unique h.2.2.2 h'.2.2.2 fun x => by
      rcases Int.lt_or_le x r.b with hlt | hge
      · rw [runsAt_before h.2.2.2 (fun t ht => by have := (h.2.2.1 t ht).1; omega), runsAt_before h'.2.2.2 (fun t ht => by have := (h'.2.2.1 t ht).1; omega)]
      · have := he x
        rwa [runsAt_behind hge, runsAt_behind (by omega)] at this
    rw [hl]
    obtain ⟨ra, rb, rv⟩ := r
    obtain ⟨sa, sb, sv⟩ := s
    simp_all

/-- A value from a to b is put behind. -/
def runsPush [DecidableEq α] (d : α) (l : List (Run α)) (a b : Int) (v : α) : List (Run α) :=
  if v = d then l else
  match l.getLast? with
  | none => [⟨a, b, v⟩]
  | some r => if r.b = a ∧ r.v = v then l.dropLast ++ [⟨r.a, b, r.v⟩] else l ++ [⟨a, b, v⟩]
theorem runsOk_snoc : ∀ {l : List (Run α)} {r : Run α}, runsOk d (l ++ [r]) ↔ runsOk d l ∧ r.a < r.b ∧ r.v ≠ d ∧ (∀ s ∈ l.getLast?, s.b ≤ r.a ∧ (s.b = r.a → s.v ≠ r.v))
  | [], r => by simp [runsOk]
  | [s], r => by
    simp only [List.cons_append, List.nil_append, runsOk, List.head?_cons, Option.mem_some, List.head?_nil, List.getLast?_singleton]
    constructor
    · rintro ⟨h1, h2, h3, h4, h5, _⟩
      exact ⟨⟨h1, h2, by simp, trivial⟩, h4, h5, fun t ht => by subst ht; exact h3 r rfl⟩
    · rintro ⟨⟨h1, h2, _⟩, h4, h5, h3⟩
      exact ⟨h1, h2, fun t ht => by subst ht; exact h3 s rfl, h4, h5, by simp, trivial⟩
  | s :: t :: l, r => by
    have ih := runsOk_snoc (l := t :: l) (r := r)
    have e : (s :: t :: l) ++ [r] = s :: (t :: (l ++ [r])) := rfl
    rw [e]
    show (_ ∧ _ ∧ _ ∧ runsOk d (t :: l ++ [r])) ↔ (_ ∧ _ ∧ _ ∧ runsOk d (t :: l)) ∧ _
    rw [ih]
    constructor
    · rintro ⟨h1, h2, h3, h4, h5, h6, h7⟩
      exact ⟨⟨h1, h2, h3, h4⟩, h5, h6, by rw [List.getLast?_cons_cons]; exact h7⟩
    · rintro ⟨⟨h1, h2, h3, h4⟩, h5, h6, h7⟩
      exact ⟨h1, h2, h3, h4, h5, h6, by rw [List.getLast?_cons_cons] at h7; exact h7⟩
theorem runsAt_snoc : ∀ {l : List (Run α)} {r : Run α}, runsOk d (l ++ [r]) → ∀ x, runsAt d (l ++ [r]) x = if r.a ≤ x ∧ x < r.b then r.v else runsAt d l x
  | [], r, _, x => rfl
  | s :: l, r, h, x => by
    have hs : s.b ≤ r.a := by
      have : ∀ (l : List (Run α)) (s r : Run α), runsOk d (s :: (l ++ [r])) → s.b ≤ r.a := by
        intro l
        induction l with
        | nil => intro s r h; exact (h.2.2.1 r (by simp)).1
        | cons t l ih =>
          intro s r h
          have h1 := (h.2.2.1 t (by simp)).1
          have h2 := ih t r h.2.2.2
          have h3 := h.2.2.2.1
          omega
      exact this l s r h
    have ih := runsAt_snoc (l := l) (r := r) h.2.2.2 x
    show (if s.a ≤ x ∧ x < s.b then s.v else runsAt d (l ++ [r]) x) = _
    rw [ih]
    show _ = if r.a ≤ x ∧ x < r.b then r.v else (if s.a ≤ x ∧ x < s.b then s.v else runsAt d l x)
    by_cases h1 : s.a ≤ x ∧ x < s.b
    · rw [if_pos h1, if_neg (by omega), if_pos h1]
    · rw [if_neg h1, if_neg h1]
/-- Behind the last run. -/
def runsTo (l : List (Run α)) (a : Int) : Prop := ∀ s ∈ l.getLast?, s.b ≤ a
theorem runsPush_ok [DecidableEq α] {l : List (Run α)} {a b : Int} {v : α} (h : runsOk d l) (ht : runsTo l a) (hab : a < b) :
    runsOk d (runsPush d l a b v) ∧ runsTo (runsPush d l a b v) b ∧ ∀ x, runsAt d (runsPush d l a b v) x = if a ≤ x ∧ x < b then (if v = d then runsAt d l x else v) else runsAt d l x := by
  unfold runsPush
  by_cases hv : v = d
  · rw [if_pos hv]
    refine ⟨h, fun s hs => by have := ht s hs; omega, fun x => by rw [if_pos hv]; split <;> rfl⟩
  · rw [if_neg hv]
    rcases List.eq_nil_or_concat l with rfl | ⟨l0, r, rfl⟩
    · refine ⟨⟨hab, hv, by simp, trivial⟩, by simp [runsTo], fun x => ?_⟩
      rw [if_neg hv]
      rfl
    · rw [List.concat_eq_append] at h ht ⊢
      have hlast : (l0 ++ [r]).getLast? = some r := by simp
      rw [hlast]
      dsimp only
      have hrb := ht r (by simp)
      have hok := runsOk_snoc.1 h
      by_cases hm : r.b = a ∧ r.v = v
      · rw [if_pos hm, List.dropLast_concat]
        have h2 : runsOk d (l0 ++ [⟨r.a, b, r.v⟩]) := runsOk_snoc.2 ⟨hok.1, by dsimp only; omega, hok.2.2.1, hok.2.2.2⟩
        refine ⟨h2, by simp [runsTo], fun x => ?_⟩
        rw [runsAt_snoc h2, runsAt_snoc h, if_neg hv]
        dsimp only
        have hra := hok.2.1
        by_cases h3 : a ≤ x ∧ x < b
        · rw [if_pos (by omega), if_pos h3, hm.2]
        · rw [if_neg h3]
          by_cases h4 : r.a ≤ x ∧ x < r.b
          · rw [if_pos h4, if_pos (by omega)]
          · rw [if_neg h4, if_neg (by omega)]
      · rw [if_neg hm]
        have h2 : runsOk d (l0 ++ [r] ++ [⟨a, b, v⟩]) := runsOk_snoc.2 ⟨h, hab, hv, fun s hs => by
          rw [hlast] at hs
          simp at hs
          subst hs
          exact ⟨hrb, fun e e2 => hm ⟨e, e2⟩⟩⟩
        refine ⟨h2, by simp [runsTo], fun x => ?_⟩
        rw [runsAt_snoc h2, if_neg hv]
end
end Go.Proofs.Ytjghghbldifhaaa
set_option linter.unusedVariables false
set_option linter.unusedSimpArgs false
namespace Go.Proofs.Ytjghghbldifhaaa

section
variable {α : Type} [DecidableEq α] {d : α}
/-- The runs of the first i cells of a grid. -/
def cellsOf (d : α) (val : Int → α) (xs : List Int) : Nat → List (Run α)
  | 0 => []
  | i + 1 => runsPush d (cellsOf d val xs i) (xs.getD i 0) (xs.getD (i + 1) 0) (val (xs.getD i 0))
theorem getD_lt_of_sorted {xs : List Int} (h : xs.Pairwise (· < ·)) {i j : Nat} (hij : i < j) (hj : j < xs.length) : xs.getD i 0 < xs.getD j 0 := by
  rw [List.getD_eq_getElem?_getD, List.getD_eq_getElem?_getD, List.getElem?_eq_getElem (by omega), List.getElem?_eq_getElem hj]
  exact List.pairwise_iff_getElem.1 h i j (by omega) hj hij
theorem cellsOf_spec {val F : Int → α} {xs : List Int} (h : xs.Pairwise (· < ·)) (hF : ∀ i, i + 1 < xs.length → ∀ z, xs.getD i 0 ≤ z → z < xs.getD (i + 1) 0 → F z = val (xs.getD i 0)) :
    ∀ i, i < xs.length → runsOk d (cellsOf d val xs i) ∧ runsTo (cellsOf d val xs i) (xs.getD i 0) ∧ ∀ z, runsAt d (cellsOf d val xs i) z = if xs.getD 0 0 ≤ z ∧ z < xs.getD i 0 then F z else d
  | 0, _ => ⟨trivial, fun s hs => by simp [cellsOf] at hs, fun z => by rw [if_neg (by omega)]; rfl⟩
  | i + 1, hi => by
    obtain ⟨h1, h2, h3⟩ := cellsOf_spec h hF i (by omega)
    have hlt : xs.getD i 0 < xs.getD (i + 1) 0 := getD_lt_of_sorted h (Nat.lt_succ_self i) hi
    obtain ⟨p1, p2, p3⟩ := runsPush_ok (v := val (xs.getD i 0)) h1 h2 hlt
    refine ⟨p1, p2, fun z => ?_⟩
    show runsAt d (runsPush d (cellsOf d val xs i) _ _ _) z = _
    rw [p3 z]
    have h0 : xs.getD 0 0 ≤ xs.getD i 0 := by
      rcases Nat.eq_zero_or_pos i with rfl | hp
      · exact Int.le_refl _
      · exact Int.le_of_lt (getD_lt_of_sorted h hp (by omega))
    by_cases hc : xs.getD i 0 ≤ z ∧ z < xs.getD (i + 1) 0
    · have hr : (if xs.getD 0 0 ≤ z ∧ z < xs.getD (i + 1) 0 then F z else d) = F z := if_pos (by omega)
      rw [if_pos hc, hr, hF i hi z hc.1 hc.2]
      by_cases hv : val (xs.getD i 0) = d
      · rw [if_pos hv, h3 z, if_neg (by omega), hv]
      · rw [if_neg hv]
    · rw [if_neg hc, h3 z]
      by_cases h4 : xs.getD 0 0 ≤ z ∧ z < xs.getD i 0
      · rw [if_pos h4, if_pos (by omega)]
      · rw [if_neg h4, if_neg (by omega)]
/-- All the cells of a grid. -/
def cellsAll (d : α) (val : Int → α) (xs : List Int) : List (Run α) := cellsOf d val xs (xs.length - 1)
/-- Where a function is nothing but between cuts, and turns at cuts alone, the grid's runs are its runs. -/
theorem cellsAll_spec {F : Int → α} {xs : List Int} (h : xs.Pairwise (· < ·)) (hc : ∀ u ∈ xs, ∀ z, u ≤ z → (∀ v ∈ xs, ¬ (u < v ∧ v ≤ z)) → F z = F u) (hd : ∀ z, F z ≠ d → ∃ u ∈ xs, ∃ v ∈ xs, u ≤ z ∧ z < v) :
    runsOk d (cellsAll d F xs) ∧ ∀ z, runsAt d (cellsAll d F xs) z = F z := by
  rcases Nat.eq_zero_or_pos xs.length with h0 | hp
  · have hx : xs = [] := List.eq_nil_of_length_eq_zero h0
    subst hx
    refine ⟨trivial, fun z => ?_⟩
    by_cases hz : F z = d
    · rw [hz]; rfl
    · obtain ⟨u, hu, _⟩ := hd z hz
      cases hu
  · have hg : ∀ (u : Int), u ∈ xs → ∃ i, i < xs.length ∧ xs.getD i 0 = u := fun u hu => by
      obtain ⟨i, hi, rfl⟩ := List.getElem_of_mem hu
      exact ⟨i, hi, by rw [List.getD_eq_getElem?_getD, List.getElem?_eq_getElem hi]; rfl⟩
    have hm : ∀ i, i < xs.length → xs.getD i 0 ∈ xs := fun i hi => by
      rw [List.getD_eq_getElem?_getD, List.getElem?_eq_getElem hi]
      exact List.getElem_mem hi
    have hle : ∀ i j, i ≤ j → j < xs.length → xs.getD i 0 ≤ xs.getD j 0 := fun i j hij hj => by
      rcases Nat.lt_or_eq_of_le hij with hlt | rfl
      · exact Int.le_of_lt (getD_lt_of_sorted h hlt hj)
      · exact Int.le_refl _
    obtain ⟨s1, _, s3⟩ := cellsOf_spec (d := d) (val := F) (F := F) h (fun i hi z h1 h2 => by
      refine hc _ (hm i (by omega)) z h1 fun v hv hh => ?_
      obtain ⟨j, hj, rfl⟩ := hg v hv
      rcases Nat.lt_or_ge i j with hlt | hge
      · have := hle (i + 1) j (by omega) hj
        omega
      · have := hle j i hge (by omega)
        omega) (xs.length - 1) (by omega)
    refine ⟨s1, fun z => ?_⟩
    show runsAt d (cellsOf d F xs (xs.length - 1)) z = F z
    rw [s3 z]
    by_cases hz : F z = d
    · split
      · rfl
      · exact hz.symm
    · obtain ⟨u, hu, v, hv, h1, h2⟩ := hd z hz
      obtain ⟨i, hi, rfl⟩ := hg u hu
      obtain ⟨j, hj, rfl⟩ := hg v hv
      have e1 := hle 0 i (Nat.zero_le _) hi
      have e2 := hle j (xs.length - 1) (by omega) (by omega)
      rw [if_pos (by omega)]
end

/-- A cut that is put in its place leaves the list sorted, and adds itself. -/
theorem takeWhile_sorted {x : Int} : ∀ {out : List Int}, out.Pairwise (· < ·) → (∀ y ∈ out.take (edgeAt x out), y < x) ∧ ∀ y ∈ out.drop (edgeAt x out), x ≤ y
  | [], _ => by simp
  | a :: out, h => by
    have hp := List.pairwise_cons.1 h
    have ih := takeWhile_sorted (x := x) hp.2
    by_cases ha : a < x
    · have e : edgeAt x (a :: out) = edgeAt x out + 1 := by simp [edgeAt, List.takeWhile_cons, ha]
      rw [e, List.take_succ_cons, List.drop_succ_cons]
      refine ⟨fun y hy => ?_, ih.2⟩
      rcases List.mem_cons.1 hy with rfl | hy
      · exact ha
      · exact ih.1 y hy
    · have e : edgeAt x (a :: out) = 0 := by simp [edgeAt, List.takeWhile_cons, ha]
      rw [e]
      refine ⟨fun y hy => by simp at hy, fun y hy => ?_⟩
      rw [List.drop_zero] at hy
      rcases List.mem_cons.1 hy with rfl | hy
      · omega
      · have := hp.1 y hy
        omega
theorem edgeIns_sorted {x : Int} {out : List Int} (h : out.Pairwise (· < ·)) : (edgeIns x out).Pairwise (· < ·) ∧ ∀ y, y ∈ edgeIns x out ↔ y = x ∨ y ∈ out := by
  unfold edgeIns
  obtain ⟨h1, h2⟩ := takeWhile_sorted (x := x) h
  by_cases hx : out[edgeAt x out]? = some x
  · rw [if_pos hx]
    have hm : x ∈ out := List.mem_of_getElem? hx
    exact ⟨h, fun y => ⟨.inr, fun hy => by rcases hy with rfl | hy <;> assumption⟩⟩
  · rw [if_neg hx]
    have hsplit : out.take (edgeAt x out) ++ out.drop (edgeAt x out) = out := List.take_append_drop _ _
    have hne : ∀ y ∈ out.drop (edgeAt x out), x < y := fun y hy => by
      have hle := h2 y hy
      rcases Int.lt_or_eq_of_le hle with hlt | heq
      · exact hlt
      · exfalso
        subst heq
        -- the first of what is behind is x itself
        rcases hdr : out.drop (edgeAt x out) with _ | ⟨z, l⟩
        · rw [hdr] at hy; cases hy
        · have hz : out[edgeAt x out]? = some z := by
            have := congrArg List.head? hdr
            rw [List.head?_drop] at this
            exact this
          rw [hdr] at hy
          have hs : (z :: l).Pairwise (· < ·) := hdr ▸ (List.Pairwise.sublist (List.drop_sublist _ _) h)
          rcases List.mem_cons.1 hy with rfl | hy
          · exact hx hz
          · have h3 := (List.pairwise_cons.1 hs).1 _ hy
            have h4 := h2 z (by rw [hdr]; simp)
            omega
    constructor
    · rw [List.append_assoc, List.pairwise_append]
      refine ⟨List.Pairwise.sublist (List.take_sublist _ _) h, ?_, ?_⟩
      · rw [List.singleton_append, List.pairwise_cons]
        exact ⟨hne, List.Pairwise.sublist (List.drop_sublist _ _) h⟩
      · intro u hu v hv
        have hu' := h1 u hu
        rw [List.singleton_append] at hv
        rcases List.mem_cons.1 hv with rfl | hv
        · exact hu'
        · have := hne v hv
          omega
    · intro y
      have : y ∈ out ↔ y ∈ out.take (edgeAt x out) ∨ y ∈ out.drop (edgeAt x out) := by rw [← List.mem_append, hsplit]
      rw [this]
      simp only [List.mem_append, List.mem_singleton]
      constructor
      · rintro ((h | h) | h)
        · exact .inr (.inl h)
        · exact .inl h
        · exact .inr (.inr h)
      · rintro (h | h | h)
        · exact .inl (.inr h)
        · exact .inl (.inl h)
        · exact .inr h
/-- The cuts of a list of rectangles. -/
theorem edgesP_spec (down : Bool) : ∀ (l : List Rect) (out : List Int), out.Pairwise (· < ·) → (edgesP down l out).Pairwise (· < ·) ∧ ∀ y, y ∈ edgesP down l out ↔ y ∈ out ∨ ∃ r ∈ l, r.empty = false ∧ (y = edge1 down r 0 ∨ y = edge1 down r 1)
  | [], out, h => ⟨h, fun y => by simp [edgesP]⟩
  | r :: l, out, h => by
    unfold edgesP
    cases he : r.empty
    · obtain ⟨a1, a2⟩ := edgeIns_sorted (x := edge1 down r 0) h
      obtain ⟨b1, b2⟩ := edgeIns_sorted (x := edge1 down r 1) a1
      obtain ⟨c1, c2⟩ := edgesP_spec down l (edgeSt down r out 2) b1
      simp only [Bool.false_eq_true, if_false]
      refine ⟨c1, fun y => ?_⟩
      rw [c2 y]
      show (y ∈ edgeIns (edge1 down r 1) (edgeIns (edge1 down r 0) out) ∨ _) ↔ _
      rw [b2 y, a2 y]
      constructor
      · rintro ((h | h | h) | ⟨s, hs, h⟩)
        · exact .inr ⟨r, by simp, he, .inr h⟩
        · exact .inr ⟨r, by simp, he, .inl h⟩
        · exact .inl h
        · exact .inr ⟨s, by simp [hs], h⟩
      · rintro (h | ⟨s, hs, h1, h2⟩)
        · exact .inl (.inr (.inr h))
        · rcases List.mem_cons.1 hs with rfl | hs
          · rcases h2 with h2 | h2
            · exact .inl (.inr (.inl h2))
            · exact .inl (.inl h2)
          · exact .inr ⟨s, hs, h1, h2⟩
    · simp only [if_true]
      obtain ⟨c1, c2⟩ := edgesP_spec down l out h
      refine ⟨c1, fun y => ?_⟩
      rw [c2 y]
      constructor
      · rintro (h | ⟨s, hs, h⟩)
        · exact .inl h
        · exact .inr ⟨s, by simp [hs], h⟩
      · rintro (h | ⟨s, hs, h1, h2⟩)
        · exact .inl h
        · rcases List.mem_cons.1 hs with rfl | hs
          · rw [he] at h1; cases h1
          · exact .inr ⟨s, hs, h1, h2⟩
end Go.Proofs.Ytjghghbldifhaaa
set_option linter.unusedVariables false
set_option linter.unusedSimpArgs false
namespace Go.Proofs.Ytjghghbldifhaaa

theorem Rect.has_inside {r : Rect} {x y : Int} : r.has x y = true ↔ r.empty = false ∧ r.x ≤ x ∧ x < r.x + r.w ∧ r.y ≤ y ∧ y < r.y + r.h := by
  rw [Rect.has_iff]
  unfold Rect.holds
  constructor
  · rintro ⟨hg, h1, h2, h3, h4⟩
    have := Rect.good_iff.1 hg
    exact ⟨Rect.empty_iff.2 (by omega), h1, h2, h3, h4⟩
  · rintro ⟨he, h1, h2, h3, h4⟩
    have := Rect.empty_iff.1 he
    exact ⟨Rect.good_iff.2 (by omega), h1, h2, h3, h4⟩
theorem hasL_iff {l : List Rect} {x y : Int} : hasL l x y = true ↔ ∃ r ∈ l, r.empty = false ∧ r.x ≤ x ∧ x < r.x + r.w ∧ r.y ≤ y ∧ y < r.y + r.h := by
  unfold hasL
  rw [List.any_eq_true]
  constructor
  · rintro ⟨r, hr, h⟩; exact ⟨r, hr, Rect.has_inside.1 h⟩
  · rintro ⟨r, hr, h⟩; exact ⟨r, hr, Rect.has_inside.2 h⟩

/-- All cuts of two lists, across or down. -/
def cutsOf (down : Bool) (a b : List Rect) : List Int := edgesP down b (edgesP down a [])
theorem cutsOf_sorted (down : Bool) (a b : List Rect) : (cutsOf down a b).Pairwise (· < ·) := (edgesP_spec down b _ (edgesP_spec down a [] List.Pairwise.nil).1).1
theorem cutsOf_mem {down : Bool} {a b : List Rect} {y : Int} : y ∈ cutsOf down a b ↔ ∃ r, (r ∈ a ∨ r ∈ b) ∧ r.empty = false ∧ (y = edge1 down r 0 ∨ y = edge1 down r 1) := by
  unfold cutsOf
  rw [(edgesP_spec down b _ (edgesP_spec down a [] List.Pairwise.nil).1).2, (edgesP_spec down a [] List.Pairwise.nil).2]
  constructor
  · rintro ((h | ⟨r, hr, h⟩) | ⟨r, hr, h⟩)
    · cases h
    · exact ⟨r, .inl hr, h⟩
    · exact ⟨r, .inr hr, h⟩
  · rintro ⟨r, hr | hr, h⟩
    · exact .inl (.inr ⟨r, hr, h⟩)
    · exact .inr ⟨r, hr, h⟩
theorem cuts_x {a b : List Rect} {r : Rect} (hr : r ∈ a ∨ r ∈ b) (he : r.empty = false) : r.x ∈ cutsOf false a b ∧ r.x + r.w ∈ cutsOf false a b :=
  ⟨cutsOf_mem.2 ⟨r, hr, he, .inl (by simp [edge1])⟩, cutsOf_mem.2 ⟨r, hr, he, .inr (by simp [edge1])⟩⟩
theorem cuts_y {a b : List Rect} {r : Rect} (hr : r ∈ a ∨ r ∈ b) (he : r.empty = false) : r.y ∈ cutsOf true a b ∧ r.y + r.h ∈ cutsOf true a b :=
  ⟨cutsOf_mem.2 ⟨r, hr, he, .inl (by simp [edge1])⟩, cutsOf_mem.2 ⟨r, hr, he, .inr (by simp [edge1])⟩⟩
theorem cuts_bd {down : Bool} {a b : List Rect} {y : Int} (h : y ∈ cutsOf down a b) : -1048576 ≤ y ∧ y ≤ 1048576 := by
  obtain ⟨r, _, he, h⟩ := cutsOf_mem.1 h
  have := Rect.empty_iff.1 he
  unfold edge1 at h
  cases down <;> simp at h <;> omega

/-- Between cuts a list has the same pixels across. -/
theorem hasL_x {l : List Rect} {C : List Int} {u z y : Int} (hC : ∀ r ∈ l, r.empty = false → r.x ∈ C ∧ r.x + r.w ∈ C) (huz : u ≤ z) (hn : ∀ v ∈ C, ¬ (u < v ∧ v ≤ z)) : hasL l z y = hasL l u y := by
  rw [Bool.eq_iff_iff, hasL_iff, hasL_iff]
  constructor
  · rintro ⟨r, hr, he, h1, h2, h3, h4⟩
    obtain ⟨c1, c2⟩ := hC r hr he
    have := hn _ c1
    have := hn _ c2
    exact ⟨r, hr, he, by omega, by omega, h3, h4⟩
  · rintro ⟨r, hr, he, h1, h2, h3, h4⟩
    obtain ⟨c1, c2⟩ := hC r hr he
    have := hn _ c1
    have := hn _ c2
    exact ⟨r, hr, he, by omega, by omega, h3, h4⟩
theorem hasL_y {l : List Rect} {C : List Int} {u z x : Int} (hC : ∀ r ∈ l, r.empty = false → r.y ∈ C ∧ r.y + r.h ∈ C) (huz : u ≤ z) (hn : ∀ v ∈ C, ¬ (u < v ∧ v ≤ z)) : hasL l x z = hasL l x u := by
  rw [Bool.eq_iff_iff, hasL_iff, hasL_iff]
  constructor
  · rintro ⟨r, hr, he, h1, h2, h3, h4⟩
    obtain ⟨c1, c2⟩ := hC r hr he
    have := hn _ c1
    have := hn _ c2
    exact ⟨r, hr, he, h1, h2, by omega, by omega⟩
  · rintro ⟨r, hr, he, h1, h2, h3, h4⟩
    obtain ⟨c1, c2⟩ := hC r hr he
    have := hn _ c1
    have := hn _ c2
    exact ⟨r, hr, he, h1, h2, by omega, by omega⟩

theorem meant_none (how : Int) : meant how false false = false := by
  unfold meant
  split
  · rfl
  · split <;> rfl
/-- What is meant in a row, at a pixel. -/
def rowF (how : Int) (a b : List Rect) (y x : Int) : Bool := meant how (hasL a x y) (hasL b x y)
theorem rowF_some {how : Int} {a b : List Rect} {y x : Int} (h : rowF how a b y x ≠ false) : ∃ r, (r ∈ a ∨ r ∈ b) ∧ r.empty = false ∧ r.x ≤ x ∧ x < r.x + r.w ∧ r.y ≤ y ∧ y < r.y + r.h := by
  unfold rowF at h
  cases h1 : hasL a x y
  · cases h2 : hasL b x y
    · rw [h1, h2, meant_none] at h; exact absurd rfl h
    · obtain ⟨r, hr, h⟩ := hasL_iff.1 h2
      exact ⟨r, .inr hr, h⟩
  · obtain ⟨r, hr, h⟩ := hasL_iff.1 h1
    exact ⟨r, .inl hr, h⟩
/-- The pieces of a row. -/
def spansOf (how : Int) (a b : List Rect) (y : Int) : List (Run Bool) := cellsAll false (rowF how a b y) (cutsOf false a b)
theorem spansOf_spec (how : Int) (a b : List Rect) (y : Int) : runsOk false (spansOf how a b y) ∧ ∀ x, runsAt false (spansOf how a b y) x = rowF how a b y x := by
  refine cellsAll_spec (cutsOf_sorted _ _ _) (fun u _ z huz hn => ?_) (fun z hz => ?_)
  · unfold rowF
    rw [hasL_x (l := a) (fun r hr he => cuts_x (.inl hr) he) huz hn, hasL_x (l := b) (fun r hr he => cuts_x (.inr hr) he) huz hn]
  · obtain ⟨r, hr, he, h1, h2, _⟩ := rowF_some hz
    obtain ⟨c1, c2⟩ := cuts_x (a := a) (b := b) hr he
    exact ⟨_, c1, _, c2, h1, h2⟩
/-- The bands. -/
def bandsOf (how : Int) (a b : List Rect) : List (Run (List (Run Bool))) := cellsAll [] (spansOf how a b) (cutsOf true a b)
theorem runsAt_none : ∀ {l : List (Run Bool)}, runsOk false l → (∀ x, runsAt false l x = false) → l = [] := fun {l} h he => runs_unique h (l' := []) trivial (fun x => he x)
theorem bandsOf_spec (how : Int) (a b : List Rect) : runsOk [] (bandsOf how a b) ∧ ∀ y, runsAt [] (bandsOf how a b) y = spansOf how a b y := by
  refine cellsAll_spec (cutsOf_sorted _ _ _) (fun u _ z huz hn => ?_) (fun z hz => ?_)
  · have : rowF how a b z = rowF how a b u := by
      funext x
      unfold rowF
      rw [hasL_y (l := a) (fun r hr he => cuts_y (.inl hr) he) huz hn, hasL_y (l := b) (fun r hr he => cuts_y (.inr hr) he) huz hn]
    unfold spansOf
    rw [this]
  · have hex : ∃ x, rowF how a b z x ≠ false := by
      by_cases hh : ∃ x, rowF how a b z x ≠ false
      · exact hh
      · exfalso
        apply hz
        refine runsAt_none (spansOf_spec how a b z).1 fun x => ?_
        rw [(spansOf_spec how a b z).2 x]
        cases h : rowF how a b z x
        · rfl
        · exact absurd ⟨x, by rw [h]; simp⟩ hh
    obtain ⟨x, hx⟩ := hex
    obtain ⟨r, hr, he, _, _, h3, h4⟩ := rowF_some hx
    obtain ⟨c1, c2⟩ := cuts_y (a := a) (b := b) hr he
    exact ⟨_, c1, _, c2, h3, h4⟩
/-- Bands in form: their pieces too. -/
def bandsOk (V : List (Run (List (Run Bool)))) : Prop := runsOk [] V ∧ ∀ y, runsOk false (runsAt [] V y)
theorem bandsOf_ok (how : Int) (a b : List Rect) : bandsOk (bandsOf how a b) := ⟨(bandsOf_spec how a b).1, fun y => by rw [(bandsOf_spec how a b).2 y]; exact (spansOf_spec how a b y).1⟩
/-- A pixel of bands. -/
def pixB (V : List (Run (List (Run Bool)))) (x y : Int) : Bool := runsAt false (runsAt [] V y) x
theorem bandsOf_pix (how : Int) (a b : List Rect) (x y : Int) : pixB (bandsOf how a b) x y = meant how (hasL a x y) (hasL b x y) := by
  unfold pixB
  rw [(bandsOf_spec how a b).2 y, (spansOf_spec how a b y).2 x]
  rfl
/-- A set of pixels has one list of bands. -/
theorem bands_unique {V V' : List (Run (List (Run Bool)))} (h : bandsOk V) (h' : bandsOk V') (he : ∀ x y, pixB V x y = pixB V' x y) : V = V' :=
  runs_unique h.1 h'.1 fun y => runs_unique (h.2 y) (h'.2 y) fun x => he x y
/-- Bands as rectangles. -/
def bandRects (r : Run (List (Run Bool))) : List Rect := r.v.map fun s => ⟨s.a, r.a, s.b - s.a, r.b - r.a⟩
def flat (V : List (Run (List (Run Bool)))) : List Rect := V.flatMap bandRects
/-- The list in form that the document means. -/
def listOf (how : Int) (a b : List Rect) : List Rect := flat (bandsOf how a b)
end Go.Proofs.Ytjghghbldifhaaa
set_option linter.unusedVariables false
set_option linter.unusedSimpArgs false
namespace Go.Proofs.Ytjghghbldifhaaa

section
variable {α : Type} {d : α}
theorem runsPush_mem [DecidableEq α] {l : List (Run α)} {a b : Int} {v : α} {r : Run α} (h : r ∈ runsPush d l a b v) : r ∈ l ∨ (r.v = v ∧ v ≠ d ∧ r.b = b ∧ (r.a = a ∨ ∃ s ∈ l, r.a = s.a)) := by
  unfold runsPush at h
  by_cases hv : v = d
  · rw [if_pos hv] at h; exact .inl h
  · rw [if_neg hv] at h
    rcases List.eq_nil_or_concat l with rfl | ⟨l0, s, rfl⟩
    · simp at h
      subst h
      exact .inr ⟨rfl, hv, rfl, .inl rfl⟩
    · rw [List.concat_eq_append] at h ⊢
      rw [show (l0 ++ [s]).getLast? = some s by simp] at h
      dsimp only at h
      by_cases hm : s.b = a ∧ s.v = v
      · rw [if_pos hm, List.dropLast_concat] at h
        rcases List.mem_append.1 h with h | h
        · exact .inl (by simp [h])
        · simp at h
          subst h
          exact .inr ⟨hm.2, hv, rfl, .inr ⟨s, by simp, rfl⟩⟩
      · rw [if_neg hm] at h
        rcases List.mem_append.1 h with h | h
        · exact .inl h
        · simp at h
          subst h
          exact .inr ⟨rfl, hv, rfl, .inl rfl⟩
theorem cellsOf_mem [DecidableEq α] {val : Int → α} {xs : List Int} : ∀ i, i < xs.length → ∀ r ∈ cellsOf d val xs i, r.a ∈ xs ∧ r.b ∈ xs ∧ ∃ u ∈ xs, r.v = val u
  | 0, _, r, h => by simp [cellsOf] at h
  | i + 1, hi, r, h => by
    have ih := cellsOf_mem (val := val) (xs := xs) i (by omega)
    have hm : ∀ j, j < xs.length → xs.getD j 0 ∈ xs := fun j hj => by
      rw [List.getD_eq_getElem?_getD, List.getElem?_eq_getElem hj]
      exact List.getElem_mem hj
    rcases runsPush_mem h with h | ⟨h1, _, h3, h4⟩
    · exact ih r h
    · refine ⟨?_, by rw [h3]; exact hm _ hi, _, hm i (by omega), h1⟩
      rcases h4 with h4 | ⟨s, hs, h4⟩
      · rw [h4]; exact hm i (by omega)
      · rw [h4]; exact (ih s hs).1
theorem cellsAll_mem [DecidableEq α] {val : Int → α} {xs : List Int} {r : Run α} (h : r ∈ cellsAll d val xs) : r.a ∈ xs ∧ r.b ∈ xs ∧ ∃ u ∈ xs, r.v = val u := by
  rcases Nat.eq_zero_or_pos xs.length with h0 | hp
  · have hx : xs = [] := List.eq_nil_of_length_eq_zero h0
    subst hx
    simp [cellsAll, cellsOf] at h
  · exact cellsOf_mem _ (by omega) r h
theorem cellsOf_val [DecidableEq α] {val : Int → α} {xs : List Int} : ∀ i, ∀ r ∈ cellsOf d val xs i, r.v ≠ d
  | 0, r, h => by simp [cellsOf] at h
  | i + 1, r, h => by
    rcases runsPush_mem h with h | ⟨h1, h2, _⟩
    · exact cellsOf_val i r h
    · rw [h1]; exact h2
theorem runsOk_pos : ∀ {l : List (Run α)}, runsOk d l → ∀ r ∈ l, r.a < r.b ∧ r.v ≠ d
  | [], _, r, h => by cases h
  | s :: l, h, r, hr => by
    rcases List.mem_cons.1 hr with rfl | hr
    · exact ⟨h.1, h.2.1⟩
    · exact runsOk_pos h.2.2.2 r hr
/-- What holds at a place is told by the run there. -/
theorem runsAt_mem : ∀ {l : List (Run α)}, runsOk d l → ∀ r ∈ l, ∀ x, r.a ≤ x → x < r.b → runsAt d l x = r.v
  | [], _, r, h, _, _, _ => by cases h
  | s :: l, h, r, hr, x, h1, h2 => by
    rcases List.mem_cons.1 hr with rfl | hr
    · exact runsAt_first h h1 h2
    · have hs : ∀ {l : List (Run α)} {s : Run α}, runsOk d (s :: l) → ∀ r ∈ l, s.b ≤ r.a := by
        intro l
        induction l with
        | nil => intro s _ r hr; cases hr
        | cons t l ih =>
          intro s h r hr
          have h1 := (h.2.2.1 t (by simp)).1
          rcases List.mem_cons.1 hr with rfl | hr
          · exact h1
          · have h2 := ih h.2.2.2 r hr
            have h3 := h.2.2.2.1
            omega
      rw [runsAt_behind (by have := hs h r hr; omega)]
      exact runsAt_mem h.2.2.2 r hr x h1 h2
theorem runsAt_ex : ∀ {l : List (Run α)} {x : Int}, runsAt d l x ≠ d → ∃ r ∈ l, r.a ≤ x ∧ x < r.b ∧ runsAt d l x = r.v
  | [], x, h => absurd rfl h
  | s :: l, x, h => by
    unfold runsAt at h ⊢
    by_cases hc : s.a ≤ x ∧ x < s.b
    · rw [if_pos hc]
      exact ⟨s, by simp, hc.1, hc.2, rfl⟩
    · rw [if_neg hc] at h ⊢
      obtain ⟨r, hr, h⟩ := runsAt_ex h
      exact ⟨r, by simp [hr], h⟩
end
/-- All coordinates are such as rectangles may have. -/
def bandsIn (V : List (Run (List (Run Bool)))) : Prop := ∀ r ∈ V, (-1048576 ≤ r.a ∧ r.b ≤ 1048576) ∧ ∀ s ∈ r.v, -1048576 ≤ s.a ∧ s.b ≤ 1048576
theorem bandsOf_in (how : Int) (a b : List Rect) : bandsIn (bandsOf how a b) := fun r hr => by
  obtain ⟨h1, h2, u, _, h3⟩ := cellsAll_mem hr
  refine ⟨⟨(cuts_bd h1).1, (cuts_bd h2).2⟩, fun s hs => ?_⟩
  rw [h3] at hs
  obtain ⟨g1, g2, _⟩ := cellsAll_mem hs
  exact ⟨(cuts_bd g1).1, (cuts_bd g2).2⟩
theorem flat_mem {V : List (Run (List (Run Bool)))} {q : Rect} : q ∈ flat V ↔ ∃ r ∈ V, ∃ s ∈ r.v, q = ⟨s.a, r.a, s.b - s.a, r.b - r.a⟩ := by
  unfold flat bandRects
  constructor
  · intro h
    obtain ⟨r, hr, h⟩ := List.mem_flatMap.1 h
    obtain ⟨s, hs, rfl⟩ := List.mem_map.1 h
    exact ⟨r, hr, s, hs, rfl⟩
  · rintro ⟨r, hr, s, hs, rfl⟩
    exact List.mem_flatMap.2 ⟨r, hr, List.mem_map.2 ⟨s, hs, rfl⟩⟩
theorem bandsOk_row {V : List (Run (List (Run Bool)))} (h : bandsOk V) {r : Run (List (Run Bool))} (hr : r ∈ V) : runsOk false r.v := by
  have h1 := (runsOk_pos h.1 r hr).1
  have := h.2 r.a
  rwa [runsAt_mem h.1 r hr r.a (Int.le_refl _) h1] at this
/-- The rectangles of bands have the bands' pixels. -/
theorem flat_has {V : List (Run (List (Run Bool)))} (h : bandsOk V) (hin : bandsIn V) (x y : Int) : hasL (flat V) x y = pixB V x y := by
  rw [Bool.eq_iff_iff, hasL_iff]
  constructor
  · rintro ⟨q, hq, _, h1, h2, h3, h4⟩
    obtain ⟨r, hr, s, hs, rfl⟩ := flat_mem.1 hq
    dsimp only at h1 h2 h3 h4
    have hv := runsOk_pos (bandsOk_row h hr) s hs
    unfold pixB
    rw [runsAt_mem h.1 r hr y h3 (by omega), runsAt_mem (bandsOk_row h hr) s hs x h1 (by omega)]
    simpa using hv.2
  · intro hp
    unfold pixB at hp
    have hy : runsAt [] V y ≠ [] := fun e => by rw [e] at hp; cases hp
    obtain ⟨r, hr, h1, h2, h3⟩ := runsAt_ex hy
    rw [h3] at hp
    have hx : runsAt false r.v x ≠ false := by rw [hp]; simp
    obtain ⟨s, hs, g1, g2, _⟩ := runsAt_ex hx
    have hi := hin r hr
    have hs2 := hi.2 s hs
    have hsp := (runsOk_pos (bandsOk_row h hr) s hs).1
    have hrp := (runsOk_pos h.1 r hr).1
    refine ⟨_, flat_mem.2 ⟨r, hr, s, hs, rfl⟩, Rect.empty_iff.2 (by dsimp only; omega), ?_⟩
    dsimp only
    omega
/-- The list in form has the pixels that are meant. -/
theorem listOf_has (how : Int) (a b : List Rect) (x y : Int) : hasL (listOf how a b) x y = meant how (hasL a x y) (hasL b x y) := by
  unfold listOf
  rw [flat_has (bandsOf_ok how a b) (bandsOf_in how a b), bandsOf_pix]
/-- Lists in form of the same pixels are the same. -/
theorem listOf_eq {how how' : Int} {a b a' b' : List Rect} (h : ∀ x y, meant how (hasL a x y) (hasL b x y) = meant how' (hasL a' x y) (hasL b' x y)) : listOf how a b = listOf how' a' b' := by
  unfold listOf
  rw [bands_unique (bandsOf_ok how a b) (bandsOf_ok how' a' b') fun x y => by rw [bandsOf_pix, bandsOf_pix]; exact h x y]
/-- No longer than the grid has cells. -/
theorem runsPush_length {α : Type} [DecidableEq α] {d : α} {l : List (Run α)} {a b : Int} {v : α} : (runsPush d l a b v).length ≤ l.length + 1 := by
  unfold runsPush
  split
  · omega
  · rcases List.eq_nil_or_concat l with rfl | ⟨l0, s, rfl⟩
    · simp
    · rw [List.concat_eq_append, show (l0 ++ [s]).getLast? = some s by simp]
      dsimp only
      split <;> simp
theorem cellsOf_length {α : Type} [DecidableEq α] {d : α} {val : Int → α} {xs : List Int} : ∀ i, (cellsOf d val xs i).length ≤ i
  | 0 => by simp [cellsOf]
  | i + 1 => by
    have := cellsOf_length (d := d) (val := val) (xs := xs) i
    have h2 := runsPush_length (d := d) (l := cellsOf d val xs i) (a := xs.getD i 0) (b := xs.getD (i + 1) 0) (v := val (xs.getD i 0))
    show (runsPush _ _ _ _ _).length ≤ _
    omega
end Go.Proofs.Ytjghghbldifhaaa
