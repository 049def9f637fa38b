/- Runs over a grid of cuts; the pixels of lists of rectangles as runs of runs. No program in sight. -/
import Derived.Test.YtilcggkbancniaaRuns
import Derived.Test.YtilcggkbancniaaRegB
set_option linter.unusedVariables false
set_option linter.unusedSimpArgs false
namespace Go.Proofs.Ytilcggkbancniaa

section
variable {α : Type} [DecidableEq α] {d : α}
/-- The runs of the first i cells of a grid. -/
def cellsOf (d : α) (val : Int → α) (xs : List Int) : Nat → List (Run α)
  | 0 => []
  | i + 1 => runsPush d (cellsOf d val xs i) (xs.getD i 0) (xs.getD (i + 1) 0) (val (xs.getD i 0))
theorem getD_lt_of_sorted {xs : List Int} (h : xs.Pairwise (· < ·)) {i j : Nat} (hij : i < j) (hj : j < xs.length) : xs.getD i 0 < xs.getD j 0 := by
  rw [List.getD_eq_getElem?_getD, List.getD_eq_getElem?_getD, List.getElem?_eq_getElem (by omega), List.getElem?_eq_getElem hj]
  exact List.pairwise_iff_getElem.1 h i j (by omega) hj hij
theorem cellsOf_spec {val F : Int → α} {xs : List Int} (h : xs.Pairwise (· < ·)) (hF : ∀ i, i + 1 < xs.length → ∀ z, xs.getD i 0 ≤ z → z < xs.getD (i + 1) 0 → F z = val (xs.getD i 0)) :
    ∀ i, i < xs.length → runsOk d (cellsOf d val xs i) ∧ runsTo (cellsOf d val xs i) (xs.getD i 0) ∧ ∀ z, runsAt d (cellsOf d val xs i) z = if xs.getD 0 0 ≤ z ∧ z < xs.getD i 0 then F z else d
  | 0, _ => ⟨trivial, fun s hs => by simp [cellsOf] at hs, fun z => by rw [if_neg (by omega)]; rfl⟩
  | i + 1, hi => by
    obtain ⟨h1, h2, h3⟩ := cellsOf_spec h hF i (by omega)
    have hlt : xs.getD i 0 < xs.getD (i + 1) 0 := getD_lt_of_sorted h (Nat.lt_succ_self i) hi
    obtain ⟨p1, p2, p3⟩ := runsPush_ok (v := val (xs.getD i 0)) h1 h2 hlt
    refine ⟨p1, p2, fun z => ?_⟩
    show runsAt d (runsPush d (cellsOf d val xs i) _ _ _) z = _
    rw [p3 z]
    have h0 : xs.getD 0 0 ≤ xs.getD i 0 := by
      rcases Nat.eq_zero_or_pos i with rfl | hp
      · exact Int.le_refl _
      · exact Int.le_of_lt (getD_lt_of_sorted h hp (by omega))
    by_cases hc : xs.getD i 0 ≤ z ∧ z < xs.getD (i + 1) 0
    · have hr : (if xs.getD 0 0 ≤ z ∧ z < xs.getD (i + 1) 0 then F z else d) = F z := if_pos (by omega)
      rw [if_pos hc, hr, hF i hi z hc.1 hc.2]
      by_cases hv : val (xs.getD i 0) = d
      · rw [if_pos hv, h3 z, if_neg (by omega), hv]
      · rw [if_neg hv]
    · rw [if_neg hc, h3 z]
      by_cases h4 : xs.getD 0 0 ≤ z ∧ z < xs.getD i 0
      · rw [if_pos h4, if_pos (by omega)]
      · rw [if_neg h4, if_neg (by omega)]
/-- All the cells of a grid. -/
def cellsAll (d : α) (val : Int → α) (xs : List Int) : List (Run α) := cellsOf d val xs (xs.length - 1)
/-- Where a function is nothing but between cuts, and turns at cuts alone, the grid's runs are its runs. -/
theorem cellsAll_spec {F : Int → α} {xs : List Int} (h : xs.Pairwise (· < ·)) (hc : ∀ u ∈ xs, ∀ z, u ≤ z → (∀ v ∈ xs, ¬ (u < v ∧ v ≤ z)) → F z = F u) (hd : ∀ z, F z ≠ d → ∃ u ∈ xs, ∃ v ∈ xs, u ≤ z ∧ z < v) :
    runsOk d (cellsAll d F xs) ∧ ∀ z, runsAt d (cellsAll d F xs) z = F z := by
  rcases Nat.eq_zero_or_pos xs.length with h0 | hp
  · have hx : xs = [] := List.eq_nil_of_length_eq_zero h0
    subst hx
    refine ⟨trivial, fun z => ?_⟩
    by_cases hz : F z = d
    · rw [hz]; rfl
    · obtain ⟨u, hu, _⟩ := hd z hz
      cases hu
  · have hg : ∀ (u : Int), u ∈ xs → ∃ i, i < xs.length ∧ xs.getD i 0 = u := fun u hu => by
      obtain ⟨i, hi, rfl⟩ := List.getElem_of_mem hu
      exact ⟨i, hi, by rw [List.getD_eq_getElem?_getD, List.getElem?_eq_getElem hi]; rfl⟩
    have hm : ∀ i, i < xs.length → xs.getD i 0 ∈ xs := fun i hi => by
      rw [List.getD_eq_getElem?_getD, List.getElem?_eq_getElem hi]
      exact List.getElem_mem hi
    have hle : ∀ i j, i ≤ j → j < xs.length → xs.getD i 0 ≤ xs.getD j 0 := fun i j hij hj => by
      rcases Nat.lt_or_eq_of_le hij with hlt | rfl
      · exact Int.le_of_lt (getD_lt_of_sorted h hlt hj)
      · exact Int.le_refl _
    obtain ⟨s1, _, s3⟩ := cellsOf_spec (d := d) (val := F) (F := F) h (fun i hi z h1 h2 => by
      refine hc _ (hm i (by omega)) z h1 fun v hv hh => ?_
      obtain ⟨j, hj, rfl⟩ := hg v hv
      rcases Nat.lt_or_ge i j with hlt | hge
      · have := hle (i + 1) j (by omega) hj
        omega
      · have := hle j i hge (by omega)
        omega) (xs.length - 1) (by omega)
    refine ⟨s1, fun z => ?_⟩
    show runsAt d (cellsOf d F xs (xs.length - 1)) z = F z
    rw [s3 z]
    by_cases hz : F z = d
    · split
      · rfl
      · exact hz.symm
    · obtain ⟨u, hu, v, hv, h1, h2⟩ := hd z hz
      obtain ⟨i, hi, rfl⟩ := hg u hu
      obtain ⟨j, hj, rfl⟩ := hg v hv
      have e1 := hle 0 i (Nat.zero_le _) hi
      have e2 := hle j (xs.length - 1) (by omega) (by omega)
      rw [if_pos (by omega)]
end

/-- A cut that is put in its place leaves the list sorted, and adds itself. -/
theorem takeWhile_sorted {x : Int} : ∀ {out : List Int}, out.Pairwise (· < ·) → (∀ y ∈ out.take (edgeAt x out), y < x) ∧ ∀ y ∈ out.drop (edgeAt x out), x ≤ y
  | [], _ => by simp
  | a :: out, h => by
    have hp := List.pairwise_cons.1 h
    have ih := takeWhile_sorted (x := x) hp.2
    by_cases ha : a < x
    · have e : edgeAt x (a :: out) = edgeAt x out + 1 := by simp [edgeAt, List.takeWhile_cons, ha]
      rw [e, List.take_succ_cons, List.drop_succ_cons]
      refine ⟨fun y hy => ?_, ih.2⟩
      rcases List.mem_cons.1 hy with rfl | hy
      · exact ha
      · exact ih.1 y hy
    · have e : edgeAt x (a :: out) = 0 := by simp [edgeAt, List.takeWhile_cons, ha]
      rw [e]
      refine ⟨fun y hy => by simp at hy, fun y hy => ?_⟩
      rw [List.drop_zero] at hy
      rcases List.mem_cons.1 hy with rfl | hy
      · omega
      · have := hp.1 y hy
        omega
theorem edgeIns_sorted {x : Int} {out : List Int} (h : out.Pairwise (· < ·)) : (edgeIns x out).Pairwise (· < ·) ∧ ∀ y, y ∈ edgeIns x out ↔ y = x ∨ y ∈ out := by
  unfold edgeIns
  obtain ⟨h1, h2⟩ := takeWhile_sorted (x := x) h
  by_cases hx : out[edgeAt x out]? = some x
  · rw [if_pos hx]
    have hm : x ∈ out := List.mem_of_getElem? hx
    exact ⟨h, fun y => ⟨.inr, fun hy => by rcases hy with rfl | hy <;> assumption⟩⟩
  · rw [if_neg hx]
    have hsplit : out.take (edgeAt x out) ++ out.drop (edgeAt x out) = out := List.take_append_drop _ _
    have hne : ∀ y ∈ out.drop (edgeAt x out), x < y := fun y hy => by
      have hle := h2 y hy
      rcases Int.lt_or_eq_of_le hle with hlt | heq
      · exact hlt
      · exfalso
        subst heq
        -- the first of what is behind is x itself
        rcases hdr : out.drop (edgeAt x out) with _ | ⟨z, l⟩
        · rw [hdr] at hy; cases hy
        · have hz : out[edgeAt x out]? = some z := by
            have := congrArg List.head? hdr
            rw [List.head?_drop] at this
            exact this
          rw [hdr] at hy
          have hs : (z :: l).Pairwise (· < ·) := hdr ▸ (List.Pairwise.sublist (List.drop_sublist _ _) h)
          rcases List.mem_cons.1 hy with rfl | hy
          · exact hx hz
          · have h3 := (List.pairwise_cons.1 hs).1 _ hy
            have h4 := h2 z (by rw [hdr]; simp)
            omega
    constructor
    · rw [List.append_assoc, List.pairwise_append]
      refine ⟨List.Pairwise.sublist (List.take_sublist _ _) h, ?_, ?_⟩
      · rw [List.singleton_append, List.pairwise_cons]
        exact ⟨hne, List.Pairwise.sublist (List.drop_sublist _ _) h⟩
      · intro u hu v hv
        have hu' := h1 u hu
        rw [List.singleton_append] at hv
        rcases List.mem_cons.1 hv with rfl | hv
        · exact hu'
        · have := hne v hv
          omega
    · intro y
      have : y ∈ out ↔ y ∈ out.take (edgeAt x out) ∨ y ∈ out.drop (edgeAt x out) := by rw [← List.mem_append, hsplit]
      rw [this]
      simp only [List.mem_append, List.mem_singleton]
      constructor
      · rintro ((h | h) | h)
        · exact .inr (.inl h)
        · exact .inl h
        · exact .inr (.inr h)
      · rintro (h | h | h)
        · exact .inl (.inr h)
        · exact .inl (.inl h)
        · exact .inr h
/-- The cuts of a list of rectangles. -/
theorem edgesP_spec (down : Bool) : ∀ (l : List Rect) (out : List Int), out.Pairwise (· < ·) → (edgesP down l out).Pairwise (· < ·) ∧ ∀ y, y ∈ edgesP down l out ↔ y ∈ out ∨ ∃ r ∈ l, r.empty = false ∧ (y = edge1 down r 0 ∨ y = edge1 down r 1)
  | [], out, h => ⟨h, fun y => by simp [edgesP]⟩
  | r :: l, out, h => by
    unfold edgesP
    cases he : r.empty
    · obtain ⟨a1, a2⟩ := edgeIns_sorted (x := edge1 down r 0) h
      obtain ⟨b1, b2⟩ := edgeIns_sorted (x := edge1 down r 1) a1
      obtain ⟨c1, c2⟩ := edgesP_spec down l (edgeSt down r out 2) b1
      simp only [Bool.false_eq_true, if_false]
      refine ⟨c1, fun y => ?_⟩
      rw [c2 y]
      show (y ∈ edgeIns (edge1 down r 1) (edgeIns (edge1 down r 0) out) ∨ _) ↔ _
      rw [b2 y, a2 y]
      constructor
      · rintro ((h | h | h) | ⟨s, hs, h⟩)
        · exact .inr ⟨r, by simp, he, .inr h⟩
        · exact .inr ⟨r, by simp, he, .inl h⟩
        · exact .inl h
        · exact .inr ⟨s, by simp [hs], h⟩
      · rintro (h | ⟨s, hs, h1, h2⟩)
        · exact .inl (.inr (.inr h))
        · rcases List.mem_cons.1 hs with rfl | hs
          · rcases h2 with h2 | h2
            · exact .inl (.inr (.inl h2))
            · exact .inl (.inl h2)
          · exact .inr ⟨s, hs, h1, h2⟩
    · simp only [if_true]
      obtain ⟨c1, c2⟩ := edgesP_spec down l out h
      refine ⟨c1, fun y => ?_⟩
      rw [c2 y]
      constructor
      · rintro (h | ⟨s, hs, h⟩)
        · exact .inl h
        · exact .inr ⟨s, by simp [hs], h⟩
      · rintro (h | ⟨s, hs, h1, h2⟩)
        · exact .inl h
        · rcases List.mem_cons.1 hs with rfl | hs
          · rw [he] at h1; cases h1
          · exact .inr ⟨s, hs, h1, h2⟩
end Go.Proofs.Ytilcggkbancniaa
