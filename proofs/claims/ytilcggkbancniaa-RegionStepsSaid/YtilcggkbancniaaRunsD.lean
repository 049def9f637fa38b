/- A list of bands as rectangles: its pixels, its bounds. No program in sight. -/
import Derived.Test.YtilcggkbancniaaRunsC
set_option linter.unusedVariables false
set_option linter.unusedSimpArgs false
namespace Go.Proofs.Ytilcggkbancniaa

section
variable {α : Type} {d : α}
theorem runsPush_mem [DecidableEq α] {l : List (Run α)} {a b : Int} {v : α} {r : Run α} (h : r ∈ runsPush d l a b v) : r ∈ l ∨ (r.v = v ∧ v ≠ d ∧ r.b = b ∧ (r.a = a ∨ ∃ s ∈ l, r.a = s.a)) := by
  unfold runsPush at h
  by_cases hv : v = d
  · rw [if_pos hv] at h; exact .inl h
  · rw [if_neg hv] at h
    rcases List.eq_nil_or_concat l with rfl | ⟨l0, s, rfl⟩
    · simp at h
      subst h
      exact .inr ⟨rfl, hv, rfl, .inl rfl⟩
    · rw [List.concat_eq_append] at h ⊢
      rw [show (l0 ++ [s]).getLast? = some s by simp] at h
      dsimp only at h
      by_cases hm : s.b = a ∧ s.v = v
      · rw [if_pos hm, List.dropLast_concat] at h
        rcases List.mem_append.1 h with h | h
        · exact .inl (by simp [h])
        · simp at h
          subst h
          exact .inr ⟨hm.2, hv, rfl, .inr ⟨s, by simp, rfl⟩⟩
      · rw [if_neg hm] at h
        rcases List.mem_append.1 h with h | h
        · exact .inl h
        · simp at h
          subst h
          exact .inr ⟨rfl, hv, rfl, .inl rfl⟩
theorem cellsOf_mem [DecidableEq α] {val : Int → α} {xs : List Int} : ∀ i, i < xs.length → ∀ r ∈ cellsOf d val xs i, r.a ∈ xs ∧ r.b ∈ xs ∧ ∃ u ∈ xs, r.v = val u
  | 0, _, r, h => by simp [cellsOf] at h
  | i + 1, hi, r, h => by
    have ih := cellsOf_mem (val := val) (xs := xs) i (by omega)
    have hm : ∀ j, j < xs.length → xs.getD j 0 ∈ xs := fun j hj => by
      rw [List.getD_eq_getElem?_getD, List.getElem?_eq_getElem hj]
      exact List.getElem_mem hj
    rcases runsPush_mem h with h | ⟨h1, _, h3, h4⟩
    · exact ih r h
    · refine ⟨?_, by rw [h3]; exact hm _ hi, _, hm i (by omega), h1⟩
      rcases h4 with h4 | ⟨s, hs, h4⟩
      · rw [h4]; exact hm i (by omega)
      · rw [h4]; exact (ih s hs).1
theorem cellsAll_mem [DecidableEq α] {val : Int → α} {xs : List Int} {r : Run α} (h : r ∈ cellsAll d val xs) : r.a ∈ xs ∧ r.b ∈ xs ∧ ∃ u ∈ xs, r.v = val u := by
  rcases Nat.eq_zero_or_pos xs.length with h0 | hp
  · have hx : xs = [] := List.eq_nil_of_length_eq_zero h0
    subst hx
    simp [cellsAll, cellsOf] at h
  · exact cellsOf_mem _ (by omega) r h
theorem cellsOf_val [DecidableEq α] {val : Int → α} {xs : List Int} : ∀ i, ∀ r ∈ cellsOf d val xs i, r.v ≠ d
  | 0, r, h => by simp [cellsOf] at h
  | i + 1, r, h => by
    rcases runsPush_mem h with h | ⟨h1, h2, _⟩
    · exact cellsOf_val i r h
    · rw [h1]; exact h2
theorem runsOk_pos : ∀ {l : List (Run α)}, runsOk d l → ∀ r ∈ l, r.a < r.b ∧ r.v ≠ d
  | [], _, r, h => by cases h
  | s :: l, h, r, hr => by
    rcases List.mem_cons.1 hr with rfl | hr
    · exact ⟨h.1, h.2.1⟩
    · exact runsOk_pos h.2.2.2 r hr
/-- What holds at a place is told by the run there. -/
theorem runsAt_mem : ∀ {l : List (Run α)}, runsOk d l → ∀ r ∈ l, ∀ x, r.a ≤ x → x < r.b → runsAt d l x = r.v
  | [], _, r, h, _, _, _ => by cases h
  | s :: l, h, r, hr, x, h1, h2 => by
    rcases List.mem_cons.1 hr with rfl | hr
    · exact runsAt_first h h1 h2
    · have hs : ∀ {l : List (Run α)} {s : Run α}, runsOk d (s :: l) → ∀ r ∈ l, s.b ≤ r.a := by
        intro l
        induction l with
        | nil => intro s _ r hr; cases hr
        | cons t l ih =>
          intro s h r hr
          have h1 := (h.2.2.1 t (by simp)).1
          rcases List.mem_cons.1 hr with rfl | hr
          · exact h1
          · have h2 := ih h.2.2.2 r hr
            have h3 := h.2.2.2.1
            omega
      rw [runsAt_behind (by have := hs h r hr; omega)]
      exact runsAt_mem h.2.2.2 r hr x h1 h2
theorem runsAt_ex : ∀ {l : List (Run α)} {x : Int}, runsAt d l x ≠ d → ∃ r ∈ l, r.a ≤ x ∧ x < r.b ∧ runsAt d l x = r.v
  | [], x, h => absurd rfl h
  | s :: l, x, h => by
    unfold runsAt at h ⊢
    by_cases hc : s.a ≤ x ∧ x < s.b
    · rw [if_pos hc]
      exact ⟨s, by simp, hc.1, hc.2, rfl⟩
    · rw [if_neg hc] at h ⊢
      obtain ⟨r, hr, h⟩ := runsAt_ex h
      exact ⟨r, by simp [hr], h⟩
end
/-- All coordinates are such as rectangles may have. -/
def bandsIn (V : List (Run (List (Run Bool)))) : Prop := ∀ r ∈ V, (-1048576 ≤ r.a ∧ r.b ≤ 1048576) ∧ ∀ s ∈ r.v, -1048576 ≤ s.a ∧ s.b ≤ 1048576
theorem bandsOf_in (how : Int) (a b : List Rect) : bandsIn (bandsOf how a b) := fun r hr => by
  obtain ⟨h1, h2, u, _, h3⟩ := cellsAll_mem hr
  refine ⟨⟨(cuts_bd h1).1, (cuts_bd h2).2⟩, fun s hs => ?_⟩
  rw [h3] at hs
  obtain ⟨g1, g2, _⟩ := cellsAll_mem hs
  exact ⟨(cuts_bd g1).1, (cuts_bd g2).2⟩
theorem flat_mem {V : List (Run (List (Run Bool)))} {q : Rect} : q ∈ flat V ↔ ∃ r ∈ V, ∃ s ∈ r.v, q = ⟨s.a, r.a, s.b - s.a, r.b - r.a⟩ := by
  unfold flat bandRects
  constructor
  · intro h
    obtain ⟨r, hr, h⟩ := List.mem_flatMap.1 h
    obtain ⟨s, hs, rfl⟩ := List.mem_map.1 h
    exact ⟨r, hr, s, hs, rfl⟩
  · rintro ⟨r, hr, s, hs, rfl⟩
    exact List.mem_flatMap.2 ⟨r, hr, List.mem_map.2 ⟨s, hs, rfl⟩⟩
theorem bandsOk_row {V : List (Run (List (Run Bool)))} (h : bandsOk V) {r : Run (List (Run Bool))} (hr : r ∈ V) : runsOk false r.v := by
  have h1 := (runsOk_pos h.1 r hr).1
  have := h.2 r.a
  rwa [runsAt_mem h.1 r hr r.a (Int.le_refl _) h1] at this
/-- The rectangles of bands have the bands' pixels. -/
theorem flat_has {V : List (Run (List (Run Bool)))} (h : bandsOk V) (hin : bandsIn V) (x y : Int) : hasL (flat V) x y = pixB V x y := by
  rw [Bool.eq_iff_iff, hasL_iff]
  constructor
  · rintro ⟨q, hq, _, h1, h2, h3, h4⟩
    obtain ⟨r, hr, s, hs, rfl⟩ := flat_mem.1 hq
    dsimp only at h1 h2 h3 h4
    have hv := runsOk_pos (bandsOk_row h hr) s hs
    unfold pixB
    rw [runsAt_mem h.1 r hr y h3 (by omega), runsAt_mem (bandsOk_row h hr) s hs x h1 (by omega)]
    simpa using hv.2
  · intro hp
    unfold pixB at hp
    have hy : runsAt [] V y ≠ [] := fun e => by rw [e] at hp; cases hp
    obtain ⟨r, hr, h1, h2, h3⟩ := runsAt_ex hy
    rw [h3] at hp
    have hx : runsAt false r.v x ≠ false := by rw [hp]; simp
    obtain ⟨s, hs, g1, g2, _⟩ := runsAt_ex hx
    have hi := hin r hr
    have hs2 := hi.2 s hs
    have hsp := (runsOk_pos (bandsOk_row h hr) s hs).1
    have hrp := (runsOk_pos h.1 r hr).1
    refine ⟨_, flat_mem.2 ⟨r, hr, s, hs, rfl⟩, Rect.empty_iff.2 (by dsimp only; omega), ?_⟩
    dsimp only
    omega
/-- The list in form has the pixels that are meant. -/
theorem listOf_has (how : Int) (a b : List Rect) (x y : Int) : hasL (listOf how a b) x y = meant how (hasL a x y) (hasL b x y) := by
  unfold listOf
  rw [flat_has (bandsOf_ok how a b) (bandsOf_in how a b), bandsOf_pix]
/-- Lists in form of the same pixels are the same. -/
theorem listOf_eq {how how' : Int} {a b a' b' : List Rect} (h : ∀ x y, meant how (hasL a x y) (hasL b x y) = meant how' (hasL a' x y) (hasL b' x y)) : listOf how a b = listOf how' a' b' := by
  unfold listOf
  rw [bands_unique (bandsOf_ok how a b) (bandsOf_ok how' a' b') fun x y => by rw [bandsOf_pix, bandsOf_pix]; exact h x y]
/-- No longer than the grid has cells. -/
theorem runsPush_length {α : Type} [DecidableEq α] {d : α} {l : List (Run α)} {a b : Int} {v : α} : (runsPush d l a b v).length ≤ l.length + 1 := by
  unfold runsPush
  split
  · omega
  · rcases List.eq_nil_or_concat l with rfl | ⟨l0, s, rfl⟩
    · simp
    · rw [List.concat_eq_append, show (l0 ++ [s]).getLast? = some s by simp]
      dsimp only
      split <;> simp
theorem cellsOf_length {α : Type} [DecidableEq α] {d : α} {val : Int → α} {xs : List Int} : ∀ i, (cellsOf d val xs i).length ≤ i
  | 0 => by simp [cellsOf]
  | i + 1 => by
    have := cellsOf_length (d := d) (val := val) (xs := xs) i
    have h2 := runsPush_length (d := d) (l := cellsOf d val xs i) (a := xs.getD i 0) (b := xs.getD (i + 1) 0) (v := val (xs.getD i 0))
    show (runsPush _ _ _ _ _).length ≤ _
    omega
end Go.Proofs.Ytilcggkbancniaa
