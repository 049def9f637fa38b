/- The pixels of two lists of rectangles, as runs of runs: the list in form. No program in sight. -/
import Derived.Test.YtilcggkbancniaaRunsB
import Derived.Test.YtilcggkbancniaaPicA
set_option linter.unusedVariables false
set_option linter.unusedSimpArgs false
namespace Go.Proofs.Ytilcggkbancniaa

theorem Rect.has_inside {r : Rect} {x y : Int} : r.has x y = true ↔ r.empty = false ∧ r.x ≤ x ∧ x < r.x + r.w ∧ r.y ≤ y ∧ y < r.y + r.h := by
  rw [Rect.has_iff]
  unfold Rect.holds
  constructor
  · rintro ⟨hg, h1, h2, h3, h4⟩
    have := Rect.good_iff.1 hg
    exact ⟨Rect.empty_iff.2 (by omega), h1, h2, h3, h4⟩
  · rintro ⟨he, h1, h2, h3, h4⟩
    have := Rect.empty_iff.1 he
    exact ⟨Rect.good_iff.2 (by omega), h1, h2, h3, h4⟩
theorem hasL_iff {l : List Rect} {x y : Int} : hasL l x y = true ↔ ∃ r ∈ l, r.empty = false ∧ r.x ≤ x ∧ x < r.x + r.w ∧ r.y ≤ y ∧ y < r.y + r.h := by
  unfold hasL
  rw [List.any_eq_true]
  constructor
  · rintro ⟨r, hr, h⟩; exact ⟨r, hr, Rect.has_inside.1 h⟩
  · rintro ⟨r, hr, h⟩; exact ⟨r, hr, Rect.has_inside.2 h⟩

/-- All cuts of two lists, across or down. -/
def cutsOf (down : Bool) (a b : List Rect) : List Int := edgesP down b (edgesP down a [])
theorem cutsOf_sorted (down : Bool) (a b : List Rect) : (cutsOf down a b).Pairwise (· < ·) := (edgesP_spec down b _ (edgesP_spec down a [] List.Pairwise.nil).1).1
theorem cutsOf_mem {down : Bool} {a b : List Rect} {y : Int} : y ∈ cutsOf down a b ↔ ∃ r, (r ∈ a ∨ r ∈ b) ∧ r.empty = false ∧ (y = edge1 down r 0 ∨ y = edge1 down r 1) := by
  unfold cutsOf
  rw [(edgesP_spec down b _ (edgesP_spec down a [] List.Pairwise.nil).1).2, (edgesP_spec down a [] List.Pairwise.nil).2]
  constructor
  · rintro ((h | ⟨r, hr, h⟩) | ⟨r, hr, h⟩)
    · cases h
    · exact ⟨r, .inl hr, h⟩
    · exact ⟨r, .inr hr, h⟩
  · rintro ⟨r, hr | hr, h⟩
    · exact .inl (.inr ⟨r, hr, h⟩)
    · exact .inr ⟨r, hr, h⟩
theorem cuts_x {a b : List Rect} {r : Rect} (hr : r ∈ a ∨ r ∈ b) (he : r.empty = false) : r.x ∈ cutsOf false a b ∧ r.x + r.w ∈ cutsOf false a b :=
  ⟨cutsOf_mem.2 ⟨r, hr, he, .inl (by simp [edge1])⟩, cutsOf_mem.2 ⟨r, hr, he, .inr (by simp [edge1])⟩⟩
theorem cuts_y {a b : List Rect} {r : Rect} (hr : r ∈ a ∨ r ∈ b) (he : r.empty = false) : r.y ∈ cutsOf true a b ∧ r.y + r.h ∈ cutsOf true a b :=
  ⟨cutsOf_mem.2 ⟨r, hr, he, .inl (by simp [edge1])⟩, cutsOf_mem.2 ⟨r, hr, he, .inr (by simp [edge1])⟩⟩
theorem cuts_bd {down : Bool} {a b : List Rect} {y : Int} (h : y ∈ cutsOf down a b) : -1048576 ≤ y ∧ y ≤ 1048576 := by
  obtain ⟨r, _, he, h⟩ := cutsOf_mem.1 h
  have := Rect.empty_iff.1 he
  unfold edge1 at h
  cases down <;> simp at h <;> omega

/-- Between cuts a list has the same pixels across. -/
theorem hasL_x {l : List Rect} {C : List Int} {u z y : Int} (hC : ∀ r ∈ l, r.empty = false → r.x ∈ C ∧ r.x + r.w ∈ C) (huz : u ≤ z) (hn : ∀ v ∈ C, ¬ (u < v ∧ v ≤ z)) : hasL l z y = hasL l u y := by
  rw [Bool.eq_iff_iff, hasL_iff, hasL_iff]
  constructor
  · rintro ⟨r, hr, he, h1, h2, h3, h4⟩
    obtain ⟨c1, c2⟩ := hC r hr he
    have := hn _ c1
    have := hn _ c2
    exact ⟨r, hr, he, by omega, by omega, h3, h4⟩
  · rintro ⟨r, hr, he, h1, h2, h3, h4⟩
    obtain ⟨c1, c2⟩ := hC r hr he
    have := hn _ c1
    have := hn _ c2
    exact ⟨r, hr, he, by omega, by omega, h3, h4⟩
theorem hasL_y {l : List Rect} {C : List Int} {u z x : Int} (hC : ∀ r ∈ l, r.empty = false → r.y ∈ C ∧ r.y + r.h ∈ C) (huz : u ≤ z) (hn : ∀ v ∈ C, ¬ (u < v ∧ v ≤ z)) : hasL l x z = hasL l x u := by
  rw [Bool.eq_iff_iff, hasL_iff, hasL_iff]
  constructor
  · rintro ⟨r, hr, he, h1, h2, h3, h4⟩
    obtain ⟨c1, c2⟩ := hC r hr he
    have := hn _ c1
    have := hn _ c2
    exact ⟨r, hr, he, h1, h2, by omega, by omega⟩
  · rintro ⟨r, hr, he, h1, h2, h3, h4⟩
    obtain ⟨c1, c2⟩ := hC r hr he
    have := hn _ c1
    have := hn _ c2
    exact ⟨r, hr, he, h1, h2, by omega, by omega⟩

theorem meant_none (how : Int) : meant how false false = false := by
  unfold meant
  split
  · rfl
  · split <;> rfl
/-- What is meant in a row, at a pixel. -/
def rowF (how : Int) (a b : List Rect) (y x : Int) : Bool := meant how (hasL a x y) (hasL b x y)
theorem rowF_some {how : Int} {a b : List Rect} {y x : Int} (h : rowF how a b y x ≠ false) : ∃ r, (r ∈ a ∨ r ∈ b) ∧ r.empty = false ∧ r.x ≤ x ∧ x < r.x + r.w ∧ r.y ≤ y ∧ y < r.y + r.h := by
  unfold rowF at h
  cases h1 : hasL a x y
  · cases h2 : hasL b x y
    · rw [h1, h2, meant_none] at h; exact absurd rfl h
    · obtain ⟨r, hr, h⟩ := hasL_iff.1 h2
      exact ⟨r, .inr hr, h⟩
  · obtain ⟨r, hr, h⟩ := hasL_iff.1 h1
    exact ⟨r, .inl hr, h⟩
/-- The pieces of a row. -/
def spansOf (how : Int) (a b : List Rect) (y : Int) : List (Run Bool) := cellsAll false (rowF how a b y) (cutsOf false a b)
theorem spansOf_spec (how : Int) (a b : List Rect) (y : Int) : runsOk false (spansOf how a b y) ∧ ∀ x, runsAt false (spansOf how a b y) x = rowF how a b y x := by
  refine cellsAll_spec (cutsOf_sorted _ _ _) (fun u _ z huz hn => ?_) (fun z hz => ?_)
  · unfold rowF
    rw [hasL_x (l := a) (fun r hr he => cuts_x (.inl hr) he) huz hn, hasL_x (l := b) (fun r hr he => cuts_x (.inr hr) he) huz hn]
  · obtain ⟨r, hr, he, h1, h2, _⟩ := rowF_some hz
    obtain ⟨c1, c2⟩ := cuts_x (a := a) (b := b) hr he
    exact ⟨_, c1, _, c2, h1, h2⟩
/-- The bands. -/
def bandsOf (how : Int) (a b : List Rect) : List (Run (List (Run Bool))) := cellsAll [] (spansOf how a b) (cutsOf true a b)
theorem runsAt_none : ∀ {l : List (Run Bool)}, runsOk false l → (∀ x, runsAt false l x = false) → l = [] := fun {l} h he => runs_unique h (l' := []) trivial (fun x => he x)
theorem bandsOf_spec (how : Int) (a b : List Rect) : runsOk [] (bandsOf how a b) ∧ ∀ y, runsAt [] (bandsOf how a b) y = spansOf how a b y := by
  refine cellsAll_spec (cutsOf_sorted _ _ _) (fun u _ z huz hn => ?_) (fun z hz => ?_)
  · have : rowF how a b z = rowF how a b u := by
      funext x
      unfold rowF
      rw [hasL_y (l := a) (fun r hr he => cuts_y (.inl hr) he) huz hn, hasL_y (l := b) (fun r hr he => cuts_y (.inr hr) he) huz hn]
    unfold spansOf
    rw [this]
  · have hex : ∃ x, rowF how a b z x ≠ false := by
      by_cases hh : ∃ x, rowF how a b z x ≠ false
      · exact hh
      · exfalso
        apply hz
        refine runsAt_none (spansOf_spec how a b z).1 fun x => ?_
        rw [(spansOf_spec how a b z).2 x]
        cases h : rowF how a b z x
        · rfl
        · exact absurd ⟨x, by rw [h]; simp⟩ hh
    obtain ⟨x, hx⟩ := hex
    obtain ⟨r, hr, he, _, _, h3, h4⟩ := rowF_some hx
    obtain ⟨c1, c2⟩ := cuts_y (a := a) (b := b) hr he
    exact ⟨_, c1, _, c2, h3, h4⟩
/-- Bands in form: their pieces too. -/
def bandsOk (V : List (Run (List (Run Bool)))) : Prop := runsOk [] V ∧ ∀ y, runsOk false (runsAt [] V y)
theorem bandsOf_ok (how : Int) (a b : List Rect) : bandsOk (bandsOf how a b) := ⟨(bandsOf_spec how a b).1, fun y => by rw [(bandsOf_spec how a b).2 y]; exact (spansOf_spec how a b y).1⟩
/-- A pixel of bands. -/
def pixB (V : List (Run (List (Run Bool)))) (x y : Int) : Bool := runsAt false (runsAt [] V y) x
theorem bandsOf_pix (how : Int) (a b : List Rect) (x y : Int) : pixB (bandsOf how a b) x y = meant how (hasL a x y) (hasL b x y) := by
  unfold pixB
  rw [(bandsOf_spec how a b).2 y, (spansOf_spec how a b y).2 x]
  rfl
/-- A set of pixels has one list of bands. -/
theorem bands_unique {V V' : List (Run (List (Run Bool)))} (h : bandsOk V) (h' : bandsOk V') (he : ∀ x y, pixB V x y = pixB V' x y) : V = V' :=
  runs_unique h.1 h'.1 fun y => runs_unique (h.2 y) (h'.2 y) fun x => he x y
/-- Bands as rectangles. -/
def bandRects (r : Run (List (Run Bool))) : List Rect := r.v.map fun s => ⟨s.a, r.a, s.b - s.a, r.b - r.a⟩
def flat (V : List (Run (List (Run Bool)))) : List Rect := V.flatMap bandRects
/-- The list in form that the document means. -/
def listOf (how : Int) (a b : List Rect) : List Rect := flat (bandsOf how a b)
end Go.Proofs.Ytilcggkbancniaa
