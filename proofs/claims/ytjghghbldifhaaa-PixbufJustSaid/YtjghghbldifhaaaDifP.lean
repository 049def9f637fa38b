/- Where two pictures are unlike, as a list in form: plain. -/
import Derived.Test.YtjghghbldifhaaaRunsG
set_option linter.unusedVariables false
set_option linter.unusedSimpArgs false
namespace Go.Proofs.Ytjghghbldifhaaa

/-- The edges of a length's steps. -/
def stepsTo (n : Nat) : List Int := (List.range (n + 1)).map fun i : Nat => (i : Int)
theorem stepsTo_get {n i : Nat} (h : i ≤ n) : (stepsTo n).getD i 0 = (i : Int) := by
  unfold stepsTo
  rw [List.getD_eq_getElem?_getD, List.getElem?_map, List.getElem?_range (by omega)]
  rfl
theorem stepsTo_length (n : Nat) : (stepsTo n).length = n + 1 := by simp [stepsTo]
theorem stepsTo_sorted (n : Nat) : (stepsTo n).Pairwise (· < ·) := by
  unfold stepsTo
  rw [List.pairwise_map]
  exact List.pairwise_lt_range.imp fun h => by omega
theorem stepsTo_mem {n : Nat} {z : Int} : z ∈ stepsTo n ↔ 0 ≤ z ∧ z ≤ n := by
  unfold stepsTo
  rw [List.mem_map]
  constructor
  · rintro ⟨i, hi, rfl⟩
    rw [List.mem_range] at hi
    omega
  · rintro ⟨h1, h2⟩
    exact ⟨z.toNat, by rw [List.mem_range]; omega, by omega⟩
section
variable {α : Type} [DecidableEq α] {d : α}
theorem steps_spec {F : Int → α} {n : Nat} (hF : ∀ z, F z ≠ d → 0 ≤ z ∧ z < n) : runsOk d (cellsOf d F (stepsTo n) n) ∧ ∀ z, runsAt d (cellsOf d F (stepsTo n) n) z = F z := by
  have h1 := cellsOf_spec (d := d) (F := F) (val := F) (stepsTo_sorted n) (fun i hi z h1 h2 => by
    rw [stepsTo_length] at hi
    rw [stepsTo_get (by omega)] at h1 ⊢
    rw [stepsTo_get (by omega)] at h2
    have : z = i := by omega
    rw [this]) n (by rw [stepsTo_length]; omega)
  refine ⟨h1.1, fun z => ?_⟩
  rw [h1.2.2 z, stepsTo_get (Nat.zero_le _), stepsTo_get (Nat.le_refl _)]
  by_cases hz : F z = d
  · rw [hz]; split <;> rfl
  · have := hF z hz
    rw [if_pos (by omega)]
end
/-- A row's runs, and all rows' bands. -/
def spansU (F : Int → Int → Bool) (W : Nat) (y : Int) : List (Run Bool) := cellsOf false (fun x => F x y) (stepsTo W) W
def bandsU (F : Int → Int → Bool) (W : Nat) (H : Nat) : List (Run (List (Run Bool))) := cellsOf [] (spansU F W) (stepsTo H) H
def listU (F : Int → Int → Bool) (W H : Nat) : List Rect := flat (bandsU F W H)
def Inside (F : Int → Int → Bool) (W H : Nat) : Prop := ∀ x y, F x y = true → (0 ≤ x ∧ x < W) ∧ 0 ≤ y ∧ y < H
theorem spansU_spec {F : Int → Int → Bool} {W H : Nat} (hF : Inside F W H) (y : Int) : runsOk false (spansU F W y) ∧ ∀ x, runsAt false (spansU F W y) x = F x y :=
  steps_spec (F := fun x => F x y) fun z hz => (hF z y (by simpa using hz)).1
theorem bandsU_spec {F : Int → Int → Bool} {W H : Nat} (hF : Inside F W H) : runsOk [] (bandsU F W H) ∧ ∀ y, runsAt [] (bandsU F W H) y = spansU F W y :=
  steps_spec (F := spansU F W) fun y hy => by
    refine Classical.byContradiction fun hno => hy ?_
    refine runsAt_none (spansU_spec hF y).1 fun x => ?_
    rw [(spansU_spec hF y).2 x]
    cases h : F x y
    · rfl
    · exact absurd (hF x y h).2 hno
theorem bandsU_ok {F : Int → Int → Bool} {W H : Nat} (hF : Inside F W H) : bandsOk (bandsU F W H) := ⟨(bandsU_spec hF).1, fun y => by rw [(bandsU_spec hF).2 y]; exact (spansU_spec hF y).1⟩
theorem bandsU_pix {F : Int → Int → Bool} {W H : Nat} (hF : Inside F W H) (x y : Int) : pixB (bandsU F W H) x y = F x y := by
  unfold pixB
  rw [(bandsU_spec hF).2 y, (spansU_spec hF y).2 x]
/-- It is the list in form of what has its pixels. -/
theorem listU_form {F : Int → Int → Bool} {W H : Nat} (hF : Inside F W H) {how : Int} {a b : List Rect} (h : ∀ x y, meant how (hasL a x y) (hasL b x y) = F x y) : listOf how a b = listU F W H := by
  unfold listOf listU
  rw [bands_unique (bandsOf_ok how a b) (bandsU_ok hF) fun x y => by rw [bandsOf_pix, bandsU_pix hF, h]]
theorem runs_steps_mem {α : Type} [DecidableEq α] {d : α} {F : Int → α} {n i : Nat} (hi : i ≤ n) {r : Run α} (hr : r ∈ cellsOf d F (stepsTo n) i) : 0 ≤ r.a ∧ r.b ≤ i := by
  induction i generalizing r with
  | zero => simp [cellsOf] at hr
  | succ i ih =>
    rcases runsPush_mem hr with h1 | ⟨_, _, h2, h3⟩
    · have := ih (by omega) h1
      omega
    · rw [stepsTo_get (by omega)] at h2 h3
      rcases h3 with h3 | ⟨s, hs, h3⟩
      · omega
      · have := ih (by omega) hs
        omega
theorem bandsU_in {F : Int → Int → Bool} {W H : Nat} (hW : W ≤ 1048576) (hH : H ≤ 1048576) : bandsIn (bandsU F W H) := fun r hr => by
  have h1 := runs_steps_mem (Nat.le_refl _) hr
  refine ⟨by omega, fun s hs => ?_⟩
  obtain ⟨_, _, u, hu, hv⟩ := cellsOf_mem H (by rw [stepsTo_length]; omega) r hr
  rw [hv] at hs
  have h2 := runs_steps_mem (Nat.le_refl _) hs
  omega
theorem listU_has {F : Int → Int → Bool} {W H : Nat} (hF : Inside F W H) (hW : W ≤ 1048576) (hH : H ≤ 1048576) (x y : Int) : hasL (listU F W H) x y = F x y := by
  unfold listU
  rw [flat_has (bandsU_ok hF) (bandsU_in hW hH), bandsU_pix hF]
theorem listU_self {F : Int → Int → Bool} {W H : Nat} (hF : Inside F W H) (hW : W ≤ 1048576) (hH : H ≤ 1048576) : listOf 0 (listU F W H) [] = listU F W H := listU_form hF fun x y => by
  rw [listU_has hF hW hH]
  exact meant0 _

/-- The first i pixels of a row, as rectangles. -/
def rowU (F : Int → Int → Bool) (W : Nat) (y : Int) (i : Nat) : List Rect := (cellsOf false (fun x => F x y) (stepsTo W) i).map fun s => ⟨s.a, y, s.b - s.a, 1⟩
theorem rowU_skip {F : Int → Int → Bool} {W i : Nat} {y : Int} (hi : i < W) (h : F i y = false) : rowU F W y (i + 1) = rowU F W y i := by
  unfold rowU
  show (runsPush _ _ _ _ _).map _ = _
  rw [stepsTo_get (by omega)]
  unfold runsPush
  rw [if_pos h]
theorem rowU_new {F : Int → Int → Bool} {W i : Nat} {y : Int} (hi : i < W) (h : F i y = true) (hl : ∀ r ∈ (rowU F W y i).getLast?, r.x + r.w ≠ i) : rowU F W y (i + 1) = rowU F W y i ++ [⟨(i : Int), y, 1, 1⟩] := by
  unfold rowU at hl ⊢
  show (runsPush _ _ _ _ _).map _ = _
  rw [stepsTo_get (by omega), stepsTo_get (by omega)]
  unfold runsPush
  rw [if_neg (by show ¬ F i y = false; rw [h]; simp)]
  rw [List.getLast?_map] at hl
  cases hc : (cellsOf false (fun x => F x y) (stepsTo W) i).getLast? with
  | none =>
    have : cellsOf false (fun x => F x y) (stepsTo W) i = [] := by simpa using hc
    rw [this]
    simp
    omega
  | some s =>
    dsimp only
    have hne : s.b ≠ i := fun e => hl _ (by rw [hc]; rfl) (by dsimp only; omega)
    rw [if_neg (fun e => hne e.1), List.map_append]
    simp
    omega
theorem rowU_grow {F : Int → Int → Bool} {W i : Nat} {y : Int} (hi : i < W) (h : F i y = true) {L0 : List Rect} {r : Rect} (hc : rowU F W y i = L0 ++ [r]) (hb : r.x + r.w = i) : rowU F W y (i + 1) = L0 ++ [⟨r.x, r.y, r.w + 1, r.h⟩] := by
  unfold rowU at hc ⊢
  obtain ⟨l0, l1, he, h1, h2⟩ := List.map_eq_append_iff.1 hc
  obtain ⟨s, l2, rfl, h3, h4⟩ := List.map_eq_cons_iff.1 h2
  have h5 : l2 = [] := by simpa using h4
  subst h5
  show (runsPush _ _ _ _ _).map _ = _
  rw [stepsTo_get (by omega), stepsTo_get (by omega)]
  unfold runsPush
  rw [if_neg (by show ¬ F i y = false; rw [h]; simp), he, show (l0 ++ [s]).getLast? = some s by simp]
  have hs : s ∈ cellsOf false (fun x => F x y) (stepsTo W) i := by rw [he]; simp
  have hv : s.v = true := by simpa using cellsOf_val i s hs
  have hsb : s.b = i := by rw [← h3] at hb; dsimp only at hb; omega
  dsimp only
  rw [if_pos ⟨hsb, by rw [hv, h]⟩, List.dropLast_concat, List.map_append, h1, ← h3]
  simp
  omega
theorem rowU_length (F : Int → Int → Bool) (W : Nat) (y : Int) (i : Nat) : (rowU F W y i).length ≤ i := by
  unfold rowU
  rw [List.length_map]
  exact cellsOf_length i
theorem rowU_mem {F : Int → Int → Bool} {W : Nat} {y : Int} {i : Nat} (hi : i ≤ W) {r : Rect} (hr : r ∈ rowU F W y i) : 0 ≤ r.x ∧ 0 ≤ r.w ∧ r.x + r.w ≤ i ∧ r.y = y ∧ r.h = 1 := by
  unfold rowU at hr
  obtain ⟨s, hs, rfl⟩ := List.mem_map.1 hr
  have h1 := runs_steps_mem hi hs
  have h2 : s.a < s.b := by
    have h3 := cellsOf_spec (d := false) (F := fun x => F x y) (val := fun x => F x y) (stepsTo_sorted W) (fun j hj z e1 e2 => by
      rw [stepsTo_length] at hj
      rw [stepsTo_get (by omega)] at e1 ⊢
      rw [stepsTo_get (by omega)] at e2
      have : z = j := by omega
      rw [this]) i (by rw [stepsTo_length]; omega)
    exact (runsOk_pos h3.1 s hs).1
  dsimp only
  omega
/-- The rows, each alone, one below the other. -/
def rowsU (F : Int → Int → Bool) (W : Nat) : Nat → List Rect
  | 0 => []
  | j + 1 => rowsU F W j ++ rowU F W (j : Nat) W
theorem rowU_has {F : Int → Int → Bool} {W H : Nat} (hF : Inside F W H) (hW : W ≤ 1048576) (hH : H ≤ 1048576) {j : Nat} (hj : j < H) (x y : Int) : hasL (rowU F W (j : Nat) W) x y = (decide (y = j) && F x y) := by
  have h1 := spansU_spec hF (j : Int)
  rw [Bool.eq_iff_iff, hasL_iff, Bool.and_eq_true, decide_eq_true_eq]
  constructor
  · rintro ⟨r, hr, he, a1, a2, a3, a4⟩
    have hm := rowU_mem (Nat.le_refl _) hr
    have hy : y = j := by omega
    subst hy
    refine ⟨rfl, ?_⟩
    unfold rowU at hr
    obtain ⟨s, hs, rfl⟩ := List.mem_map.1 hr
    dsimp only at a1 a2
    rw [← h1.2 x, runsAt_mem h1.1 s hs x a1 (by omega)]
    simpa using cellsOf_val _ s hs
  · rintro ⟨rfl, h2⟩
    have h3 : runsAt false (spansU F W (j : Int)) x ≠ false := by rw [h1.2 x, h2]; simp
    obtain ⟨s, hs, e1, e2, _⟩ := runsAt_ex h3
    have h4 := runs_steps_mem (Nat.le_refl _) hs
    refine ⟨⟨s.a, j, s.b - s.a, 1⟩, ?_, Rect.empty_iff.2 (by dsimp only; omega), e1, by dsimp only; omega, Int.le_refl _, by dsimp only; omega⟩
    unfold rowU
    exact List.mem_map.2 ⟨s, hs, rfl⟩
theorem hasL_app (a b : List Rect) (x y : Int) : hasL (a ++ b) x y = (hasL a x y || hasL b x y) := by unfold hasL; rw [List.any_append]
theorem rowsU_has {F : Int → Int → Bool} {W H : Nat} (hF : Inside F W H) (hW : W ≤ 1048576) (hH : H ≤ 1048576) : ∀ {j : Nat}, j ≤ H → ∀ x y, hasL (rowsU F W j) x y = (decide (y < j) && F x y)
  | 0, _, x, y => by
    cases h : F x y
    · simp [rowsU, hasL]
    · have := (hF x y h).2
      simp [rowsU, hasL]
      omega
  | j + 1, hj, x, y => by
    have ih := rowsU_has hF hW hH (j := j) (by omega) x y
    show hasL (rowsU F W j ++ _) x y = _
    rw [hasL_app, ih, rowU_has hF hW hH (by omega)]
    cases F x y
    · simp
    · rw [Bool.eq_iff_iff]
      simp
      omega
theorem rowsU_form {F : Int → Int → Bool} {W H : Nat} (hF : Inside F W H) (hW : W ≤ 1048576) (hH : H ≤ 1048576) : listOf 0 (rowsU F W H) [] = listU F W H := listU_form hF fun x y => by
  rw [rowsU_has hF hW hH (Nat.le_refl _)]
  show meant 0 _ false = _
  rw [meant0]
  cases h : F x y
  · simp
  · have := (hF x y h).2
    simp
    omega
theorem rowsU_length (F : Int → Int → Bool) (W : Nat) : ∀ j, (rowsU F W j).length ≤ j * W
  | 0 => by simp [rowsU]
  | j + 1 => by
    have ih := rowsU_length F W j
    have h1 := rowU_length F W (j : Nat) W
    show (rowsU F W j ++ _).length ≤ _
    rw [List.length_append, Nat.succ_mul]
    omega
end Go.Proofs.Ytjghghbldifhaaa
