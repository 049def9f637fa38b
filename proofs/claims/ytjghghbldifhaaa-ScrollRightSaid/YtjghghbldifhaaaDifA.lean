/- Where two pictures are unlike, as a list in form: plain. -/
/- The document's list of where two pictures are unlike: a row, across. Printed by gen_dif.py. -/
/- (*pixbuf.Buf).Diff: where two buffers are unlike. -/
import Derived.Test.YtjghghbldifhaaaRunsG
import Derived.Test.YtjghghbldifhaaaRegC
import Derived.Test.YtjghghbldifhaaaPicA
import Derived.Test.YtjghghbldifhaaaOutA
import Derived.Test.YtjghghbldifhaaaSched
import Derived.Test.YtjghghbldifhaaaRegO
set_option linter.unusedVariables false
set_option linter.unusedSimpArgs false
namespace Go.Proofs.Ytjghghbldifhaaa

/-- The edges of a length's steps. -/
def stepsTo (n : Nat) : List Int := (List.range (n + 1)).map fun i : Nat => (i : Int)
theorem stepsTo_get {n i : Nat} (h : i ≤ n) : (stepsTo n).getD i 0 = (i : Int) := by
  unfold stepsTo
  rw [List.getD_eq_getElem?_getD, List.getElem?_map, List.getElem?_range (by omega)]
  rfl
theorem stepsTo_length (n : Nat) : (stepsTo n).length = n + 1 := by simp [stepsTo]
theorem stepsTo_sorted (n : Nat) : (stepsTo n).Pairwise (· < ·) := by
  unfold stepsTo
  rw [List.pairwise_map]
  exact List.pairwise_lt_range.imp fun h => by omega
theorem stepsTo_mem {n : Nat} {z : Int} : z ∈ stepsTo n ↔ 0 ≤ z ∧ z ≤ n := by
  unfold stepsTo
  rw [List.mem_map]
  constructor
  · rintro ⟨i, hi, rfl⟩
    rw [List.mem_range] at hi
    omega
  · rintro ⟨h1, h2⟩
    exact ⟨z.toNat, by rw [List.mem_range]; omega, by omega⟩
section
variable {α : Type} [DecidableEq α] {d : α}
theorem steps_spec {F : Int → α} {n : Nat} (hF : ∀ z, F z ≠ d → 0 ≤ z ∧ z < n) : runsOk d (cellsOf d F (stepsTo n) n) ∧ ∀ z, runsAt d (cellsOf d F (stepsTo n) n) z = F z := by
  have h1 := cellsOf_spec (d := d) (F := F) (val := F) (stepsTo_sorted n) (fun i hi z h1 h2 => by
    rw [stepsTo_length] at hi
    rw [stepsTo_get (by omega)] at h1 ⊢
    rw [stepsTo_get (by omega)] at h2
    have : z = i := by omega
    rw [this]) n (by rw [stepsTo_length]; omega)
  refine ⟨h1.1, fun z => ?_⟩
  rw [h1.2.2 z, stepsTo_get (Nat.zero_le _), stepsTo_get (Nat.le_refl _)]
  by_cases hz : F z = d
  · rw [hz]; split <;> rfl
  · have := hF z hz
    rw [if_pos (by omega)]
end
/-- A row's runs, and all rows' bands. -/
def spansU (F : Int → Int → Bool) (W : Nat) (y : Int) : List (Run Bool) := cellsOf false (fun x => F x y) (stepsTo W) W
def bandsU (F : Int → Int → Bool) (W : Nat) (H : Nat) : List (Run (List (Run Bool))) := cellsOf [] (spansU F W) (stepsTo H) H
def listU (F : Int → Int → Bool) (W H : Nat) : List Rect := flat (bandsU F W H)
def Inside (F : Int → Int → Bool) (W H : Nat) : Prop := ∀ x y, F x y = true → (0 ≤ x ∧ x < W) ∧ 0 ≤ y ∧ y < H
theorem spansU_spec {F : Int → Int → Bool} {W H : Nat} (hF : Inside F W H) (y : Int) : runsOk false (spansU F W y) ∧ ∀ x, runsAt false (spansU F W y) x = F x y :=
  steps_spec (F := fun x => F x y) fun z hz => (hF z y (by simpa using hz)).1
theorem bandsU_spec {F : Int → Int → Bool} {W H : Nat} (hF : Inside F W H) : runsOk [] (bandsU F W H) ∧ ∀ y, runsAt [] (bandsU F W H) y = spansU F W y :=
  steps_spec (F := spansU F W) fun y hy => by
    refine Classical.byContradiction fun hno => hy ?_
    refine runsAt_none (spansU_spec hF y).1 fun x => ?_
    rw [(spansU_spec hF y).2 x]
    cases h : F x y
    · rfl
    · exact absurd (hF x y h).2 hno
theorem bandsU_ok {F : Int → Int → Bool} {W H : Nat} (hF : Inside F W H) : bandsOk (bandsU F W H) := ⟨(bandsU_spec hF).1, fun y => by rw [(bandsU_spec hF).2 y]; exact (spansU_spec hF y).1⟩
theorem bandsU_pix {F : Int → Int → Bool} {W H : Nat} (hF : Inside F W H) (x y : Int) : pixB (bandsU F W H) x y = F x y := by
  unfold pixB
  rw [(bandsU_spec hF).2 y, (spansU_spec hF y).2 x]
/-- It is the list in form of what has its pixels. -/
theorem listU_form {F : Int → Int → Bool} {W H : Nat} (hF : Inside F W H) {how : Int} {a b : List Rect} (h : ∀ x y, meant how (hasL a x y) (hasL b x y) = F x y) : listOf how a b = listU F W H := by
  unfold listOf listU
  rw [bands_unique (bandsOf_ok how a b) (bandsU_ok hF) fun x y => by rw [bandsOf_pix, bandsU_pix hF, h]]
theorem runs_steps_mem {α : Type} [DecidableEq α] {d : α} {F : Int → α} {n i : Nat} (hi : i ≤ n) {r : Run α} (hr : r ∈ cellsOf d F (stepsTo n) i) : 0 ≤ r.a ∧ r.b ≤ i := by
  induction i generalizing r with
  | zero => simp [cellsOf] at hr
  | succ i ih =>
    rcases runsPush_mem hr with h1 | ⟨_, _, h2, h3⟩
    · have := ih (by omega) h1
      omega
    · rw [stepsTo_get (by omega)] at h2 h3
      rcases h3 with h3 | ⟨s, hs, h3⟩
      · omega
      · have := ih (by omega) hs
        omega
theorem bandsU_in {F : Int → Int → Bool} {W H : Nat} (hW : W ≤ 1048576) (hH : H ≤ 1048576) : bandsIn (bandsU F W H) := fun r hr => by
  have h1 := runs_steps_mem (Nat.le_refl _) hr
  refine ⟨by omega, fun s hs => ?_⟩
  obtain ⟨_, _, u, hu, hv⟩ := cellsOf_mem H (by rw [stepsTo_length]; omega) r hr
  rw [hv] at hs
  have h2 := runs_steps_mem (Nat.le_refl _) hs
  omega
theorem listU_has {F : Int → Int → Bool} {W H : Nat} (hF : Inside F W H) (hW : W ≤ 1048576) (hH : H ≤ 1048576) (x y : Int) : hasL (listU F W H) x y = F x y := by
  unfold listU
  rw [flat_has (bandsU_ok hF) (bandsU_in hW hH), bandsU_pix hF]
theorem listU_self {F : Int → Int → Bool} {W H : Nat} (hF : Inside F W H) (hW : W ≤ 1048576) (hH : H ≤ 1048576) : listOf 0 (listU F W H) [] = listU F W H := listU_form hF fun x y => by
  rw [listU_has hF hW hH]
  exact meant0 _

/-- The first i pixels of a row, as rectangles. -/
def rowU (F : Int → Int → Bool) (W : Nat) (y : Int) (i : Nat) : List Rect := (cellsOf false (fun x => F x y) (stepsTo W) i).map fun s => ⟨s.a, y, s.b - s.a, 1⟩
theorem rowU_skip {F : Int → Int → Bool} {W i : Nat} {y : Int} (hi : i < W) (h : F i y = false) : rowU F W y (i + 1) = rowU F W y i := by
  unfold rowU
  show (runsPush _ _ _ _ _).map _ = _
  rw [stepsTo_get (by omega)]
  unfold runsPush
  rw [if_pos h]
theorem rowU_new {F : Int → Int → Bool} {W i : Nat} {y : Int} (hi : i < W) (h : F i y = true) (hl : ∀ r ∈ (rowU F W y i).getLast?, r.x + r.w ≠ i) : rowU F W y (i + 1) = rowU F W y i ++ [⟨(i : Int), y, 1, 1⟩] := by
  unfold rowU at hl ⊢
  show (runsPush _ _ _ _ _).map _ = _
  rw [stepsTo_get (by omega), stepsTo_get (by omega)]
  unfold runsPush
  rw [if_neg (by show ¬ F i y = false; rw [h]; simp)]
  rw [List.getLast?_map] at hl
  cases hc : (cellsOf false (fun x => F x y) (stepsTo W) i).getLast? with
  | none =>
    have : cellsOf false (fun x => F x y) (stepsTo W) i = [] := by simpa using hc
    rw [this]
    simp
    omega
  | some s =>
    dsimp only
    have hne : s.b ≠ i := fun e => hl _ (by rw [hc]; rfl) (by dsimp only; omega)
    rw [if_neg (fun e => hne e.1), List.map_append]
    simp
    omega
theorem rowU_grow {F : Int → Int → Bool} {W i : Nat} {y : Int} (hi : i < W) (h : F i y = true) {L0 : List Rect} {r : Rect} (hc : rowU F W y i = L0 ++ [r]) (hb : r.x + r.w = i) : rowU F W y (i + 1) = L0 ++ [⟨r.x, r.y, r.w + 1, r.h⟩] := by
  unfold rowU at hc ⊢
  obtain ⟨l0, l1, he, h1, h2⟩ := List.map_eq_append_iff.1 hc
  obtain ⟨s, l2, rfl, h3, h4⟩ := List.map_eq_cons_iff.1 h2
  have h5 : l2 = [] := by simpa using h4
  subst h5
  show (runsPush _ _ _ _ _).map _ = _
  rw [stepsTo_get (by omega), stepsTo_get (by omega)]
  unfold runsPush
  rw [if_neg (by show ¬ F i y = false; rw [h]; simp), he, show (l0 ++ [s]).getLast? = some s by simp]
  have hs : s ∈ cellsOf false (fun x => F x y) (stepsTo W) i := by rw [he]; simp
  have hv : s.v = true := by simpa using cellsOf_val i s hs
  have hsb : s.b = i := by rw [← h3] at hb; dsimp only at hb; omega
  dsimp only
  rw [if_pos ⟨hsb, by rw [hv, h]⟩, List.dropLast_concat, List.map_append, h1, ← h3]
  simp
  omega
theorem rowU_length (F : Int → Int → Bool) (W : Nat) (y : Int) (i : Nat) : (rowU F W y i).length ≤ i := by
  unfold rowU
  rw [List.length_map]
  exact cellsOf_length i
theorem rowU_mem {F : Int → Int → Bool} {W : Nat} {y : Int} {i : Nat} (hi : i ≤ W) {r : Rect} (hr : r ∈ rowU F W y i) : 0 ≤ r.x ∧ 0 ≤ r.w ∧ r.x + r.w ≤ i ∧ r.y = y ∧ r.h = 1 := by
  unfold rowU at hr
  obtain ⟨s, hs, rfl⟩ := List.mem_map.1 hr
  have h1 := runs_steps_mem hi hs
  have h2 : s.a < s.b := by
    have h3 := cellsOf_spec (d := false) (F := fun x => F x y) (val := fun x => F x y) (stepsTo_sorted W) (fun j hj z e1 e2 => by
      rw [stepsTo_length] at hj
      rw [stepsTo_get (by omega)] at e1 ⊢
      rw [stepsTo_get (by omega)] at e2
      have : z = j := by omega
      rw [this]) i (by rw [stepsTo_length]; omega)
    exact (runsOk_pos h3.1 s hs).1
  dsimp only
  omega
/-- The rows, each alone, one below the other. -/
def rowsU (F : Int → Int → Bool) (W : Nat) : Nat → List Rect
  | 0 => []
  | j + 1 => rowsU F W j ++ rowU F W (j : Nat) W
theorem rowU_has {F : Int → Int → Bool} {W H : Nat} (hF : Inside F W H) (hW : W ≤ 1048576) (hH : H ≤ 1048576) {j : Nat} (hj : j < H) (x y : Int) : hasL (rowU F W (j : Nat) W) x y = (decide (y = j) && F x y) := by
  have h1 := spansU_spec hF (j : Int)
  rw [Bool.eq_iff_iff, hasL_iff, Bool.and_eq_true, decide_eq_true_eq]
  constructor
  · rintro ⟨r, hr, he, a1, a2, a3, a4⟩
    have hm := rowU_mem (Nat.le_refl _) hr
    have hy : y = j := by omega
    subst hy
    refine ⟨rfl, ?_⟩
    unfold rowU at hr
    obtain ⟨s, hs, rfl⟩ := List.mem_map.1 hr
    dsimp only at a1 a2
    rw [← h1.2 x, runsAt_mem h1.1 s hs x a1 (by omega)]
    simpa using cellsOf_val _ s hs
  · rintro ⟨rfl, h2⟩
    have h3 : runsAt false (spansU F W (j : Int)) x ≠ false := by rw [h1.2 x, h2]; simp
    obtain ⟨s, hs, e1, e2, _⟩ := runsAt_ex h3
    have h4 := runs_steps_mem (Nat.le_refl _) hs
    refine ⟨⟨s.a, j, s.b - s.a, 1⟩, ?_, Rect.empty_iff.2 (by dsimp only; omega), e1, by dsimp only; omega, Int.le_refl _, by dsimp only; omega⟩
    unfold rowU
    exact List.mem_map.2 ⟨s, hs, rfl⟩
theorem hasL_app (a b : List Rect) (x y : Int) : hasL (a ++ b) x y = (hasL a x y || hasL b x y) := by unfold hasL; rw [List.any_append]
theorem rowsU_has {F : Int → Int → Bool} {W H : Nat} (hF : Inside F W H) (hW : W ≤ 1048576) (hH : H ≤ 1048576) : ∀ {j : Nat}, j ≤ H → ∀ x y, hasL (rowsU F W j) x y = (decide (y < j) && F x y)
  | 0, _, x, y => by
    cases h : F x y
    · simp [rowsU, hasL]
    · have := (hF x y h).2
      simp [rowsU, hasL]
      omega
  | j + 1, hj, x, y => by
    have ih := rowsU_has hF hW hH (j := j) (by omega) x y
    show hasL (rowsU F W j ++ _) x y = _
    rw [hasL_app, ih, rowU_has hF hW hH (by omega)]
    cases F x y
    · simp
    · rw [Bool.eq_iff_iff]
      simp
      omega
theorem rowsU_form {F : Int → Int → Bool} {W H : Nat} (hF : Inside F W H) (hW : W ≤ 1048576) (hH : H ≤ 1048576) : listOf 0 (rowsU F W H) [] = listU F W H := listU_form hF fun x y => by
  rw [rowsU_has hF hW hH (Nat.le_refl _)]
  show meant 0 _ false = _
  rw [meant0]
  cases h : F x y
  · simp
  · have := (hF x y h).2
    simp
    omega
theorem rowsU_length (F : Int → Int → Bool) (W : Nat) : ∀ j, (rowsU F W j).length ≤ j * W
  | 0 => by simp [rowsU]
  | j + 1 => by
    have ih := rowsU_length F W j
    have h1 := rowU_length F W (j : Nat) W
    show (rowsU F W j ++ _).length ≤ _
    rw [List.length_append, Nat.succ_mul]
    omega
end Go.Proofs.Ytjghghbldifhaaa
set_option linter.unusedVariables false
set_option linter.unusedSimpArgs false
namespace Go.Proofs.Ytjghghbldifhaaa
open Go.RowKit

theorem rowU_last {F : Int → Int → Bool} {W : Nat} {y : Int} {i : Nat} (hi : i ≤ W) {L : List Rect} (hL : rowU F W y i = L) (hn : 0 < L.length) : ∃ L0 r, L = L0 ++ [r] ∧ L.length = L0.length + 1 ∧ L[L0.length]? = some r ∧ (0 : Int) ≤ r.x ∧ (0 : Int) ≤ r.w ∧ r.x + r.w ≤ (i : Int) := by
  rcases List.eq_nil_or_concat L with h | ⟨L0, r, h⟩
  · rw [h] at hn; simp at hn
  · rw [List.concat_eq_append] at h
    have hr : r ∈ rowU F W y i := by rw [hL, h]; simp
    have h1 := rowU_mem hi hr
    exact ⟨L0, r, h, by rw [h]; simp, by rw [h, List.getElem?_append_right (Nat.le_refl _)]; simp, h1.1, h1.2.1, h1.2.2.1⟩
/-- The loop over a row's pixels. -/
noncomputable def difB : Code := (Try.f68.body.bind (findBlock 2)).getD .skip

set_option maxRecDepth 100000 in
set_option maxHeartbeats 16000000 in
theorem dif_block (c4 c5 c6 c10 c11 c12 c13 c14 c15 c16 c17 c18 c19 c20 c21 c22 c23 c24 c25 c26 c27 c28 c29 c30 c31 c32 c33 c34 c35 c36 c37 c38 c39 c40 c41 c42 c43 c44 c45 c46 c47 c48 c49 c50 c51 c52 c53 c54 c55 c56 c57 c58 c59 c60 c61 c62 c63 c64 c65 c66 c67 c68 c69 c70 c71 c72 c73 c74 c75 c76 c77 c78 c79 c80 c81 c82 c83 c84 c85 c86 c87 c88 c89 c90 c91 c92 c93 c94 c95 c96 c97 c98 c99 c100 c101 c102 c103 c104 c105 c106 c107 c108 c109 c110 c111 c112 c113 c114 c115 c116 c117 c118 c119 c120 c121 c122 c123 c124 c125 c126 c127 c128 : Value) (w : World) (pb po pc qb qo qc Ba Bb Wn Hn j : Nat) (px qx : List Int) (F : Int → Int → Bool) (K : Act → World → Prop) (Q' : Exit → Act → World → Prop)
    (ka : w.heap[Ba]? = some (.cells #[.int .i64 Wn, .int .i64 Hn, .slice (some ⟨pb, po, none⟩) px.length pc] 43 (0, 0))) (kb : w.heap[Bb]? = some (.cells #[.int .i64 Wn, .int .i64 Hn, .slice (some ⟨qb, qo, none⟩) qx.length qc] 43 (0, 0)))
    (ra : Hid (Reads .u32 w (some ⟨pb, po, none⟩) px)) (rb : Hid (Reads .u32 w (some ⟨qb, qo, none⟩) qx)) (hpx : Hid (px.length = Wn * Hn)) (hqx : Hid (qx.length = Wn * Hn)) (hW : Wn ≤ 256) (hH : Hn ≤ 256) (hj : j < Hn)
    (hF : Hid (∀ i j : Nat, i < Wn → j < Hn → F i j = (px.getD (j * Wn + i) 0 != qx.getD (j * Wn + i) 0)))
    (hK : ∀ (u9 u17 u18 u19 u20 u21 u22 u23 u24 u25 u26 u27 u28 u29 u30 u31 u32 u33 u34 u35 u36 u37 u38 u39 u40 u41 u42 u43 u44 u45 u46 u47 u48 u49 u50 u51 u52 u53 u54 u55 u56 u57 u58 u59 u60 u61 u62 u63 u64 u65 u66 u67 u68 u69 u70 u71 u72 u73 u74 u75 u76 u77 u78 u79 u80 u81 : Value) (B : Option Addr) (d : Nat) (w' : World), OwnR w' w.heap.size (.slice B (rowU F Wn j Wn).length d) (rowU F Wn j Wn) → (B = none → d = 0) → Ext w w' → K { tmps := #[.agg #[.int .i64 Wn, .int .i64 Hn, .slice (some ⟨pb, po, none⟩) px.length pc], .agg #[.int .i64 Wn, .int .i64 Hn, .slice (some ⟨qb, qo, none⟩) qx.length qc], .pointer (some ⟨Ba, 0, none⟩), .pointer (some ⟨Bb, 0, none⟩), c4, c5, c6, .int .i64 (j : Nat), .slice B (rowU F Wn j Wn).length d, u9, c10, c11, c12, c13, c14, c15, c16, u17, u18, u19, u20, u21, u22, u23, u24, u25, u26, u27, u28, u29, u30, u31, u32, u33, u34, u35, u36, u37, u38, u39, u40, u41, u42, u43, u44, u45, u46, u47, u48, u49, u50, u51, u52, u53, u54, u55, u56, u57, u58, u59, u60, u61, u62, u63, u64, u65, u66, u67, u68, u69, u70, u71, u72, u73, u74, u75, u76, u77, u78, u79, u80, u81, c82, c83, c84, c85, c86, c87, c88, c89, c90, c91, c92, c93, c94, c95, c96, c97, c98, c99, c100, c101, c102, c103, c104, c105, c106, c107, c108, c109, c110, c111, c112, c113, c114, c115, c116, c117, c118, c119, c120, c121, c122, c123, c124, c125, c126, c127, c128], defers := [] } w') :
    Code.wp Try.prog difB (Exit.then K Q') { tmps := #[.agg #[.int .i64 Wn, .int .i64 Hn, .slice (some ⟨pb, po, none⟩) px.length pc], .agg #[.int .i64 Wn, .int .i64 Hn, .slice (some ⟨qb, qo, none⟩) qx.length qc], .pointer (some ⟨Ba, 0, none⟩), .pointer (some ⟨Bb, 0, none⟩), c4, c5, c6, .int .i64 (j : Nat), .slice none 0 0, .int .i64 0, c10, c11, c12, c13, c14, c15, c16, c17, c18, c19, c20, c21, c22, c23, c24, c25, c26, c27, c28, c29, c30, c31, c32, c33, c34, c35, c36, c37, c38, c39, c40, c41, c42, c43, c44, c45, c46, c47, c48, c49, c50, c51, c52, c53, c54, c55, c56, c57, c58, c59, c60, c61, c62, c63, c64, c65, c66, c67, c68, c69, c70, c71, c72, c73, c74, c75, c76, c77, c78, c79, c80, c81, c82, c83, c84, c85, c86, c87, c88, c89, c90, c91, c92, c93, c94, c95, c96, c97, c98, c99, c100, c101, c102, c103, c104, c105, c106, c107, c108, c109, c110, c111, c112, c113, c114, c115, c116, c117, c118, c119, c120, c121, c122, c123, c124, c125, c126, c127, c128], defers := [] } w := by
  conv => arg 2; whnf
  have hb1 : j * Wn + Wn ≤ Wn * Hn := by
    have := Nat.mul_le_mul_right Wn (show j + 1 ≤ Hn from hj)
    rw [Nat.succ_mul, Nat.mul_comm Hn] at this
    exact this
  have hb2 : Wn * Hn ≤ 256 * 256 := Nat.mul_le_mul hW hH
  go_wp2_with fail
  go_loopw [8, 9] (fun v iv wr => ∃ (i : Nat) (B : Option Addr) (d : Nat), i ≤ Wn ∧ iv = .int .i64 i ∧ v = .slice B (rowU F Wn j i).length d ∧ OwnR wr w.heap.size (.slice B (rowU F Wn j i).length d) (rowU F Wn j i) ∧ (B = none → d = 0) ∧ Ext w wr) (fun _ iv _ => Wn - (intOf iv).toNat)
  case atStart => exact ⟨0, none, 0, Nat.zero_le _, rfl, rfl, World.ownsRow_nil _ _ _ _, fun _ => rfl, Ext.refl _⟩
  case round =>
    obtain ⟨i, B, d, hi, rfl, rfl, hown, hnil, hE⟩ := hrel
    obtain ⟨c0, f0⟩ := blk_rules (hE.keep ka)
    obtain ⟨c1, f1⟩ := blk_rules (hE.keep kb)
    by_cases hlt : i < Wn
    · have hLn := rowU_length F Wn j i
      obtain ⟨L, hL⟩ : ∃ L, rowU F Wn j i = L := ⟨_, rfl⟩
      rw [hL] at hown hLn
      simp only [hL]
      obtain ⟨k, hk⟩ : ∃ k, j * Wn + i = k := ⟨_, rfl⟩
      have hkn : k < px.length := by rw [hpx.out]; omega
      have hkm : k < qx.length := by rw [hqx.out]; omega
      have hbn : px.length ≤ 65536 := by rw [hpx.out]; omega
      have hbm : qx.length ≤ 65536 := by rw [hqx.out]; omega
      obtain ⟨b1, o1, e1, hp⟩ := (ra.out.ext hE).form (by omega)
      obtain ⟨b2, o2, e2, hq⟩ := (rb.out.ext hE).form (by omega)
      injection e1 with e1; injection e1 with e1 e1'; subst e1; subst e1'
      injection e2 with e2; injection e2 with e2 e2'; subst e2; subst e2'
      have gp := hp k hkn
      have gq := hq k hkm
      have hv := hF.out i j hlt hj
      rw [hk] at hv
      have s1 : IntKind.i64.wrap ((j : Int) * (Wn : Int)) = (j : Int) * (Wn : Int) := IntWalk.i64_in _ (by rw [← Int.natCast_mul]; omega)
      have s2 : IntKind.i64.wrap ((j : Int) * (Wn : Int) + (i : Int)) = (k : Int) := by
        rw [← Int.natCast_mul, ← Int.natCast_add, hk]
        exact IntWalk.i64_in _ (by omega)
      have HLL := Lib.hid hL
      have HO := Lib.hid hown
      have HNIL := Lib.hid hnil
      generalize px.getD k 0 = v1 at *
      generalize qx.getD k 0 = v2 at *
      have kk1 : ((k : Nat) : Int) < (px.length : Int) := by omega
      have kk2 : ((k : Nat) : Int) < (qx.length : Int) := by omega
      clear hp hq hL hown hnil hk hb1
      cases hvv : (v1 != v2)
      · rw [hvv] at hv
        have hsk := rowU_skip hlt hv
        rw [HLL.out] at hsk
        have HSK := Lib.hid hsk
        have hve : (v1 == v2) = true := by simpa using hvv
        clear hv hsk hvv
        go_wp2_with fail
        go_quiet (fail)
        have hE2 := hE.drewN nq
        have HO2 : Hid (OwnR (wr.drewN nq) w.heap.size (.slice B L.length d) L) := Lib.hid HO.out
        go_wp2_with fail
        exact ⟨⟨i + 1, B, d, by omega, by go_num, by rw [HSK.out], by rw [HSK.out]; exact HO2.out, HNIL.out, hE2⟩, by simp [intOf]; omega⟩
      · rw [hvv] at hv
        have hve : (v1 == v2) = false := by simpa using hvv
        have HV := Lib.hid hv
        clear hv hvv
        go_wp2_with fail
        go_quiet (fail)
        have HO2 : Hid (OwnR (wr.drewN nq) w.heap.size (.slice B L.length d) L) := Lib.hid HO.out
        replace hE := hE.drewN nq
        clear c0 f0 c1 f1 gp gq HO hve s1 s2
        generalize wr.drewN nq = w1 at *
        have r1 := HO2.out
        by_cases hl0 : L.length = 0
        · have hLe : L = [] := List.eq_nil_of_length_eq_zero hl0
          have hnew := rowU_new hlt HV.out (by rw [HLL.out, hLe]; intro r hr; cases hr)
          rw [HLL.out] at hnew
          have HN := Lib.hid hnew
          clear hnew r1 hLe
          have dl2 : decide ((0 : Int) < ((L.length : Nat) : Int)) = false := by rw [decide_eq_false_iff_not]; omega
          go_wp2_with fail
          go_quiet (fail)
          have HO3 : Hid (OwnR (w1.drewN nq) w.heap.size (.slice B L.length d) L) := Lib.hid HO2.out
          replace hE := hE.drewN nq
          clear dl2 HO2
          generalize w1.drewN nq = w2 at *
          have hown7 := HO3.out
          have hz7 := hE.size
          go_wp2_with (first | (refine wpList_app w.heap.size rfl (.tmp 76) (.tmp 80) 22 26 (.agg #[.int .i64 0, .int .i64 0, .int .i64 0, .int .i64 0]) 4 32 rfl Try.underlying22 info_rect rfl (by decide) (by decide) (.slice B L.length d) L.length (rcells L) rfl (World.ownsRow.alloc hown7 _) (some ⟨w2.heap.size, 0, none⟩) 1 1 (rcell ⟨(i : Int), (j : Int), 1, 1⟩) rfl (fun h => by cases h) rfl (fun _ => ⟨_, rfl, World.news_of_block (blk_new w2 _)⟩) (by simp [rcell, Value.oneCell']) (by omega) (by simp; omega) (fun v' w5 hr5 hg5 => ?_); obtain ⟨B5, d5, rfl⟩ := row_slice hr5))
          have hr6 : OwnR w5 w.heap.size (.slice B5 (L ++ [(⟨(i : Int), (j : Int), 1, 1⟩ : Rect)]).length d5) (L ++ [(⟨(i : Int), (j : Int), 1, 1⟩ : Rect)]) := by
            unfold OwnR
            rw [List.length_append, show rcells (L ++ [⟨(i : Int), (j : Int), 1, 1⟩]) = rcells L ++ rcell ⟨(i : Int), (j : Int), 1, 1⟩ by simp [rcells]]
            exact hr5
          have hE5 : Ext w w5 := row_ext (World.ownsRow.alloc hown7 _) (hE.alloc _) hg5
          have hnil5 : B5 = none → d5 = 0 := fun h => by
            subst h
            obtain ⟨g, e, _⟩ := row_form hr6 (by simp)
            cases e
          clear hr5 hg5 hown7
          go_wp2_with fail
          exact ⟨⟨i + 1, B5, d5, by omega, by go_num, by rw [HN.out]; first | (simp; done) | (simp [hlen]; done) | (simp [List.eq_nil_of_length_eq_zero hl0]; done), by rw [HN.out]; exact hr6, hnil5, hE5⟩, by simp [intOf]; omega⟩
        · obtain ⟨L0, r, hLr, hLm, hlast, hr0, hr1, hr2⟩ := rowU_last hi HLL.out (by omega)
          obtain ⟨g, rfl, hgb⟩ := row_form r1 (by omega)
          have q0 := (World.ownsRow.cellAt r1 (L0.length * 4 + 0) (by omega)).trans (rcells_get hlast 0 (by decide))
          have q2 := (World.ownsRow.cellAt r1 (L0.length * 4 + 2) (by omega)).trans (rcells_get hlast 2 (by decide))
          simp only [rcell, List.getElem?_cons_zero, List.getElem?_cons_succ, Nat.add_zero] at q0 q2
          obtain ⟨m, hm⟩ : ∃ m, L0.length = m := ⟨_, rfl⟩
          rw [hm] at q0 q2 hLm
          have e1 : ((m : Int) + 1) - 1 = m := by omega
          have e4 : IntKind.i64.wrap (m : Int) = m := IntWalk.i64_in _ (by omega)
          have e5 : IntKind.i64.wrap ((m : Int) + 1 - 1) = m := by rw [e1]; exact e4
          have e6 : (m : Int) < (m : Int) + 1 := by omega
          have e3 : IntKind.i64.wrap (r.x + r.w) = r.x + r.w := IntWalk.i64_in _ (by omega)
          have HLR := Lib.hid hLr
          have HM := Lib.hid hm
          have HLM := Lib.hid hLm
          by_cases hsx : r.x + r.w = i
          · have hgr := rowU_grow hlt HV.out (HLL.out.trans hLr) hsx
            have hst := (World.ownsRow.stored r1 (m * 4 + 2) (.int .i64 (r.w + 1))).1
            rw [hLr, rcells_setw hm, ← hLr] at hst
            have hgn : (rowU F Wn j (i + 1)).length = L.length := by rw [hgr, hLr]; simp
            rw [← hgr] at hst
            have HST := Lib.hid hst
            have HGN := Lib.hid hgn
            have HR := Lib.hid r1
            have hsx1 : ((r.x + r.w) == (i : Int)) = true := by simpa using hsx
            have e7 : IntKind.i64.wrap (r.w + 1) = r.w + 1 := IntWalk.i64_in _ (by omega)
            clear hgr hst hgn r1 hLr hlast hsx hm hLm
            have hlen := HLM.out
            simp only [hlen]
            go_wp2_with fail
            go_quiet (fail)
            have HST2 := HST
            replace HR : Hid (OwnR (w1.drewN nq) w.heap.size (.slice (some ⟨g, 0, none⟩) L.length d) L) := Lib.hid HR.out
            replace q2 : (w1.drewN nq).cell? _ = _ := q2
            replace hE := hE.drewN nq
            have HST3 : Hid (((w1.drewN nq).setCell ⟨g, m * 4 + 2, none⟩ (.int .i64 (r.w + 1))).ownsRow w.heap.size 26 4 (.slice (some ⟨g, 0, none⟩) L.length d) L.length (rcells (rowU F Wn j (i + 1)))) := Lib.hid HST.out
            clear q0 HO2 HST HST2 hsx1
            generalize w1.drewN nq = w2 at *
            have hrf := fun j => World.ownsRow.frozenAt HR.out j
            have hgl : g < w2.heap.size := (World.ownsRow.lt HR.out g (by simp [Value.ownBlock])).2
            go_wp2_with fail
            have hset := hE.set (p := ⟨g, m * 4 + 2, none⟩) (by simpa using hgb) (.int .i64 (r.w + 1))
            exact ⟨⟨i + 1, some ⟨g, 0, none⟩, d, by omega, by go_num, by rw [HGN.out, hlen], by unfold OwnR; rw [HGN.out]; exact HST3.out, fun h => (by cases h), hset⟩, by simp [intOf]; omega⟩
          · have hsx1 : ((r.x + r.w) == (i : Int)) = false := by simpa using hsx
            have hnew := rowU_new hlt HV.out (by rw [HLL.out, hLr]; intro t ht; simp at ht; rw [← ht]; exact hsx)
            rw [HLL.out] at hnew
            have HN := Lib.hid hnew
            clear hnew r1 hLr hlast hsx hm hLm
            have hlen := HLM.out
            simp only [hlen]
            go_wp2_with fail
            go_quiet (fail)
            have HO3 : Hid (OwnR (w1.drewN nq) w.heap.size (.slice (some ⟨g, 0, none⟩) L.length d) L) := Lib.hid HO2.out
            replace hE := hE.drewN nq
            clear HO2 q0 q2 e1 e3 e4 e5 e6 hsx1
            generalize w1.drewN nq = w2 at *
            simp only [← hlen]
            have hown7 := HO3.out
            have hz7 := hE.size
            go_wp2_with (first | (refine wpList_app w.heap.size rfl (.tmp 76) (.tmp 80) 22 26 (.agg #[.int .i64 0, .int .i64 0, .int .i64 0, .int .i64 0]) 4 32 rfl Try.underlying22 info_rect rfl (by decide) (by decide) (.slice (some ⟨g, 0, none⟩) L.length d) L.length (rcells L) rfl (World.ownsRow.alloc hown7 _) (some ⟨w2.heap.size, 0, none⟩) 1 1 (rcell ⟨(i : Int), (j : Int), 1, 1⟩) rfl (fun h => by cases h) rfl (fun _ => ⟨_, rfl, World.news_of_block (blk_new w2 _)⟩) (by simp [rcell, Value.oneCell']) (by omega) (by simp; omega) (fun v' w5 hr5 hg5 => ?_); obtain ⟨B5, d5, rfl⟩ := row_slice hr5))
            have hr6 : OwnR w5 w.heap.size (.slice B5 (L ++ [(⟨(i : Int), (j : Int), 1, 1⟩ : Rect)]).length d5) (L ++ [(⟨(i : Int), (j : Int), 1, 1⟩ : Rect)]) := by
              unfold OwnR
              rw [List.length_append, show rcells (L ++ [⟨(i : Int), (j : Int), 1, 1⟩]) = rcells L ++ rcell ⟨(i : Int), (j : Int), 1, 1⟩ by simp [rcells]]
              exact hr5
            have hE5 : Ext w w5 := row_ext (World.ownsRow.alloc hown7 _) (hE.alloc _) hg5
            have hnil5 : B5 = none → d5 = 0 := fun h => by
              subst h
              obtain ⟨g, e, _⟩ := row_form hr6 (by simp)
              cases e
            clear hr5 hg5 hown7
            go_wp2_with fail
            exact ⟨⟨i + 1, B5, d5, by omega, by go_num, by rw [HN.out]; first | (simp; done) | (simp [hlen]; done) | (simp [List.eq_nil_of_length_eq_zero hl0]; done), by rw [HN.out]; exact hr6, hnil5, hE5⟩, by simp [intOf]; omega⟩
    · obtain rfl : i = Wn := by omega
      have HX := Lib.hid hown
      have HNIL := Lib.hid hnil
      clear hown hnil
      go_wp2_with fail
      exact hK _ _ _ _ _ _ _ _ _ _ _ _ _ _ _ _ _ _ _ _ _ _ _ _ _ _ _ _ _ _ _ _ _ _ _ _ _ _ _ _ _ _ _ _ _ _ _ _ _ _ _ _ _ _ _ _ _ _ _ _ _ _ _ _ _ _ B d wr HX.out HNIL.out hE
end Go.Proofs.Ytjghghbldifhaaa
set_option linter.unusedVariables false
set_option linter.unusedSimpArgs false
namespace Go.Proofs.Ytjghghbldifhaaa
open Go.RowKit Go.Shelf
attribute [local go_sem] Oper.semAt_some

theorem and_whole {W H : Int} (h1 : 1 ≤ W) (h2 : W ≤ 256) (h3 : 1 ≤ H) (h4 : H ≤ 256) : Rect.and ⟨0, 0, W, H⟩ ⟨0, 0, W, H⟩ = ⟨0, 0, W, H⟩ := by
  have he : Rect.empty ⟨0, 0, W, H⟩ = false := Rect.empty_iff.2 (by dsimp only; omega)
  have hm : Rect.meet ⟨0, 0, W, H⟩ ⟨0, 0, W, H⟩ = ⟨0, 0, W, H⟩ := by
    unfold Rect.meet
    simp only [mx_eq, mn_eq]
    congr 1 <;> omega
  rw [Rect.and_meet he he, hm]
  · rw [hm]; dsimp only; omega
  · rw [hm]; dsimp only; omega
def rowsL (F : Int → Int → Bool) (W : Nat) (l : List Nat) : List Rect := l.flatMap fun j => rowU F W (j : Nat) W
theorem rowsL_range (F : Int → Int → Bool) (W : Nat) : ∀ n, rowsL F W (List.range n) = rowsU F W n
  | 0 => rfl
  | n + 1 => by
    show _ = rowsU F W n ++ _
    rw [← rowsL_range F W n, List.range_succ]
    simp [rowsL]
theorem rowsL_length (F : Int → Int → Bool) (W : Nat) : ∀ l, (rowsL F W l).length ≤ l.length * W
  | [] => by simp [rowsL]
  | j :: l => by
    have h1 := rowsL_length F W l
    have h2 := rowU_length F W (j : Nat) W
    show (rowU F W (j : Nat) W ++ rowsL F W l).length ≤ _
    rw [List.length_append, List.length_cons, Nat.succ_mul]
    omega
set_option maxRecDepth 100000 in
set_option maxHeartbeats 16000000 in
theorem diff_good {w : World} {base bb bp cap base' b2 p2 cap2 Wn Hn : Nat} {px qx : List Int} (hB : BufAt 117 58 w base bb bp cap Wn Hn px) (hC : BufAt 117 58 w base' b2 p2 cap2 Wn Hn qx) (F : Int → Int → Bool)
    (hF : Hid (∀ i j : Nat, i < Wn → j < Hn → F i j = (px.getD (j * Wn + i) 0 != qx.getD (j * Wn + i) 0))) (hin : Inside F Wn Hn) :
    Calls Try.prog 63 #[.pointer (some ⟨bb, 0, none⟩), .pointer (some ⟨b2, 0, none⟩)] w fun e w' => ∃ B d, e = .returned (.tuple #[.slice B (listU F Wn Hn).length d, .int .i64 0]) ∧ OwnR w' w.heap.size (.slice B (listU F Wn Hn).length d) (listU F Wn Hn) ∧ (B = none → d = 0) ∧ Ext w w' := by
  have hlen := hB.len
  have hlen2 := hC.len
  have hw1 := hB.w1
  have hw2 := hB.w2
  have hh1 := hB.h1
  have hh2 := hB.h2
  have hz1 := blk_lt hB.head
  have hz2 := blk_lt hC.head
  have HB := Lib.hid hB
  have HC := Lib.hid hC
  obtain ⟨c0, f0⟩ := blk_rules hB.head
  obtain ⟨c1, f1⟩ := blk_rules hC.head
  have d1 : ((Wn : Int) != (Wn : Int)) = false := by simp
  have d2 : ((Hn : Int) != (Hn : Int)) = false := by simp
  have HLEN := Lib.hid hlen
  have HLEN2 := Lib.hid hlen2
  clear hB hC hlen hlen2
  refine (callsIn_wide (n := 5)).1 ?_
  refine callsIn_of_wp_marks Try.func63 rfl trivial ?_ rfl
  simp only [Try.ntmps63, List.size_toArray, List.length_cons, List.length_nil, Nat.reduceAdd, Nat.reduceSub, Array.replicate_succ, Array.replicate_zero, List.push_toArray, List.append_toArray, List.nil_append, List.cons_append]
  gi_wp2
  refine wpIn_wide.2 ?_
  go_quiet (fail)
  gi_wp2
  clear c0 f0 c1 f1 d1 d2
  generalize hwv : ((w.alloc (.cells #[.pointer (some ⟨bb, 0, none⟩)] 60)).alloc (.cells #[.pointer (some ⟨b2, 0, none⟩)] 60)).drewN nq = wv
  have hEv : Ext w wv := by rw [← hwv]; exact (((Ext.refl w).alloc _).alloc _).drewN nq
  have kb : wv.heap[w.heap.size]? = some (.cells #[.pointer (some ⟨bb, 0, none⟩)] 60 (0, 0)) := by rw [← hwv]; exact blk_old (blk_new w _) _
  have kc : wv.heap[w.heap.size + 1]? = some (.cells #[.pointer (some ⟨b2, 0, none⟩)] 60 (0, 0)) := by rw [← hwv]; exact blk_new1 w _ _
  have hsv : wv.heap.size = w.heap.size + 1 + 1 := by rw [← hwv]; simp [World.drewN]
  clear hwv
  have hE1 : Ext wv (wv.alloc (.cells #[.slice none 0 0] 22)) := (Ext.refl wv).alloc _
  have ko1 : (wv.alloc (.cells #[.slice none 0 0] 22)).heap[w.heap.size + 1 + 1]? = some (.cells #[.slice none 0 0] 22 (0, 0)) := by rw [← hsv]; exact blk_new wv _
  generalize wv.alloc (.cells #[.slice none 0 0] 22) = w1 at *
  have j0 := fun x : After w1 => (blk_rules (x.ext.keep (hE1.keep kb))).1
  refine wpIn_wide.2 ?_
  refine wp_region_sched (fun w' => ∃ x : After w1, w' = x.now) (by kernel_rfl) ?_
  refine held_take [0, 1] _ _ 2 rfl (by kernel_rfl) rfl (by kernel_rfl) ⟨⟨w1.drew, (Ext.refl w1).drew⟩, rfl⟩ ?_
  simp only [List.filterMap_cons, List.filterMap_nil, List.getElem?_toArray, List.getElem?_cons_succ, List.getElem?_cons_zero]
  repeat (quiet_step (fail))
  refine wpQuiet_nil ?_
  clear j0
  refine held_step (k := 2) rfl (by kernel_rfl) ?_
  go_wp2_with fail
  refine (all_any ((HB.out.ext (hEv.trans hE1)).ext (Ext.refl w1).drew)).mono ?_
  rintro e w2 ⟨rfl, E⟩
  have hE2 : Ext w1 w2 := (Ext.refl w1).drew.trans E
  clear E
  go_wp2_with fail
  refine ⟨⟨⟨w2, hE2⟩, rfl⟩, ?_⟩
  refine held_step (k := 3) rfl (by kernel_rfl) ?_
  go_wp2_with fail
  refine (rows_any _ _ _ _ _ _).mono ?_
  rintro e w3 ⟨rfl, hw3⟩
  have hE3 : Ext w2 w3 := by rw [← hw3]; exact ((Ext.refl w2).alloc _).alloc _
  have kr0 : w3.heap[w2.heap.size]? = some (.cells #[.pointer (some ⟨bb, 0, none⟩)] 60 (0, 0)) := by rw [← hw3]; exact blk_old (blk_new w2 _) _
  have kr1 : w3.heap[w2.heap.size + 1]? = some (.cells #[.int .i64 0, .int .i64 0, .int .i64 Wn, .int .i64 Hn] 26 (0, 0)) := by rw [← hw3]; exact blk_new1 w2 _ _
  have hs3 : w3.heap.size = w2.heap.size + 2 := by rw [← hw3]; simp
  clear hw3
  go_wp2_with fail
  refine ⟨⟨⟨w3, hE2.trans hE3⟩, rfl⟩, ?_⟩
  refine held_done (by kernel_rfl) ?_
  have hEw3 : Ext wv w3 := hE1.trans (hE2.trans hE3)
  have ko : w3.heap[w.heap.size + 1 + 1]? = some (.cells #[.slice none 0 0] 22 (0, 0)) := (hE2.trans hE3).keep ko1
  have z1 := blk_lt ko1
  have z2 := hE2.size
  have hO0 : OutAt wv w3 (w.heap.size + 1 + 1) w3.heap.size [] none 0 := ⟨ko, World.ownsRow_nil _ _ _ _, by omega, by omega, hEw3, Nat.le_refl _⟩
  have hHn : Hn ≤ 256 := by omega
  have hWn : Wn ≤ 256 := by omega
  have hrl : ∀ j, j ≤ Hn → (rowsU F Wn j).length ≤ 65536 := fun j hj => by
    have h1 := rowsU_length F Wn j
    have h2 : j * Wn ≤ 256 * 256 := Nat.mul_le_mul (by omega) (by omega)
    omega
  have hand := and_whole hw1 hw2 hh1 hh2
  have hN : ((Hn : Nat) : Int) = (Rect.and ⟨0, 0, Wn, Hn⟩ ⟨0, 0, Wn, Hn⟩).h := by rw [hand]
  have hargs : ∀ i : Nat, rowArgs bp Wn (Rect.and ⟨0, 0, Wn, Hn⟩ ⟨0, 0, Wn, Hn⟩) i = #[.int .i64 i, .slice (some ⟨bp, i * Wn, none⟩) Wn Wn] := fun i => by
    rw [hand]
    unfold rowArgs rowAt
    dsimp only
    have e1 : ((0 + (i : Int)) * (Wn : Int) + 0).toNat = i * Wn := by rw [Int.zero_add, Int.add_zero, ← Int.natCast_mul, Int.toNat_natCast]
    rw [e1, Int.zero_add, Int.toNat_natCast]
  have HRL := Lib.hid hrl
  have HARGS := Lib.hid hargs
  have HIN := Lib.hid hin
  have HN := Lib.hid hN
  clear hrl hargs hand hin hN
  gi_wp2
  refine wpIn_rangeFunc_ownF (F := Fence.wide) (n := 5) (α := Fin Hn) rfl (by decide) (gf := 127) (lb := #[.pointer (some ⟨w2.heap.size + 1, 0, none⟩), .pointer (some ⟨w2.heap.size, 0, none⟩)]) rfl trivial (enters_of Try.func127 (by kernel_rfl) rfl)
    (encs := fun i => #[.int .i64 (i.val : Nat), .slice (some ⟨bp, i.val * Wn, none⟩) Wn Wn]) (Kp := KeptO (w.heap.size + 1 + 1)) (S := fun ys => ys.map Fin.val = List.range Hn) (Sp := fun _ => True) (N := Hn) (w0 := w3) ?seq KeptO.trans (fun W l o o' hl h ho _ => keptO_b _ W l o o' (by omega) h ho) (Below.refl _ _) (fun _ => rfl)
    (fun pre W1 => ∃ B d, OutAt wv W1 (w.heap.size + 1 + 1) w3.heap.size (rowsL F Wn (pre.map Fin.val)) B d)
    (fun _ _ _ => False)
    (fun s A' B' row hs hg hr => by
      obtain ⟨B, d, hs⟩ := hs
      exact ⟨B, d, hs.turn hg (fun r e => (hr r e).2) (fun r e => Nat.le_trans (by omega) (hr r e).1)⟩)
    (fun _ _ _ _ _ hs _ _ => hs)
    ⟨none, 0, hO0⟩
    (fun i => { tmps := #[.pointer (some ⟨bb, 0, none⟩), .pointer (some ⟨b2, 0, none⟩), .pointer (some ⟨w.heap.size, 0, none⟩), .pointer (some ⟨w.heap.size + 1, 0, none⟩), .slice none 0 0, .int .i64 0, .pointer (some ⟨w.heap.size + 1 + 1, 0, none⟩), .int .i64 (i.val : Nat), .slice (some ⟨bp, i.val * Wn, none⟩) Wn Wn, undef, undef, undef, undef, .bool false, .pointer (some ⟨bb, 0, none⟩), .bool false, .bool false, .pointer (some ⟨b2, 0, none⟩), .bool false, .bool false, .bool false, .pointer (some ⟨bb, 0, none⟩), .pointer (some ⟨bb, 0, none⟩), .pointer (some ⟨bb, 0, none⟩), .int .i64 Wn, .pointer (some ⟨b2, 0, none⟩), .pointer (some ⟨b2, 0, none⟩), .pointer (some ⟨b2, 0, none⟩), .int .i64 Wn, .bool false, .bool false, .pointer (some ⟨bb, 0, none⟩), .pointer (some ⟨bb, 0, none⟩), .pointer (some ⟨bb, 1, none⟩), .int .i64 Hn, .pointer (some ⟨b2, 0, none⟩), .pointer (some ⟨b2, 0, none⟩), .pointer (some ⟨b2, 1, none⟩), .int .i64 Hn, .bool false, .bool false, .pointer (some ⟨bb, 0, none⟩), .pointer (some ⟨bb, 0, none⟩), .agg #[.int .i64 0, .int .i64 0, .int .i64 Wn, .int .i64 Hn], .func (.func 127) #[] #[.pointer (some ⟨w2.heap.size + 1, 0, none⟩), .pointer (some ⟨w2.heap.size, 0, none⟩)], .int .i64 (i.val : Nat), .slice (some ⟨bp, i.val * Wn, none⟩) Wn Wn, undef, undef, undef, undef, undef, undef, undef, undef, undef, undef, undef, undef, undef, undef, undef, undef, undef, undef, undef, undef, undef, undef, undef, undef, undef, undef, undef, undef, undef, undef, undef, undef, undef, undef, undef, undef, undef, undef, undef, undef, undef, undef, undef, undef, undef, undef, undef, undef, undef, undef, undef, undef, undef, undef, undef, undef, undef, undef, undef, undef, undef, undef, undef, undef, undef], defers := [] }) ?assign ?body ?done ?stop
  case seq =>
    intro l J Jx W1 hW hJ _ hY h0
    refine (rowsO_in 4 (by decide) l _ _ base bb bp cap Wn Hn px 0 0 Wn Hn Hn HN.out J Jx W1 (w.heap.size + 1 + 1) ?_ ?_ ?_ ?_ hJ (by simp only [HARGS.out]; exact hY) (((HB.out.ext hEv).ext hEw3).ext hW) (Ext.keep hW kr0) (Ext.keep hW kr1) h0).mono ?_
    · have := hW.size
      have := hEw3.size
      omega
    · exact blk_cell (Ext.keep hW ko) 0
    · omega
    · omega
    rintro e W' ⟨he, ⟨ys, h1, h2⟩ | ⟨pre, h2⟩⟩
    · exact ⟨he, .inl ⟨ys, h1, h2⟩⟩
    · exact ⟨he, .inr ⟨pre, trivial, h2⟩⟩
  case assign =>
    intro l i W1 K hK
    gi_wp2
    exact hK
  case done =>
    rintro D ys W1 hD hys ⟨B, d, hO⟩ hK
    obtain ⟨c3, f3⟩ := blk_rules hO.kout
    rw [hys, rowsL_range] at hO c3
    have hrl := HRL.out Hn (Nat.le_refl _)
    have hform := rowsU_form HIN.out (by omega) (by omega)
    obtain ⟨L, hL⟩ : ∃ L, rowsU F Wn Hn = L := ⟨_, rfl⟩
    rw [hL] at hO c3 hrl hform
    have HOO := Lib.hid hO
    have HRA := Lib.hid (OwnR.at hO.own)
    have HFORM := Lib.hid hform
    have hcon := of_to (ca := d) hform HRA (by omega)
    clear hO hform hL
    gi_wp2
    refine ⟨trivial, (callsIn_wide.2 hcon).mono ?_⟩
    rintro e w5 ⟨B5, d5, rfl, ho5, hn5, E5⟩
    gi_wp2
    refine ⟨by simp, .inl ⟨_, _, rfl, run_takeDeferred (E5.keep hK), ?_⟩⟩
    have hg := grownBy_putObj' w5 D (.deferred none)
    have hr : ∀ r, some D = some r → ∃ o : Obj, w5.heap[r]? = some o ∧ o.isCells = false := fun r e => by cases e; exact ⟨_, E5.keep hK, rfl⟩
    have hEf : Ext w W1 := hEv.trans HOO.out.ext
    have hz := hEw3.size
    refine ⟨_, results_tmp2 rfl _ _ _, B5, d5, rfl, World.ownsRow.base_le (row_turnA hg hr ho5) hEf.size, hn5, Below.grown (hEf.trans E5) hg (hEf.trans E5).size (fun r e => by cases e; omega)⟩
  case stop =>
    rintro D c pre W1 _ _ h _
    exact h.elim
  case body =>
    rintro l pre i W ⟨B, d, hO⟩ hlt
    have hsn : rowsL F Wn ((pre ++ [i]).map Fin.val) = rowsL F Wn (pre.map Fin.val) ++ rowU F Wn (i.val : Nat) Wn := by simp [rowsL]
    have hLn := rowsL_length F Wn (pre.map Fin.val)
    rw [List.length_map] at hLn
    obtain ⟨j, hj⟩ : ∃ j, i.val = j := ⟨_, rfl⟩
    have hjH : j < Hn := by rw [← hj]; exact i.isLt
    have hLn2 : (rowsL F Wn (pre.map Fin.val)).length ≤ 65536 := by
      have h2 : pre.length * Wn ≤ 256 * 256 := Nat.mul_le_mul (by omega) (by omega)
      omega
    obtain ⟨O, hOO⟩ : ∃ O, rowsL F Wn (pre.map Fin.val) = O := ⟨_, rfl⟩
    rw [hj] at hsn
    rw [hOO] at hO hsn hLn2
    simp only [hj]
    have HO := Lib.hid hO
    have HS := Lib.hid hsn
    have HBW := Lib.hid (HB.out.ext (hEv.trans hO.ext))
    have HCW := Lib.hid (HC.out.ext (hEv.trans hO.ext))
    have hkb := hO.ext.keep kb
    have hkc := hO.ext.keep kc
    have HKB := Lib.hid hkb
    have HKC := Lib.hid hkc
    have hb1 : j * Wn + Wn ≤ Wn * Hn := by
      have := Nat.mul_le_mul_right Wn (show j + 1 ≤ Hn from hjH)
      rw [Nat.succ_mul, Nat.mul_comm Hn] at this
      exact this
    have hb2 : Wn * Hn ≤ 256 * 256 := Nat.mul_le_mul hWn hHn
    have hpl : px.length = Wn * Hn := by have := HLEN.out; rw [← Int.natCast_mul] at this; omega
    have hql : qx.length = Wn * Hn := by have := HLEN2.out; rw [← Int.natCast_mul] at this; omega
    have HPL := Lib.hid hpl
    have HQL := Lib.hid hql
    have hf1 : 1 + 1 ≤ 5 := by decide
    clear hO hsn hj hkb hkc hpl hql hLn hOO ko1 ko kr0 kr1 kb kc hO0
    gi_wp2
    gi_loopw [9, 49] (fun lv xv wr => ∃ (i : Nat) (B : Option Addr) (d : Nat), i ≤ Wn ∧ xv = .int .i64 i ∧ lv = .slice B (rowU F Wn j i).length d ∧ OwnR wr W.heap.size (.slice B (rowU F Wn j i).length d) (rowU F Wn j i) ∧ (B = none → d = 0) ∧ Ext W wr) (fun _ xv _ => Wn - (intOf xv).toNat)
    case atStart => exact ⟨0, none, 0, Nat.zero_le _, rfl, rfl, World.ownsRow_nil _ _ _ _, fun _ => rfl, Ext.refl _⟩
    case round =>
      obtain ⟨i, B', d', hi, rfl, rfl, hown, hnil, hE⟩ := hrel
      obtain ⟨c0, f0⟩ := blk_rules (hE.keep HBW.out.head)
      obtain ⟨c1, f1⟩ := blk_rules (hE.keep HCW.out.head)
      obtain ⟨c2, f2⟩ := blk_rules (hE.keep HKB.out)
      obtain ⟨c3, f3⟩ := blk_rules (hE.keep HKC.out)
      by_cases hlt : i < Wn
      · have hLn := rowU_length F Wn j i
        obtain ⟨L, hL⟩ : ∃ L, rowU F Wn j i = L := ⟨_, rfl⟩
        rw [hL] at hown hLn
        simp only [hL]
        obtain ⟨k, hk⟩ : ∃ k, j * Wn + i = k := ⟨_, rfl⟩
        have hkn : k < px.length := by rw [HPL.out]; omega
        have hkm : k < qx.length := by rw [HQL.out]; omega
        have hbn : px.length ≤ 65536 := by rw [HPL.out]; omega
        have hbm : qx.length ≤ 65536 := by rw [HQL.out]; omega
        have gp := World.ownsRow.cellAt (row_keep HBW.out.row hE) k (by omega)
        have gq := World.ownsRow.cellAt (row_keep HCW.out.row hE) k (by omega)
        rw [nums_get hkn] at gp
        rw [nums_get hkm] at gq
        have hv := hF.out i j hlt hjH
        rw [hk] at hv
        have s1 : IntKind.i64.wrap ((j : Int) * (Wn : Int)) = (j : Int) * (Wn : Int) := IntWalk.i64_in _ (by rw [← Int.natCast_mul]; omega)
        have s2 : IntKind.i64.wrap ((j : Int) * (Wn : Int) + (i : Int)) = (k : Int) := by
          rw [← Int.natCast_mul, ← Int.natCast_add, hk]
          exact IntWalk.i64_in _ (by omega)
        have HLL := Lib.hid hL
        have HO1 := Lib.hid hown
        have HNIL := Lib.hid hnil
        generalize px.getD k 0 = v1 at *
        generalize qx.getD k 0 = v2 at *
        have kk1 : ((k : Nat) : Int) < (px.length : Int) := by omega
        have kk2 : ((k : Nat) : Int) < (qx.length : Int) := by omega
        have i1 : (i : Int) < (Wn : Int) := by omega
        clear hL hown hnil hb1
        cases hvv : (v1 != v2)
        · rw [hvv] at hv
          have hsk := rowU_skip hlt hv
          rw [HLL.out] at hsk
          have HSK := Lib.hid hsk
          have hve : (v1 == v2) = true := by simpa using hvv
          clear hv hsk hvv
          gi_wp2
          refine round_quiet_lit (by kernel_rfl) (by kernel_rfl) (by kernel_rfl) ?_
          repeat (go_big_quiet_step (fail))
          refine wpQuiet_nil ?_
          intro _ hw'
          obtain ⟨nq, rfl⟩ := hw'
          have hE2 := hE.drewN nq
          have HO2 : Hid (OwnR (wr.drewN nq) W.heap.size (.slice B' L.length d') L) := Lib.hid HO1.out
          gi_wp2
          exact ⟨⟨i + 1, B', d', by omega, by go_num, by rw [HSK.out], by rw [HSK.out]; exact HO2.out, HNIL.out, hE2⟩, by simp [intOf]; omega⟩
        · rw [hvv] at hv
          have hve : (v1 == v2) = false := by simpa using hvv
          have HV := Lib.hid hv
          clear hv hvv
          gi_wp2
          refine round_quiet_lit (by kernel_rfl) (by kernel_rfl) (by kernel_rfl) ?_
          repeat (go_big_quiet_step (fail))
          refine wpQuiet_nil ?_
          intro _ hw'
          obtain ⟨nq, rfl⟩ := hw'
          have HO2 : Hid (OwnR (wr.drewN nq) W.heap.size (.slice B' L.length d') L) := Lib.hid HO1.out
          replace hE := hE.drewN nq
          clear c0 f0 c1 f1 c2 f2 c3 f3 gp gq HO1 hve s1 s2 hk
          generalize wr.drewN nq = w4 at *
          have r1 := HO2.out
          by_cases hl0 : L.length = 0
          · have hLe : L = [] := List.eq_nil_of_length_eq_zero hl0
            have hnew := rowU_new hlt HV.out (by rw [HLL.out, hLe]; intro r hr; cases hr)
            rw [HLL.out] at hnew
            have HN1 := Lib.hid hnew
            clear hnew r1 hLe
            have dl2 : decide ((0 : Int) < ((L.length : Nat) : Int)) = false := by rw [decide_eq_false_iff_not]; omega
            gi_wp2
            refine round_quiet_lit (by kernel_rfl) (by kernel_rfl) (by kernel_rfl) ?_
            repeat (go_big_quiet_step (fail))
            refine wpQuiet_nil ?_
            intro _ hw'
            obtain ⟨nq, rfl⟩ := hw'
            have HO3 : Hid (OwnR (w4.drewN nq) W.heap.size (.slice B' L.length d') L) := Lib.hid HO2.out
            replace hE := hE.drewN nq
            clear dl2 HO2
            generalize w4.drewN nq = w5 at *
            have hown7 := HO3.out
            have hz7 := hE.size
            gi_wp2_with (first | (refine wpListIn_app W.heap.size rfl (.tmp 100) (.tmp 104) 22 26 (.agg #[.int .i64 0, .int .i64 0, .int .i64 0, .int .i64 0]) 4 32 rfl Try.underlying22 info_rect rfl (by decide) (by decide) (.slice B' L.length d') L.length (rcells L) rfl (World.ownsRow.alloc hown7 _) (some ⟨w5.heap.size, 0, none⟩) 1 1 (rcell ⟨(i : Int), (j : Int), 1, 1⟩) rfl (fun h => by cases h) rfl (fun _ => ⟨_, rfl, World.news_of_block (blk_new w5 _)⟩) (by simp [rcell, Value.oneCell']) (by omega) (by simp; omega) (fun v' w6 hr6 hg6 => ?_); obtain ⟨B6, d6, rfl⟩ := row_slice hr6))
            have hr7 : OwnR w6 W.heap.size (.slice B6 (L ++ [(⟨(i : Int), (j : Int), 1, 1⟩ : Rect)]).length d6) (L ++ [(⟨(i : Int), (j : Int), 1, 1⟩ : Rect)]) := by
              unfold OwnR
              rw [List.length_append, show rcells (L ++ [⟨(i : Int), (j : Int), 1, 1⟩]) = rcells L ++ rcell ⟨(i : Int), (j : Int), 1, 1⟩ by simp [rcells]]
              exact hr6
            have hE5 : Ext W w6 := row_ext (World.ownsRow.alloc hown7 _) (hE.alloc _) hg6
            have hnil5 : B6 = none → d6 = 0 := fun h => by
              subst h
              obtain ⟨g, e, _⟩ := row_form hr7 (by simp)
              cases e
            clear hr6 hg6 hown7
            gi_wp2
            exact ⟨⟨i + 1, B6, d6, by omega, by go_num, by rw [HN1.out]; first | (simp; done) | (simp [hlen]; done) | (simp [List.eq_nil_of_length_eq_zero hl0]; done), by rw [HN1.out]; exact hr7, hnil5, hE5⟩, by simp [intOf]; omega⟩
          · obtain ⟨L0, r, hLr, hLm, hlast, hr0, hr1, hr2⟩ := rowU_last hi HLL.out (by omega)
            obtain ⟨g, rfl, hgb⟩ := row_form r1 (by omega)
            have q0 := (World.ownsRow.cellAt r1 (L0.length * 4 + 0) (by omega)).trans (rcells_get hlast 0 (by decide))
            have q2 := (World.ownsRow.cellAt r1 (L0.length * 4 + 2) (by omega)).trans (rcells_get hlast 2 (by decide))
            simp only [rcell, List.getElem?_cons_zero, List.getElem?_cons_succ, Nat.add_zero] at q0 q2
            obtain ⟨m, hm⟩ : ∃ m, L0.length = m := ⟨_, rfl⟩
            rw [hm] at q0 q2 hLm
            have e1 : ((m : Int) + 1) - 1 = m := by omega
            have e4 : IntKind.i64.wrap (m : Int) = m := IntWalk.i64_in _ (by omega)
            have e5 : IntKind.i64.wrap ((m : Int) + 1 - 1) = m := by rw [e1]; exact e4
            have e6 : (m : Int) < (m : Int) + 1 := by omega
            have e3 : IntKind.i64.wrap (r.x + r.w) = r.x + r.w := IntWalk.i64_in _ (by omega)
            have HLR := Lib.hid hLr
            have HM := Lib.hid hm
            have HLM := Lib.hid hLm
            by_cases hsx : r.x + r.w = i
            · have hgr := rowU_grow hlt HV.out (HLL.out.trans hLr) hsx
              have hst := (World.ownsRow.stored r1 (m * 4 + 2) (.int .i64 (r.w + 1))).1
              rw [hLr, rcells_setw hm, ← hLr] at hst
              have hgn : (rowU F Wn j (i + 1)).length = L.length := by rw [hgr, hLr]; simp
              rw [← hgr] at hst
              have HST := Lib.hid hst
              have HGN := Lib.hid hgn
              have HR := Lib.hid r1
              have hsx1 : ((r.x + r.w) == (i : Int)) = true := by simpa using hsx
              have e7 : IntKind.i64.wrap (r.w + 1) = r.w + 1 := IntWalk.i64_in _ (by omega)
              clear hgr hst hgn r1 hLr hlast hsx hm hLm
              have hlen := HLM.out
              simp only [hlen]
              gi_wp2
              refine round_quiet_lit (by kernel_rfl) (by kernel_rfl) (by kernel_rfl) ?_
              repeat (go_big_quiet_step (fail))
              refine wpQuiet_nil ?_
              intro _ hw'
              obtain ⟨nq, rfl⟩ := hw'
              have HST2 := HST
              replace HR : Hid (OwnR (w4.drewN nq) W.heap.size (.slice (some ⟨g, 0, none⟩) L.length d') L) := Lib.hid HR.out
              replace q2 : (w4.drewN nq).cell? _ = _ := q2
              replace hE := hE.drewN nq
              have HST3 : Hid (((w4.drewN nq).setCell ⟨g, m * 4 + 2, none⟩ (.int .i64 (r.w + 1))).ownsRow W.heap.size 26 4 (.slice (some ⟨g, 0, none⟩) L.length d') L.length (rcells (rowU F Wn j (i + 1)))) := Lib.hid HST.out
              clear q0 HO2 HST HST2 hsx1
              generalize w4.drewN nq = w5 at *
              have hrf := fun j => World.ownsRow.frozenAt HR.out j
              have hgl : g < w5.heap.size := (World.ownsRow.lt HR.out g (by simp [Value.ownBlock])).2
              gi_wp2
              have hset := hE.set (p := ⟨g, m * 4 + 2, none⟩) (by simpa using hgb) (.int .i64 (r.w + 1))
              exact ⟨⟨i + 1, some ⟨g, 0, none⟩, d', by omega, by go_num, by rw [HGN.out, hlen], by unfold OwnR; rw [HGN.out]; exact HST3.out, fun h => (by cases h), hset⟩, by simp [intOf]; omega⟩
            · have hsx1 : ((r.x + r.w) == (i : Int)) = false := by simpa using hsx
              have hnew := rowU_new hlt HV.out (by rw [HLL.out, hLr]; intro t ht; simp at ht; rw [← ht]; exact hsx)
              rw [HLL.out] at hnew
              have HN1 := Lib.hid hnew
              clear hnew r1 hLr hlast hsx hm hLm
              have hlen := HLM.out
              simp only [hlen]
              gi_wp2
              refine round_quiet_lit (by kernel_rfl) (by kernel_rfl) (by kernel_rfl) ?_
              repeat (go_big_quiet_step (fail))
              refine wpQuiet_nil ?_
              intro _ hw'
              obtain ⟨nq, rfl⟩ := hw'
              have HO3 : Hid (OwnR (w4.drewN nq) W.heap.size (.slice (some ⟨g, 0, none⟩) L.length d') L) := Lib.hid HO2.out
              replace hE := hE.drewN nq
              clear HO2 q0 q2 e1 e3 e4 e5 e6 hsx1
              generalize w4.drewN nq = w5 at *
              simp only [← hlen]
              have hown7 := HO3.out
              have hz7 := hE.size
              gi_wp2_with (first | (refine wpListIn_app W.heap.size rfl (.tmp 100) (.tmp 104) 22 26 (.agg #[.int .i64 0, .int .i64 0, .int .i64 0, .int .i64 0]) 4 32 rfl Try.underlying22 info_rect rfl (by decide) (by decide) (.slice (some ⟨g, 0, none⟩) L.length d') L.length (rcells L) rfl (World.ownsRow.alloc hown7 _) (some ⟨w5.heap.size, 0, none⟩) 1 1 (rcell ⟨(i : Int), (j : Int), 1, 1⟩) rfl (fun h => by cases h) rfl (fun _ => ⟨_, rfl, World.news_of_block (blk_new w5 _)⟩) (by simp [rcell, Value.oneCell']) (by omega) (by simp; omega) (fun v' w6 hr6 hg6 => ?_); obtain ⟨B6, d6, rfl⟩ := row_slice hr6))
              have hr7 : OwnR w6 W.heap.size (.slice B6 (L ++ [(⟨(i : Int), (j : Int), 1, 1⟩ : Rect)]).length d6) (L ++ [(⟨(i : Int), (j : Int), 1, 1⟩ : Rect)]) := by
                unfold OwnR
                rw [List.length_append, show rcells (L ++ [⟨(i : Int), (j : Int), 1, 1⟩]) = rcells L ++ rcell ⟨(i : Int), (j : Int), 1, 1⟩ by simp [rcells]]
                exact hr6
              have hE5 : Ext W w6 := row_ext (World.ownsRow.alloc hown7 _) (hE.alloc _) hg6
              have hnil5 : B6 = none → d6 = 0 := fun h => by
                subst h
                obtain ⟨g, e, _⟩ := row_form hr7 (by simp)
                cases e
              clear hr6 hg6 hown7
              gi_wp2
              exact ⟨⟨i + 1, B6, d6, by omega, by go_num, by rw [HN1.out]; first | (simp; done) | (simp [hlen]; done) | (simp [List.eq_nil_of_length_eq_zero hl0]; done), by rw [HN1.out]; exact hr7, hnil5, hE5⟩, by simp [intOf]; omega⟩
      · obtain rfl : i = Wn := by omega
        clear c0 f0 c1 f1 c2 f2 c3 f3
        obtain ⟨M, hM⟩ : ∃ M, rowU F i j i = M := ⟨_, rfl⟩
        have hMn : M.length ≤ 256 := by
          have := rowU_length F i j i
          rw [hM] at this
          omega
        rw [hM] at hown
        simp only [hM]
        have HMM := Lib.hid hM
        have HX := Lib.hid hown
        have hkout := hE.keep HO.out.kout
        obtain ⟨c3, f3⟩ := blk_rules hkout
        have z3 := blk_lt hkout
        have hown7 := row_keep HO.out.own hE
        have hsh7 := (OwnR.at hown).shows
        have hsz7 := Nat.le_trans HO.out.size hE.size
        clear hown hM
        gi_wp2_with (first | (refine wpListIn_app2 w3.heap.size rfl (.tmp 107) (.tmp 108) 22 26 (.agg #[.int .i64 0, .int .i64 0, .int .i64 0, .int .i64 0]) 4 32 rfl Try.underlying22 info_rect rfl (by decide) (by decide) (.slice B O.length d) O.length (rcells O) rfl hown7 B' M.length d' (rcells M) rfl hnil (rcells_length _) hsh7 rcells_one (by omega) hsz7 (fun B6 d6 w6 hr6 hg6 hb6 => ?_); obtain ⟨c8, f8⟩ := blk_rules ((hg6.block _ (blk_lt hkout) (fun e => by have := (World.ownsRow.lt hown7 _ e.symm).1; have := HO.out.sb; omega)).trans hkout)))
        have hr7 : OwnR w6 w3.heap.size (.slice B6 (O ++ M).length d6) (O ++ M) := by
          unfold OwnR
          rw [List.length_append, show rcells (O ++ M) = rcells O ++ rcells M by simp [rcells]]
          exact hr6
        have hO6 := HO.out.row hE hg6 hr7
        obtain ⟨hk6, _⟩ := HO.out.kept hE hg6 (.slice B6 (O ++ M).length d6)
        have hk7 := HO.out.keptO (n := O.length + M.length) (d5 := d6) hE hg6 hb6
        rw [List.length_append] at hk6 hO6
        refine ⟨hk6, hk7, B6, d6, ?_⟩
        rw [HS.out, HMM.out]
        exact hO6
end Go.Proofs.Ytjghghbldifhaaa
