/- How many pixels a set has. No program in sight. -/
/- The walk of region.Area. -/
/- Lists of rectangles that are handed in; the list calls with what they give named; the walk of the law's wakes. -/
import Derived.Test.YtjghghbldifhaaaRunsG
import Derived.Test.YtjghghbldifhaaaRegM
import Derived.Test.YtjghghbldifhaaaActB
namespace Go.Proofs.Ytjghghbldifhaaa

/-- A sum over n places from lo on. -/
def isum (lo : Int) : Nat → (Int → Int) → Int
  | 0, _ => 0
  | n + 1, f => isum lo n f + f (lo + n)
theorem isum_congr {lo : Int} {f g : Int → Int} : ∀ {n : Nat}, (∀ z, lo ≤ z → z < lo + n → f z = g z) → isum lo n f = isum lo n g
  | 0, _ => rfl
  | n + 1, h => by
    show isum lo n f + f (lo + n) = isum lo n g + g (lo + n)
    rw [isum_congr (n := n) (fun z h1 h2 => h z h1 (by omega)), h (lo + n) (by omega) (by omega)]
theorem isum_add {lo : Int} {f g : Int → Int} : ∀ {n : Nat}, isum lo n (fun z => f z + g z) = isum lo n f + isum lo n g
  | 0 => rfl
  | n + 1 => by
    show isum lo n (fun z => f z + g z) + (f (lo + n) + g (lo + n)) = isum lo n f + f (lo + n) + (isum lo n g + g (lo + n))
    rw [isum_add (n := n)]
    omega
theorem isum_split {lo : Int} {f : Int → Int} {m : Nat} : ∀ {n : Nat}, isum lo (m + n) f = isum lo m f + isum (lo + m) n f
  | 0 => by show isum lo m f = isum lo m f + 0; omega
  | n + 1 => by
    show isum lo (m + n) f + f (lo + (m + n : Nat)) = isum lo m f + (isum (lo + m) n f + f (lo + m + n))
    rw [isum_split (n := n), show lo + ((m + n : Nat) : Int) = lo + m + n by omega]
    omega
theorem isum_zero {lo : Int} {f : Int → Int} {n : Nat} (h : ∀ z, lo ≤ z → z < lo + n → f z = 0) : isum lo n f = 0 := by
  rw [isum_congr (g := fun _ => 0) h]
  induction n with
  | zero => rfl
  | succ n ih => show isum lo n (fun _ => 0) + 0 = 0; rw [ih (fun z h1 h2 => h z h1 (by omega))]; rfl
theorem isum_const {lo c : Int} : ∀ {n : Nat}, isum lo n (fun _ => c) = n * c
  | 0 => by show (0 : Int) = _; simp
  | n + 1 => by
    show isum lo n (fun _ => c) + c = _
    rw [isum_const (n := n), show ((n + 1 : Nat) : Int) * c = n * c + c by rw [Int.natCast_add, Int.add_mul]; simp]
theorem isum_le {lo c : Int} {f : Int → Int} : ∀ {n : Nat}, (∀ z, 0 ≤ f z ∧ f z ≤ c) → 0 ≤ isum lo n f ∧ isum lo n f ≤ n * c
  | 0, _ => by show (0 : Int) ≤ 0 ∧ (0 : Int) ≤ _; simp
  | n + 1, h => by
    have ih := isum_le (lo := lo) (n := n) h
    have h1 := h (lo + n)
    show 0 ≤ isum lo n f + f (lo + n) ∧ isum lo n f + f (lo + n) ≤ _
    rw [show ((n + 1 : Nat) : Int) * c = n * c + c by rw [Int.natCast_add, Int.add_mul]; simp]
    omega
/-- Where there is nothing outside, a wider sum is the same. -/
theorem isum_wide {lo lo2 : Int} {n n2 : Nat} {f : Int → Int} (h1 : lo2 ≤ lo) (h2 : lo + n ≤ lo2 + n2) (hz : ∀ z, ¬ (lo ≤ z ∧ z < lo + n) → f z = 0) : isum lo2 n2 f = isum lo n f := by
  obtain ⟨p, hp⟩ : ∃ p : Nat, (p : Int) = lo - lo2 := ⟨(lo - lo2).toNat, by omega⟩
  obtain ⟨q, hq⟩ : ∃ q : Nat, (q : Int) = lo2 + n2 - (lo + n) := ⟨(lo2 + n2 - (lo + n)).toNat, by omega⟩
  have e : n2 = p + (n + q) := by omega
  rw [e, isum_split, isum_split, show lo2 + (p : Int) = lo by omega, isum_zero (lo := lo2) (n := p) (fun z a b => hz z (by omega)), isum_zero (lo := lo + n) (n := q) (fun z a b => hz z (by omega))]
  omega
theorem isum_shift {lo d : Int} {f : Int → Int} : ∀ {n : Nat}, isum lo n (fun z => f (z - d)) = isum (lo - d) n f
  | 0 => rfl
  | n + 1 => by
    show isum lo n (fun z => f (z - d)) + f (lo + n - d) = isum (lo - d) n f + f (lo - d + n)
    rw [isum_shift (n := n), show lo + (n : Int) - d = lo - d + n by omega]
section
variable {α : Type} {d : α}
/-- What runs hold, summed. -/
theorem isum_runs {g : α → Int} (hg : g d = 0) : ∀ (l : List (Run α)) (lo : Int) (n : Nat), runsOk d l → (∀ s ∈ l.head?, lo ≤ s.a) → (∀ s ∈ l, s.b ≤ lo + n) → isum lo n (fun z => g (runsAt d l z)) = (l.map fun r => (r.b - r.a) * g r.v).sum
  | [], lo, n, _, _, _ => isum_zero fun z _ _ => hg
  | r :: l, lo, n, h, h1, h2 => by
    have ha := h1 r (by simp)
    have hb := h2 r (by simp)
    have hab := h.1
    obtain ⟨p, hp⟩ : ∃ p : Nat, (p : Int) = r.a - lo := ⟨(r.a - lo).toNat, by omega⟩
    obtain ⟨q, hq⟩ : ∃ q : Nat, (q : Int) = r.b - r.a := ⟨(r.b - r.a).toNat, by omega⟩
    obtain ⟨m, hm⟩ : ∃ m : Nat, (m : Int) = lo + n - r.b := ⟨(lo + n - r.b).toNat, by omega⟩
    have e : n = p + (q + m) := by omega
    rw [e, isum_split, isum_split, show lo + (p : Int) = r.a by omega, show r.a + (q : Int) = r.b by omega]
    rw [isum_zero (lo := lo) (n := p) (fun z a b => by rw [runsAt_before h (fun s hs => by simp at hs; subst hs; omega), hg])]
    rw [isum_congr (lo := r.a) (n := q) (g := fun _ => g r.v) (fun z a b => by rw [runsAt_first h a (by omega)]), isum_const]
    rw [isum_congr (lo := r.b) (n := m) (g := fun z => g (runsAt d l z)) (fun z a b => by rw [runsAt_behind a])]
    rw [isum_runs hg l r.b m h.2.2.2 (fun s hs => (h.2.2.1 s hs).1) (fun s hs => by have := h2 s (by simp [hs]); omega)]
    rw [List.map_cons, List.sum_cons, hq]
    omega
end
def LO : Int := -1048576
def WIDE : Nat := 2097152
def bit (b : Bool) : Int := if b then 1 else 0
/-- How many pixels. -/
def cnt (F : Int → Int → Bool) : Int := isum LO WIDE fun y => isum LO WIDE fun x => bit (F x y)
theorem cnt_congr {F G : Int → Int → Bool} (h : ∀ x y, F x y = G x y) : cnt F = cnt G := by
  unfold cnt
  refine isum_congr fun y _ _ => isum_congr fun x _ _ => by rw [h]
theorem cnt_bd (F : Int → Int → Bool) : 0 ≤ cnt F ∧ cnt F ≤ 4398046511104 := by
  have h1 : ∀ y, 0 ≤ isum LO WIDE (fun x => bit (F x y)) ∧ isum LO WIDE (fun x => bit (F x y)) ≤ 2097152 := fun y => by
    have := isum_le (lo := LO) (n := WIDE) (c := 1) (f := fun x => bit (F x y)) (fun z => by unfold bit; split <;> omega)
    exact ⟨this.1, by have h2 := this.2; unfold WIDE at h2 ⊢; omega⟩
  have h2 := isum_le (lo := LO) (n := WIDE) (c := 2097152) h1
  unfold cnt
  exact ⟨h2.1, by have h3 := h2.2; unfold WIDE at h3 ⊢; omega⟩
def areaSum (l : List Rect) : Int := (l.map Rect.area).sum
theorem areaSum_append (l m : List Rect) : areaSum (l ++ m) = areaSum l + areaSum m := by simp [areaSum]
theorem area_good {r : Rect} (h : r.empty = false) : r.area = r.w * r.h := by
  have := Rect.empty_iff.1 h
  unfold Rect.area
  rw [if_pos (Rect.good_iff.2 (by omega))]
theorem area_nonneg (r : Rect) : 0 ≤ r.area := by
  unfold Rect.area
  split
  · rename_i h
    have := Rect.good_iff.1 h
    exact Int.mul_nonneg (by omega) (by omega)
  · exact Int.le_refl _
theorem areaSum_nonneg (l : List Rect) : 0 ≤ areaSum l := by
  induction l with
  | nil => exact Int.le_refl _
  | cons r l ih =>
    have := area_nonneg r
    have e : areaSum (r :: l) = r.area + areaSum l := rfl
    omega
theorem areaSum_take (l : List Rect) (k : Nat) : 0 ≤ areaSum (l.take k) ∧ areaSum (l.take k) ≤ areaSum l := by
  refine ⟨areaSum_nonneg _, ?_⟩
  have e : areaSum l = areaSum (l.take k) + areaSum (l.drop k) := by rw [← areaSum_append, List.take_append_drop]
  have := areaSum_nonneg (l.drop k)
  omega
theorem bandRects_area {r : Run (List (Run Bool))} (hr : r.a < r.b ∧ -1048576 ≤ r.a ∧ r.b ≤ 1048576) : ∀ (v : List (Run Bool)), (∀ s ∈ v, s.a < s.b ∧ s.v = true ∧ -1048576 ≤ s.a ∧ s.b ≤ 1048576) → areaSum (v.map fun s => (⟨s.a, r.a, s.b - s.a, r.b - r.a⟩ : Rect)) = (r.b - r.a) * (v.map fun s => (s.b - s.a) * bit s.v).sum
  | [], _ => by show (0 : Int) = _; simp
  | s :: v, h => by
    have h1 := h s (by simp)
    have ih := bandRects_area hr v (fun t ht => h t (by simp [ht]))
    show Rect.area ⟨s.a, r.a, s.b - s.a, r.b - r.a⟩ + areaSum (v.map fun s => (⟨s.a, r.a, s.b - s.a, r.b - r.a⟩ : Rect)) = _
    rw [ih, area_good (Rect.empty_iff.2 (by dsimp only; omega)), List.map_cons, List.sum_cons, Int.mul_add, h1.2.1]
    dsimp only [bit]
    rw [if_pos rfl, Int.mul_one, Int.mul_comm (s.b - s.a) (r.b - r.a)]
theorem flat_area : ∀ {V : List (Run (List (Run Bool)))}, (∀ r ∈ V, r.a < r.b ∧ (-1048576 ≤ r.a ∧ r.b ≤ 1048576) ∧ ∀ s ∈ r.v, s.a < s.b ∧ s.v = true ∧ -1048576 ≤ s.a ∧ s.b ≤ 1048576) → areaSum (flat V) = (V.map fun r => (r.b - r.a) * (r.v.map fun s => (s.b - s.a) * bit s.v).sum).sum
  | [], _ => rfl
  | r :: V, h => by
    have h1 := h r (by simp)
    have ih := flat_area (V := V) (fun t ht => h t (by simp [ht]))
    rw [show flat (r :: V) = bandRects r ++ flat V from rfl, areaSum_append, ih, List.map_cons, List.sum_cons]
    unfold bandRects
    rw [bandRects_area ⟨h1.1, h1.2.1⟩ r.v h1.2.2]
/-- The rectangles of a list in form have as many pixels as are meant. -/
theorem listOf_area (how : Int) (a b : List Rect) : areaSum (listOf how a b) = cnt (fun x y => meant how (hasL a x y) (hasL b x y)) := by
  have hin := bandsOf_in how a b
  have hok := bandsOf_ok how a b
  have hall : ∀ r ∈ bandsOf how a b, r.a < r.b ∧ (-1048576 ≤ r.a ∧ r.b ≤ 1048576) ∧ ∀ s ∈ r.v, s.a < s.b ∧ s.v = true ∧ -1048576 ≤ s.a ∧ s.b ≤ 1048576 := fun r hr => by
    refine ⟨(runsOk_pos hok.1 r hr).1, (hin r hr).1, fun s hs => ?_⟩
    have h1 := runsOk_pos (bandsOk_row hok hr) s hs
    have h2 := (hin r hr).2 s hs
    exact ⟨h1.1, by simpa using h1.2, h2.1, h2.2⟩
  unfold listOf
  rw [flat_area hall]
  have hV := isum_runs (d := ([] : List (Run Bool))) (g := fun v => (v.map fun s : Run Bool => (s.b - s.a) * bit s.v).sum) rfl (bandsOf how a b) LO WIDE hok.1 (fun s hs => by
    have hm : s ∈ bandsOf how a b := List.mem_of_mem_head? hs
    have := (hin s hm).1
    unfold LO
    omega) (fun s hs => by
    have := (hin s hs).1
    unfold LO WIDE
    omega)
  rw [← hV]
  unfold cnt
  refine isum_congr fun y _ _ => ?_
  have hrow := hok.2 y
  have hb : ∀ s ∈ runsAt [] (bandsOf how a b) y, -1048576 ≤ s.a ∧ s.b ≤ 1048576 := fun s hs => by
    have hne : runsAt [] (bandsOf how a b) y ≠ [] := fun e => by rw [e] at hs; cases hs
    obtain ⟨r, hr, _, _, h3⟩ := runsAt_ex hne
    rw [h3] at hs
    exact (hin r hr).2 s hs
  have hR := isum_runs (d := false) (g := bit) rfl (runsAt [] (bandsOf how a b) y) LO WIDE hrow (fun s hs => by
    have := hb s (List.mem_of_mem_head? hs)
    unfold LO
    omega) (fun s hs => by
    have := hb s hs
    unfold LO WIDE
    omega)
  rw [← hR]
  refine isum_congr fun x _ _ => ?_
  have := bandsOf_pix how a b x y
  unfold pixB at this
  rw [this]
/-- How many pixels a list has. -/
def areaL (l : List Rect) : Int := areaSum (listOf 0 l [])
theorem areaL_cnt (l : List Rect) : areaL l = cnt (hasL l) := by
  unfold areaL
  rw [listOf_area]
  exact cnt_congr fun x y => by rw [show hasL [] x y = false from rfl, meant0]
theorem areaL_bd (l : List Rect) : 0 ≤ areaL l ∧ areaL l ≤ 4398046511104 := by rw [areaL_cnt]; exact cnt_bd _
theorem cnt_add (F G H K : Int → Int → Bool) (h : ∀ x y, bit (F x y) + bit (G x y) = bit (H x y) + bit (K x y)) : cnt F + cnt G = cnt H + cnt K := by
  unfold cnt
  rw [← isum_add, ← isum_add]
  refine isum_congr fun y _ _ => ?_
  rw [← isum_add, ← isum_add]
  exact isum_congr fun x _ _ => h x y
end Go.Proofs.Ytjghghbldifhaaa
set_option linter.unusedVariables false
set_option linter.unusedSimpArgs false
namespace Go.Proofs.Ytjghghbldifhaaa
open Go.RowKit

set_option maxHeartbeats 1000000 in
theorem area_list (aA : Option Addr) (ca : Nat) (l : List Rect) (w : World) (ha : RectsAt w aA l) (hal : l.length ≤ 4398046511104) :
    Calls Try.prog 21 #[.slice aA l.length ca] w fun e w' => e = .returned (.int .i64 (areaL l)) ∧ Ext w w' := by
  have hcon := of_list aA ca l w ha hal
  have hln := listOf_length 0 l []
  have hbd := areaL_bd l
  unfold areaL at hbd ⊢
  obtain ⟨L, hL⟩ : ∃ L, listOf 0 l [] = L := ⟨_, rfl⟩
  rw [hL] at hcon hln hbd ⊢
  clear hL ha
  go_enter Try.func21, Try.ntmps21
  go_wp2_with fail
  refine hcon.mono ?_
  rintro e w1 ⟨B, d, rfl, h1, h2, h3⟩
  clear hcon
  have hl := OwnR.at h1
  clear h1
  go_wp2_with fail
  go_loopw [3, 9] (fun s iv wr => ∃ k : Nat, k ≤ L.length ∧ iv = .int .i64 k ∧ s = .int .i64 (areaSum (L.take k)) ∧ Ext w1 wr) (fun _ iv _ => L.length - (intOf iv).toNat)
  case atStart => exact ⟨0, Nat.zero_le _, rfl, rfl, Ext.refl _⟩
  case round =>
    obtain ⟨k, hk, rfl, rfl, hE⟩ := hrel
    by_cases hlt : k < L.length
    · obtain ⟨b, off, rfl, hc⟩ := (hl.ext hE).form (by omega)
      obtain ⟨h0, h1, h2, h4⟩ := hc k L[k] (List.getElem?_eq_getElem hlt)
      have hb1 := areaSum_take L k
      have hb2 := areaSum_take L (k + 1)
      have hs : areaSum (L.take (k + 1)) = areaSum (L.take k) + L[k].area := by
        rw [List.take_succ_eq_append_getElem hlt, areaSum_append]
        show _ + (L[k].area + 0) = _
        omega
      clear hc
      rw [hs] at hb2
      generalize L[k] = r at *
      have hh := fun w => area_any r.x r.y r.w r.h w
      simp only [show Rect.mk r.x r.y r.w r.h = r from rfl] at hh
      generalize areaSum (L.take k) = s at *
      generalize r.area = q at *
      have HS := Lib.hid hs
      clear hs
      go_wp2_with fail
      refine (hh _).mono ?_
      rintro e w2 ⟨rfl, hb⟩
      obtain ⟨kb, hE1⟩ := ext1 hb
      clear hb kb hh
      go_wp2_with fail
      exact ⟨⟨k + 1, by omega, by go_num, by rw [HS.out], hE.trans hE1⟩, by simp [intOf]; omega⟩
    · obtain rfl : k = L.length := by omega
      rw [List.take_length]
      go_wp2_with fail
      go_ret
      exact ⟨rfl, h3.trans hE⟩
end Go.Proofs.Ytjghghbldifhaaa
set_option linter.unusedVariables false
set_option linter.unusedSimpArgs false
namespace Go.Proofs.Ytjghghbldifhaaa
open Go.RowKit Go.ChangeShapes

def shRects : Sh := .slice shRect
/-- What is handed in as a list of rectangles. -/
theorem rects_of {w : World} {A' : Option Addr} {n' c' : Nat} (h : shRects.Is w (Value.slice A' n' c').cells.toList) : ∃ l, l.length = n' ∧ RectsAt w A' l ∧ (A' = none → c' = 0) := by
  have hnull : A' = none → c' = 0 := slice_null (e := shRect) h
  rcases h with h | ⟨a, len, cap, h, h1, h2, h3⟩
  · injection h with h
    injection h with e1 e2 e3
    exact ⟨[], e2.symm, fun i a hi => by simp at hi, hnull⟩
  · have h4 : ∀ i, i < len → ∃ r : Rect, ∀ j, j < 4 → w.cell? ((a.add (i * 4)).add j) = (rcell r)[j]? := fun i hi => by
      obtain ⟨l, hl, hll, ha⟩ := h3 i hi
      obtain ⟨r, rfl⟩ := is_rect ha
      refine ⟨r, fun j hj => ?_⟩
      obtain ⟨u, hu⟩ : ∃ u, (rcell r)[j]? = some u := ⟨_, List.getElem?_eq_getElem (show j < (rcell r).length by simpa [rcell] using hj)⟩
      rw [hu]
      exact hl j u hu
    obtain ⟨l, hll, hq⟩ := choose_list h4
    injection h with h
    injection h with e1 e2 e3
    subst e1
    refine ⟨l, hll.trans e2.symm, fun i r hi => ?_, hnull⟩
    have q1 := hq i r hi
    have hs : a.spot = none := by
      have hlen : 0 < l.length := Nat.lt_of_le_of_lt (Nat.zero_le i) (List.getElem?_eq_some_iff.1 hi).1
      have h0 := hq 0 l[0] (List.getElem?_eq_getElem hlen) 0 (by decide)
      rw [show (a.add (0 * 4)).add 0 = a by simp [Addr.add]] at h0
      unfold World.cell? at h0
      split at h0
      · split at h0
        · simp [rcell] at h0
        · rename_i hn
          simpa using hn
      · simp [rcell] at h0
    obtain ⟨b, o, s⟩ := a
    dsimp only at hs
    subst hs
    have q : ∀ j, j < 4 → w.cell? ⟨b, o + i * 4 + j, none⟩ = (rcell r)[j]? := fun j hj => by
      have := q1 j hj
      rwa [add_plain, add_plain] at this
    exact ⟨b, o, rfl, (q 0 (by decide)).trans rfl, (q 1 (by decide)).trans rfl, (q 2 (by decide)).trans rfl, (q 3 (by decide)).trans rfl⟩

theorem or_to {aA bA : Option Addr} {ca cb : Nat} {a b Z : List Rect} {w : World} (hZ : listOf 0 a b = Z) (ha : Hid (RectsAt w aA a)) (hb : Hid (RectsAt w bA b)) (hal : a.length ≤ 2199023255552) (hbl : b.length ≤ 2199023255552) :
    Calls Try.prog 25 #[.slice aA a.length ca, .slice bA b.length cb] w (GivesR Z w) := hZ ▸ or_list aA bA ca cb a b w ha.out hb.out (by omega) (by omega)
theorem minus_to {aA bA : Option Addr} {ca cb : Nat} {a b Z : List Rect} {w : World} (hZ : listOf 1 a b = Z) (ha : Hid (RectsAt w aA a)) (hb : Hid (RectsAt w bA b)) (hal : a.length ≤ 2199023255552) (hbl : b.length ≤ 2199023255552) :
    Calls Try.prog 26 #[.slice aA a.length ca, .slice bA b.length cb] w (GivesR Z w) := hZ ▸ minus_list aA bA ca cb a b w ha.out hb.out (by omega) (by omega)
theorem and_to {aA bA : Option Addr} {ca cb : Nat} {a b Z : List Rect} {w : World} (hZ : listOf 2 a b = Z) (ha : Hid (RectsAt w aA a)) (hb : Hid (RectsAt w bA b)) (hal : a.length ≤ 2199023255552) (hbl : b.length ≤ 2199023255552) :
    Calls Try.prog 27 #[.slice aA a.length ca, .slice bA b.length cb] w (GivesR Z w) := hZ ▸ and_list aA bA ca cb a b w ha.out hb.out (by omega) (by omega)
theorem of_to {aA : Option Addr} {ca : Nat} {a Z : List Rect} {w : World} (hZ : listOf 0 a [] = Z) (ha : Hid (RectsAt w aA a)) (hal : a.length ≤ 2199023255552) :
    Calls Try.prog 24 #[.slice aA a.length ca] w (GivesR Z w) := hZ ▸ of_list aA ca a w ha.out (by omega)
theorem own_to {aA : Option Addr} {ca : Nat} {a : List Rect} {w : World} (ha : Hid (RectsAt w aA a)) (hn : aA = none → ca = 0) (hal : a.length ≤ 2199023255552) :
    Calls Try.prog 19 #[.slice aA a.length ca] w (GivesR a w) := lown_any aA ca a w ha.out hn (by omega)
theorem rects_to {aA bA : Option Addr} {ca cb : Nat} {a b : List Rect} {w : World} {r : Bool} (hZ : eqR a b = r) (ha : Hid (RectsAt w aA a)) (hb : Hid (RectsAt w bA b)) (hal : a.length ≤ 2199023255552) (hbl : b.length ≤ 2199023255552) :
    Calls Try.prog 23 #[.slice aA a.length ca, .slice bA b.length cb] w fun e w' => e = .returned (.bool r) ∧ Ext w w' := hZ ▸ lrects_any aA bA ca cb a b w ha.out hb.out (by omega) (by omega)
theorem eqR_true {a b : List Rect} (h : a = b) : eqR a b = true := by simp [eqR, h]
theorem rects_block {w : World} {B : Nat} {xs : Array Value} {t : TypeId} {fr : Nat × Nat} {l : List Rect} (h : w.heap[B]? = some (.cells xs t fr)) (e : xs.toList = rcells l) : RectsAt w (some ⟨B, 0, none⟩) l := fun i r hi => by
  have hc : ∀ j, j < 4 → w.cell? ⟨B, 0 + i * 4 + j, none⟩ = (rcell r)[j]? := fun j hj => by
    rw [blk_cell h, ← Array.getElem?_toList, e, Nat.zero_add]
    exact rcells_get hi j hj
  exact ⟨B, 0, rfl, by simpa [rcell] using hc 0 (by decide), by simpa [rcell] using hc 1 (by decide), by simpa [rcell] using hc 2 (by decide), by simpa [rcell] using hc 3 (by decide)⟩
def wk1 : List Rect := [⟨0, 0, 2, 2⟩, ⟨1, 1, 2, 2⟩]
def wk2 : List Rect := [⟨0, 0, 2, 1⟩, ⟨0, 1, 3, 1⟩, ⟨1, 2, 2, 1⟩]
def wk3 : List Rect := [⟨0, 0, 1, 1⟩, ⟨1, 0, 1, 1⟩]
def wk4 : List Rect := [⟨0, 0, 2, 1⟩]
theorem wk12 : listOf 0 wk1 [] = wk2 := by decide +kernel
theorem wk34 : listOf 0 wk3 [] = wk4 := by decide +kernel
theorem listOf_idem {how : Int} {a b : List Rect} : listOf 0 (listOf how a b) [] = listOf how a b := listOf_eq fun x y => by rw [listOf_has, show hasL [] x y = false from rfl, meant0]
set_option maxHeartbeats 2000000 in
theorem wakes_any (w : World) : Calls Try.prog 15 #[] w fun e w' => e = .returned (.bool true) ∧ Ext w w' := by
  go_enter Try.func15, Try.ntmps15
  go_wp2_with fail
  refine (of_to (a := wk1) (ca := 2) wk12 (Lib.hid (rects_block (blk_new w _) rfl)) (by decide)).mono ?_
  rintro e w1 ⟨B, d, rfl, h1, n1, E1⟩
  have r1 := Lib.hid (OwnR.at h1)
  have hE := Ext.of_alloc E1
  clear h1 E1
  go_wp2_with fail
  refine (rrects_any B _ d 3 wk2 wk2 _ (r1.out.ext ((Ext.refl w1).alloc _)) (rects_block (blk_new w1 _) rfl) (by decide) (by decide)).mono ?_
  rintro e w2 ⟨rfl, E2⟩
  rw [show eqR wk2 wk2 = true from eqR_true rfl]
  have hE := hE.trans (Ext.of_alloc E2)
  have r1 := Lib.hid (r1.out.ext (Ext.of_alloc E2))
  clear E2
  go_wp2_with fail
  refine (area_list B d wk2 w2 r1.out (by decide)).mono ?_
  rintro e w3 ⟨rfl, E3⟩
  have hE := hE.trans E3
  have r1 := Lib.hid (r1.out.ext E3)
  rw [show areaL wk2 = 7 by unfold areaL; rw [← wk12, listOf_idem, wk12]; rfl]
  clear E3
  go_wp2_with fail
  refine (is_any B d wk2 w3 r1.out (by decide)).mono ?_
  rintro e w4 ⟨rfl, E4⟩
  have hE := hE.trans E4
  rw [show eqR wk2 (listOf 0 wk2 []) = true from eqR_true (by rw [← wk12, listOf_idem])]
  clear E4
  go_wp2_with fail
  refine (is_any _ 2 wk3 _ (rects_block (blk_new w4 _) rfl) (by decide)).mono ?_
  rintro e w5 ⟨rfl, E5⟩
  have hE := hE.trans (Ext.of_alloc E5)
  rw [show eqR wk3 (listOf 0 wk3 []) = false by rw [wk34]; rfl]
  clear E5
  go_wp2_with fail
  go_ret
  exact ⟨rfl, hE⟩
end Go.Proofs.Ytjghghbldifhaaa
