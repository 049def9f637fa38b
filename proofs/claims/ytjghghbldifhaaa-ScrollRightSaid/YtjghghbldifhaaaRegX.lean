/- What shifting does to a list's pixels and to their number. No program in sight. -/
import Derived.Test.YtjghghbldifhaaaRegU
import Derived.Test.YtjghghbldifhaaaRegT
set_option linter.unusedVariables false
set_option linter.unusedSimpArgs false
namespace Go.Proofs.Ytjghghbldifhaaa

theorem shift_inv {r : Rect} {dx dy : Int} (h : (r.shift dx dy).empty = false) : r.empty = false ∧ r.shift dx dy = r.move dx dy ∧ (-4194304 ≤ dx ∧ dx ≤ 4194304) ∧ (-4194304 ≤ dy ∧ dy ≤ 4194304) := by
  unfold Rect.shift at h ⊢
  split at h
  · rename_i hc
    rw [if_pos hc]
    simp only [Bool.and_eq_true, within_iff] at hc
    obtain ⟨⟨⟨h1, h2⟩, h3⟩, h4⟩ := hc
    have g1 := Rect.good_iff.1 h1
    have g2 := Rect.empty_iff.1 h
    unfold Rect.move at g2
    dsimp only at g2
    exact ⟨Rect.empty_iff.2 (by omega), rfl, by omega, by omega⟩
  · exact absurd h (by decide)
theorem shift_fwd {r : Rect} {dx dy : Int} (he : r.empty = false) (h : r.shift dx dy ≠ Rect.zero) : (r.shift dx dy).empty = false := by
  unfold Rect.shift at h ⊢
  split at h
  · rename_i hc
    rw [if_pos hc]
    simp only [Bool.and_eq_true, within_iff] at hc
    have g1 := Rect.empty_iff.1 he
    have g2 := Rect.good_iff.1 hc.2
    unfold Rect.move at g2 ⊢
    dsimp only at g2
    exact Rect.empty_iff.2 (by dsimp only; omega)
  · exact absurd rfl h
theorem shift_of {r : Rect} {dx dy : Int} (he : r.empty = false) (hx : -4194304 ≤ dx ∧ dx ≤ 4194304) (hy : -4194304 ≤ dy ∧ dy ≤ 4194304) (h : (r.move dx dy).empty = false) : r.shift dx dy ≠ Rect.zero := by
  have g1 := Rect.empty_iff.1 he
  have g2 := Rect.empty_iff.1 h
  unfold Rect.shift
  rw [if_pos]
  · intro e
    rw [e] at h
    exact absurd h (by decide)
  · simp only [Bool.and_eq_true, within_iff]
    exact ⟨⟨⟨Rect.good_iff.2 (by omega), hx⟩, hy⟩, Rect.good_iff.2 (by omega)⟩
/-- Nothing of a list is lost when it is shifted. -/
def Fits (l : List Rect) (dx dy : Int) : Prop := ∀ r ∈ l, r.empty = false → r.shift dx dy ≠ Rect.zero
def shiftL (l : List Rect) (dx dy : Int) : List Rect := l.map fun r => r.shift dx dy
theorem shiftL_has {l : List Rect} {dx dy : Int} (hf : Fits l dx dy) (x y : Int) : hasL (shiftL l dx dy) x y = hasL l (x - dx) (y - dy) := by
  rw [Bool.eq_iff_iff, hasL_iff, hasL_iff]
  constructor
  · rintro ⟨q, hq, he, h1, h2, h3, h4⟩
    obtain ⟨r, hr, rfl⟩ := List.mem_map.1 hq
    obtain ⟨e1, e2, _⟩ := shift_inv he
    rw [e2] at h1 h2 h3 h4
    unfold Rect.move at h1 h2 h3 h4
    dsimp only at h1 h2 h3 h4
    exact ⟨r, hr, e1, by omega, by omega, by omega, by omega⟩
  · rintro ⟨r, hr, he, h1, h2, h3, h4⟩
    have e0 := shift_fwd he (hf r hr he)
    have e2 := (shift_inv e0).2.1
    refine ⟨r.shift dx dy, List.mem_map.2 ⟨r, hr, rfl⟩, e0, ?_⟩
    rw [e2]
    unfold Rect.move
    dsimp only
    omega
theorem shiftL_in {l : List Rect} {dx dy x y : Int} (hf : Fits l dx dy) (h : hasL l x y = true) : (-4194304 ≤ dx ∧ dx ≤ 4194304) ∧ (-4194304 ≤ dy ∧ dy ≤ 4194304) ∧ (-1048576 ≤ x ∧ x < 1048576) ∧ (-1048576 ≤ y ∧ y < 1048576) ∧ (-1048576 ≤ x + dx ∧ x + dx < 1048576) ∧ (-1048576 ≤ y + dy ∧ y + dy < 1048576) := by
  obtain ⟨r, hr, he, h1, h2, h3, h4⟩ := hasL_iff.1 h
  have e0 := shift_fwd he (hf r hr he)
  obtain ⟨_, e2, d1, d2⟩ := shift_inv e0
  rw [e2] at e0
  have g1 := Rect.empty_iff.1 he
  have g2 := Rect.empty_iff.1 e0
  unfold Rect.move at g2
  dsimp only at g2
  omega
theorem isum_win {f : Int → Int} {a b : Int} {n : Nat} (h : ∀ z, f z ≠ 0 → (a ≤ z ∧ z < a + n) ∧ (b ≤ z ∧ z < b + n)) : isum a n f = isum b n f := by
  have key : ∀ {a b : Int}, a ≤ b → (∀ z, f z ≠ 0 → (a ≤ z ∧ z < a + n) ∧ (b ≤ z ∧ z < b + n)) → isum a n f = isum b n f := by
    intro a b hab h
    by_cases hn : b ≤ a + n
    · obtain ⟨m, hm⟩ : ∃ m : Nat, (m : Int) = a + n - b := ⟨(a + n - b).toNat, by omega⟩
      have hz : ∀ z, ¬ (b ≤ z ∧ z < b + m) → f z = 0 := fun z hz => by
        by_cases hf : f z = 0
        · exact hf
        · exact absurd (by have := h z hf; omega) hz
      rw [isum_wide (lo := b) (n := m) (lo2 := a) (n2 := n) hab (by omega) hz, isum_wide (lo := b) (n := m) (lo2 := b) (n2 := n) (Int.le_refl _) (by omega) hz]
    · have hz : ∀ z, f z = 0 := fun z => by
        by_cases hf : f z = 0
        · exact hf
        · have := h z hf; omega
      rw [isum_zero fun z _ _ => hz z, isum_zero fun z _ _ => hz z]
  rcases Int.le_total a b with hab | hba
  · exact key hab h
  · exact (key hba fun z hz => ⟨(h z hz).2, (h z hz).1⟩).symm
theorem cnt_shift {F : Int → Int → Bool} {dx dy : Int} (h : ∀ x y, F x y = true → (-1048576 ≤ x ∧ x < 1048576) ∧ (-1048576 ≤ y ∧ y < 1048576) ∧ (-1048576 ≤ x + dx ∧ x + dx < 1048576) ∧ (-1048576 ≤ y + dy ∧ y + dy < 1048576)) : cnt (fun x y => F (x - dx) (y - dy)) = cnt F := by
  have hb : ∀ x y, bit (F x y) ≠ 0 → F x y = true := fun x y => by cases F x y <;> simp [bit]
  have h1 : ∀ y, isum LO WIDE (fun x => bit (F (x - dx) y)) = isum LO WIDE (fun x => bit (F x y)) := fun y => by
    rw [isum_shift (f := fun x => bit (F x y))]
    refine isum_win fun z hz => ?_
    have := h z y (hb z y hz)
    unfold LO WIDE
    omega
  have h2 : ∀ y, isum LO WIDE (fun x => bit (F x y)) ≠ 0 → (-1048576 ≤ y ∧ y < 1048576) ∧ (-1048576 ≤ y + dy ∧ y + dy < 1048576) := fun y hy => by
    by_cases hx : ∃ x, F x y = true
    · obtain ⟨x, hx⟩ := hx
      have := h x y hx
      omega
    · exact absurd (isum_zero fun z _ _ => by
        cases hc : F z y
        · rfl
        · exact absurd ⟨z, hc⟩ hx) hy
  unfold cnt
  rw [show (fun y => isum LO WIDE fun x => bit (F (x - dx) (y - dy))) = fun y => (fun z => isum LO WIDE fun x => bit (F x z)) (y - dy) from funext fun y => h1 (y - dy)]
  rw [isum_shift (f := fun z => isum LO WIDE fun x => bit (F x z))]
  refine isum_win fun z hz => ?_
  have := h2 z hz
  unfold LO WIDE
  omega
theorem shiftL_area {l : List Rect} {dx dy : Int} (hf : Fits l dx dy) : areaL (shiftL l dx dy) = areaL l := by
  rw [areaL_cnt, areaL_cnt, cnt_congr (G := fun x y => hasL l (x - dx) (y - dy)) (shiftL_has hf)]
  exact cnt_shift fun x y h => (shiftL_in hf h).2.2
theorem areaL_form (l : List Rect) : areaL (listOf 0 l []) = areaL l := by
  unfold areaL
  rw [listOf_idem]
theorem areaL_none {l : List Rect} (h : areaL l = 0) : listOf 0 l [] = [] := by
  unfold areaL at h
  cases hl : listOf 0 l [] with
  | nil => rfl
  | cons q t =>
    exfalso
    obtain ⟨he, _, _, _, _, hw, hh⟩ := listOf_good (how := 0) (a := l) (b := []) (q := q) (by rw [hl]; simp)
    rw [hl] at h
    have h1 : areaSum (q :: t) = q.area + areaSum t := rfl
    have h2 := areaSum_nonneg t
    have h3 := Int.mul_pos hw hh
    have h4 := area_good he
    omega
theorem hasL_form (l : List Rect) (x y : Int) : hasL (listOf 0 l []) x y = hasL l x y := by rw [listOf_has, show hasL [] x y = false from rfl, meant0]
theorem shiftL_none {l : List Rect} {dx dy : Int} (hf : Fits l dx dy) (h : areaL l = 0) : listOf 0 (shiftL l dx dy) [] = [] := by
  have hn : ∀ x y, hasL l x y = false := fun x y => by rw [← hasL_form, areaL_none h]; rfl
  rw [← show listOf 0 [] [] = ([] : List Rect) from rfl]
  exact listOf_eq fun x y => by rw [shiftL_has hf, hn]; rfl
/-- Where there are pixels, the steps are small. -/
theorem fits_small {l : List Rect} {dx dy : Int} (hf : Fits l dx dy) (h : areaL l ≠ 0) : (-4194304 ≤ dx ∧ dx ≤ 4194304) ∧ (-4194304 ≤ dy ∧ dy ≤ 4194304) := by
  by_cases hx : ∃ x y, hasL l x y = true
  · obtain ⟨x, y, hx⟩ := hx
    have := shiftL_in hf hx
    omega
  · exfalso
    apply h
    have : listOf 0 l [] = [] := by
      rw [← show listOf 0 [] [] = ([] : List Rect) from rfl]
      refine listOf_eq fun x y => ?_
      cases hc : hasL l x y
      · rfl
      · exact absurd ⟨x, y, hc⟩ hx
    unfold areaL
    rw [this]
    rfl
theorem shiftL_back {l : List Rect} {dx dy : Int} (hf : Fits l dx dy) (h : areaL l ≠ 0) : listOf 0 (shiftL (listOf 0 (shiftL l dx dy) []) (-dx) (-dy)) [] = listOf 0 l [] := by
  have hs := fits_small hf h
  have hb : Fits (listOf 0 (shiftL l dx dy) []) (-dx) (-dy) := fun q hq he => by
    obtain ⟨_, _, _, _, _, hw, hh⟩ := listOf_good hq
    have hp : ∀ x y, q.x ≤ x → x < q.x + q.w → q.y ≤ y → y < q.y + q.h → hasL l (x - dx) (y - dy) = true := fun x y a b c d => by
      rw [← shiftL_has hf, ← hasL_form]
      exact hasL_iff.2 ⟨q, hq, he, a, b, c, d⟩
    have h1 := shiftL_in hf (hp q.x q.y (by omega) (by omega) (by omega) (by omega))
    have h2 := shiftL_in hf (hp (q.x + q.w - 1) (q.y + q.h - 1) (by omega) (by omega) (by omega) (by omega))
    have hg := Rect.empty_iff.1 he
    refine shift_of he (by omega) (by omega) (Rect.empty_iff.2 ?_)
    unfold Rect.move
    dsimp only
    omega
  refine listOf_eq fun x y => ?_
  rw [shiftL_has hb, hasL_form, shiftL_has hf]
  rw [show x - -dx - dx = x by omega, show y - -dy - dy = y by omega]
end Go.Proofs.Ytjghghbldifhaaa
namespace Go.Proofs.Ytjghghbldifhaaa
open Go.RowKit
attribute [local go_sem ↓] eq_rect

theorem shift_to {aA : Option Addr} {ca : Nat} {a Z : List Rect} {dx dy : Int} {w : World} (hZ : listOf 0 (shiftL a dx dy) [] = Z) (ha : Hid (RectsAt w aA a)) (hal : a.length ≤ 2199023255552) :
    Calls Try.prog 18 #[.slice aA a.length ca, .int .i64 dx, .int .i64 dy] w (GivesR Z w) := hZ ▸ shift_list aA ca a dx dy w ha.out hal
theorem area_to {aA : Option Addr} {ca : Nat} {a : List Rect} {n : Int} {w : World} (hZ : areaL a = n) (ha : Hid (RectsAt w aA a)) (hal : a.length ≤ 2199023255552) :
    Calls Try.prog 21 #[.slice aA a.length ca] w fun e w' => e = .returned (.int .i64 n) ∧ Ext w w' := hZ ▸ area_list aA ca a w ha.out (by omega)
theorem has_to {aA : Option Addr} {ca : Nat} {a : List Rect} {x y : Int} {r : Bool} {w : World} (hZ : hasL a x y = r) (ha : Hid (RectsAt w aA a)) (hal : a.length ≤ 2199023255552) :
    Calls Try.prog 22 #[.slice aA a.length ca, .int .i64 x, .int .i64 y] w fun e w' => e = .returned (.bool r) ∧ Ext w w' := hZ ▸ rhas_list aA ca a x y w ha.out (by omega)
theorem form_to {aA : Option Addr} {ca : Nat} {a b L : List Rect} {how : Int} {w : World} (hZ : listOf how a b = L) (ha : Hid (RectsAt w aA L)) (hh : Hid (Held aA ca L.length)) :
    Calls Try.prog 20 #[.slice aA L.length ca] w fun e w' => e = .returned (.bool true) ∧ Ext w w' := form_list aA ca how a b L w hZ ha.out hh.out
theorem is_to {aA : Option Addr} {ca : Nat} {a : List Rect} {r : Bool} {w : World} (hZ : eqR a (listOf 0 a []) = r) (ha : Hid (RectsAt w aA a)) (hal : a.length ≤ 2199023255552) :
    Calls Try.prog 28 #[.slice aA a.length ca] w fun e w' => e = .returned (.bool r) ∧ Ext w w' := hZ ▸ is_any aA ca a w ha.out (by omega)
theorem same_to {aA bA : Option Addr} {ca cb : Nat} {a b : List Rect} {r : Bool} {w : World} (hZ : eqR (listOf 0 a []) (listOf 0 b []) = r) (ha : Hid (RectsAt w aA a)) (hb : Hid (RectsAt w bA b)) (hal : a.length ≤ 2199023255552) (hbl : b.length ≤ 2199023255552) :
    Calls Try.prog 29 #[.slice aA a.length ca, .slice bA b.length cb] w fun e w' => e = .returned (.bool r) ∧ Ext w w' := hZ ▸ rsame_list aA bA ca cb a b w ha.out hb.out (by omega) (by omega)
theorem bounds_to {aA : Option Addr} {ca : Nat} {a : List Rect} {q : Rect} {w : World} (hZ : boundsL a = q) (ha : Hid (RectsAt w aA a)) (hal : a.length ≤ 2199023255552) :
    Calls Try.prog 31 #[.slice aA a.length ca] w fun e w' => e = .returned (.agg #[.int .i64 q.x, .int .i64 q.y, .int .i64 q.w, .int .i64 q.h]) ∧ Ext w w' := hZ ▸ bounds_list aA ca a w ha.out hal
theorem Fits.nil (dx dy : Int) : Fits [] dx dy := fun r hr => by cases hr
theorem Fits.snoc {l : List Rect} {r : Rect} {dx dy : Int} (h : Fits l dx dy) (hr : r.empty = false → r.shift dx dy ≠ Rect.zero) : Fits (l ++ [r]) dx dy := fun q hq => by
  rcases List.mem_append.1 hq with hq | hq
  · exact h q hq
  · obtain rfl : q = r := by simpa using hq
    exact hr

set_option maxHeartbeats 4000000 in
theorem shifts_any (A : Option Addr) (c : Nat) (l : List Rect) (dx dy x y : Int) (w : World) (ra : RectsAt w A l) (na : A = none → c = 0) :
    Calls Try.prog 3 #[.slice A l.length c, .int .i64 dx, .int .i64 dy, .int .i64 x, .int .i64 y] w fun e w' => e = .returned (.bool true) ∧ Ext w w' := by
  by_cases h1 : l.length ≤ 24
  case neg =>
    have d1 : ((24 : Int) < l.length) = True := by simp; omega
    clear ra
    go_enter Try.func3, Try.ntmps3
    go_wp2_with fail
    refine (wakes_any _).mono ?_
    rintro e w1 ⟨rfl, hE⟩
    go_wp2_with fail
    go_ret
    exact ⟨rfl, hE⟩
  have d1 : ((24 : Int) < l.length) = False := by simp; omega
  by_cases hx1 : x < -1099511627776
  · have d2 : (x < -1099511627776) = True := by simp [hx1]
    clear ra
    go_enter Try.func3, Try.ntmps3
    go_wp2_with fail
    refine (wakes_any _).mono ?_
    rintro e w1 ⟨rfl, hE⟩
    go_wp2_with fail
    go_ret
    exact ⟨rfl, hE⟩
  have d2 : (x < -1099511627776) = False := by simp [hx1]
  by_cases hx2 : 1099511627776 < x
  · have d3 : ((1099511627776 : Int) < x) = True := by simp [hx2]
    clear ra
    go_enter Try.func3, Try.ntmps3
    go_wp2_with fail
    refine (wakes_any _).mono ?_
    rintro e w1 ⟨rfl, hE⟩
    go_wp2_with fail
    go_ret
    exact ⟨rfl, hE⟩
  have d3 : ((1099511627776 : Int) < x) = False := by simp [hx2]
  by_cases hy1 : y < -1099511627776
  · have d4 : (y < -1099511627776) = True := by simp [hy1]
    clear ra
    go_enter Try.func3, Try.ntmps3
    go_wp2_with fail
    refine (wakes_any _).mono ?_
    rintro e w1 ⟨rfl, hE⟩
    go_wp2_with fail
    go_ret
    exact ⟨rfl, hE⟩
  have d4 : (y < -1099511627776) = False := by simp [hy1]
  by_cases hy2 : 1099511627776 < y
  · have d5 : ((1099511627776 : Int) < y) = True := by simp [hy2]
    clear ra
    go_enter Try.func3, Try.ntmps3
    go_wp2_with fail
    refine (wakes_any _).mono ?_
    rintro e w1 ⟨rfl, hE⟩
    go_wp2_with fail
    go_ret
    exact ⟨rfl, hE⟩
  have d5 : ((1099511627776 : Int) < y) = False := by simp [hy2]
  go_enter Try.func3, Try.ntmps3
  go_wp2_with fail
  go_loopw [11] (fun iv wr => ∃ k : Nat, k ≤ l.length ∧ iv = .int .i64 k ∧ Fits (l.take k) dx dy ∧ Ext w wr) (fun iv _ => l.length - (intOf iv).toNat)
  case atStart => exact ⟨0, Nat.zero_le _, rfl, Fits.nil _ _, Ext.refl _⟩
  case round =>
    obtain ⟨k, hk, rfl, hf, hE⟩ := hrel
    have HF := Lib.hid hf
    clear hf
    by_cases hlt : k < l.length
    · obtain ⟨b, off, rfl, hc⟩ := (ra.ext hE).form (by omega)
      obtain ⟨c0, c1, c2, c3⟩ := hc k l[k] (List.getElem?_eq_getElem hlt)
      have ht := List.take_succ_eq_append_getElem hlt
      clear hc
      generalize l[k] = r at *
      have HT := Lib.hid ht
      have he := fun w => empty_any r.x r.y r.w r.h w
      have hs := fun w => shift_any r.x r.y r.w r.h dx dy w
      simp only [show Rect.mk r.x r.y r.w r.h = r from rfl] at he hs
      obtain ⟨q, hq⟩ : ∃ q, r.shift dx dy = q := ⟨_, rfl⟩
      simp only [hq] at hs
      have HQ := Lib.hid hq
      clear ht hq
      cases hem : r.empty
      · simp only [hem] at he
        have HE := Lib.hid hem
        clear hem
        go_wp2_with fail
        refine (he _).mono ?_
        rintro e w1 ⟨rfl, hb1⟩
        replace c0 := hb1.cellOf c0
        replace c1 := hb1.cellOf c1
        replace c2 := hb1.cellOf c2
        replace c3 := hb1.cellOf c3
        go_wp2_with fail
        refine (hs _).mono ?_
        rintro e w2 ⟨rfl, hb2⟩
        have hE2 := hE.trans (hb1.trans hb2)
        clear hb1 hb2 hs he
        by_cases hz : q = Rect.zero
        · have hz1 : Rect.eqB ⟨q.x, q.y, q.w, q.h⟩ ⟨0, 0, 0, 0⟩ = true := Rect.eqB_iff.2 hz
          clear hz
          go_wp2_with fail
          refine (wakes_any _).mono ?_
          rintro e w3 ⟨rfl, hb3⟩
          go_wp2_with fail
          go_ret
          exact ⟨rfl, hE2.trans hb3⟩
        · have hz1 : Rect.eqB ⟨q.x, q.y, q.w, q.h⟩ ⟨0, 0, 0, 0⟩ = false := by
            cases hh : Rect.eqB ⟨q.x, q.y, q.w, q.h⟩ ⟨0, 0, 0, 0⟩
            · rfl
            · exact absurd (Rect.eqB_iff.1 hh) hz
          have HZ := Lib.hid hz
          clear hz
          go_wp2_with fail
          exact ⟨⟨k + 1, by omega, by go_num, by rw [HT.out]; exact HF.out.snoc (fun _ => by rw [HQ.out]; exact HZ.out), hE2⟩, by simp [intOf]; omega⟩
      · simp only [hem] at he
        have HE := Lib.hid hem
        clear hem
        go_wp2_with fail
        refine (he _).mono ?_
        rintro e w1 ⟨rfl, hb1⟩
        go_wp2_with fail
        exact ⟨⟨k + 1, by omega, by go_num, by rw [HT.out]; exact HF.out.snoc (fun h => by rw [HE.out] at h; cases h), hE.trans hb1⟩, by simp [intOf]; omega⟩
    · obtain rfl : k = l.length := by omega
      have hf := HF.out
      rw [List.take_length] at hf
      replace ra := Lib.hid (ra.ext hE)
      have ar := shiftL_area hf
      obtain ⟨S, hS⟩ : ∃ S, listOf 0 (shiftL l dx dy) [] = S := ⟨_, rfl⟩
      have lS : S.length ≤ 2199023255552 := hS ▸ listOf_length 0 (shiftL l dx dy) []
      have aS : areaL S = areaL l := by rw [← hS, areaL_form, ar]
      obtain ⟨g, hg⟩ : ∃ g, areaL l = g := ⟨_, rfl⟩
      rw [hg] at aS
      replace hS := Lib.hid hS
      replace aS := Lib.hid aS
      replace hg := Lib.hid hg
      have HFF := Lib.hid hf
      clear hf ar HF hlt hk
      go_wp2_with fail
      refine (own_to ra na (by omega)).mono ?_
      rintro e w1 ⟨B1, e1, rfl, o, n1, E⟩
      replace ra := Lib.hid (ra.out.ext E)
      have r1 := Lib.hid (OwnR.at o)
      clear o
      replace hE := hE.trans E
      clear E
      go_wp2_with fail
      refine (shift_to hS.out r1 (by omega)).mono ?_
      rintro e w2 ⟨BS, eS, rfl, o, nS, E⟩
      replace ra := Lib.hid (ra.out.ext E)
      have kS := Lib.hid (OwnR.held o)
      have rS := Lib.hid (OwnR.at o)
      clear o r1
      replace hE := hE.trans E
      clear E
      go_wp2_with fail
      refine (form_to hS.out rS kS).mono ?_
      rintro e w3 ⟨rfl, E⟩
      replace ra := Lib.hid (ra.out.ext E)
      replace rS := Lib.hid (rS.out.ext E)
      replace hE := hE.trans E
      clear E
      go_wp2_with fail
      refine (area_to hg.out ra (by omega)).mono ?_
      rintro e w4 ⟨rfl, E⟩
      replace ra := Lib.hid (ra.out.ext E)
      replace rS := Lib.hid (rS.out.ext E)
      replace hE := hE.trans E
      clear E
      by_cases hg0 : g = 0
      · subst hg0
        have hS0 : S = [] := hS.out.symm.trans (shiftL_none HFF.out hg.out)
        subst hS0
        go_wp2_with fail
        refine (wakes_any _).mono ?_
        rintro e w5 ⟨rfl, E⟩
        go_wp2_with fail
        go_ret
        exact ⟨rfl, hE.trans E⟩
      · have hg1 : (g == 0) = false := by simpa using hg0
        have hgl : areaL l ≠ 0 := by rw [hg.out]; exact hg0
        obtain ⟨⟨a1, a2⟩, a3, a4⟩ := fits_small HFF.out hgl
        have hb := shiftL_back HFF.out hgl
        rw [hS.out] at hb
        have hsx : hasL S (x + dx) (y + dy) = hasL l x y := by
          rw [← hS.out, hasL_form, shiftL_has HFF.out, show x + dx - dx = x by omega, show y + dy - dy = y by omega]
        obtain ⟨β, hβ⟩ : ∃ r, hasL l x y = r := ⟨_, rfl⟩
        rw [hβ] at hsx
        obtain ⟨F, hF⟩ : ∃ S, listOf 0 l [] = S := ⟨_, rfl⟩
        have lF : F.length ≤ 2199023255552 := hF ▸ listOf_length 0 l []
        rw [hF] at hb
        replace hF := Lib.hid hF
        replace hb := Lib.hid hb
        replace hβ := Lib.hid hβ
        replace hsx := Lib.hid hsx
        have w1' : IntKind.i64.wrap (x + dx) = x + dx := IntWalk.i64_in _ (by omega)
        have w2' : IntKind.i64.wrap (y + dy) = y + dy := IntWalk.i64_in _ (by omega)
        have w3' : IntKind.i64.wrap (-dx) = -dx := IntWalk.i64_in _ (by omega)
        have w4' : IntKind.i64.wrap (-dy) = -dy := IntWalk.i64_in _ (by omega)
        have w5' : wrap64 (-dx) = -dx := IntWalk.wrap64_in _ (by omega)
        have w6' : wrap64 (-dy) = -dy := IntWalk.wrap64_in _ (by omega)
        have t1 : (g == g) = true := by simp
        have t2 : (β == β) = true := by simp
        clear hgl hg0
        go_wp2_with fail
        refine (area_to aS.out rS (by omega)).mono ?_
        rintro e w5 ⟨rfl, E⟩
        replace ra := Lib.hid (ra.out.ext E)
        replace rS := Lib.hid (rS.out.ext E)
        replace hE := hE.trans E
        clear E
        go_wp2_with fail
        refine (area_to hg.out ra (by omega)).mono ?_
        rintro e w6 ⟨rfl, E⟩
        replace ra := Lib.hid (ra.out.ext E)
        replace rS := Lib.hid (rS.out.ext E)
        replace hE := hE.trans E
        clear E
        go_wp2_with fail
        refine (has_to hsx.out rS (by omega)).mono ?_
        rintro e w7 ⟨rfl, E⟩
        replace ra := Lib.hid (ra.out.ext E)
        replace rS := Lib.hid (rS.out.ext E)
        replace hE := hE.trans E
        clear E
        go_wp2_with fail
        refine (has_to hβ.out ra (by omega)).mono ?_
        rintro e w8 ⟨rfl, E⟩
        replace ra := Lib.hid (ra.out.ext E)
        replace rS := Lib.hid (rS.out.ext E)
        replace hE := hE.trans E
        clear E
        go_wp2_with fail
        refine (shift_to hb.out rS (by omega)).mono ?_
        rintro e w9 ⟨BF, eF, rfl, o, nF, E⟩
        replace ra := Lib.hid (ra.out.ext E)
        have rF := Lib.hid (OwnR.at o)
        clear o
        replace hE := hE.trans E
        clear E
        go_wp2_with fail
        refine (own_to ra na (by omega)).mono ?_
        rintro e w10 ⟨B2, e2, rfl, o, n2, E⟩
        replace rF := Lib.hid (rF.out.ext E)
        have r2 := Lib.hid (OwnR.at o)
        clear o
        replace hE := hE.trans E
        clear E
        go_wp2_with fail
        refine (of_to hF.out r2 (by omega)).mono ?_
        rintro e w11 ⟨BG, eG, rfl, o, nG, E⟩
        replace rF := Lib.hid (rF.out.ext E)
        have rG := Lib.hid (OwnR.at o)
        clear o
        replace hE := hE.trans E
        clear E
        go_wp2_with fail
        refine (rects_to (eqR_true rfl) rF rG (by omega) (by omega)).mono ?_
        rintro e w12 ⟨rfl, E⟩
        replace hE := hE.trans E
        clear E
        go_wp2_with fail
        refine (wakes_any _).mono ?_
        rintro e w13 ⟨rfl, E⟩
        go_wp2_with fail
        go_ret
        exact ⟨rfl, hE.trans E⟩
end Go.Proofs.Ytjghghbldifhaaa
