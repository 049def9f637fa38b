/- Lists of rectangles: how they lie in memory; the walks of vignetteref02 Has, in, Rects, alike, and of the law's own and rects. -/
/- The walk of vignetteref02.edges: where rectangles begin and end. -/
/- append onto a row of the call's own, and where the new row lies. No program in sight. -/
import Derived.Test.YtjghghbldifhaaaRefD
import Derived.Test.YtjghghbldifhaaaRefB
set_option linter.unusedVariables false
set_option linter.unusedSimpArgs false
namespace Go.Proofs.Ytjghghbldifhaaa
open Go.RowKit

def rcell (r : Rect) : List Value := [.int .i64 r.x, .int .i64 r.y, .int .i64 r.w, .int .i64 r.h]
def rcells (l : List Rect) : List Value := l.flatMap rcell
theorem rcells_length (l : List Rect) : (rcells l).length = l.length * 4 := by
  induction l with
  | nil => rfl
  | cons r l ih => simp [rcells, rcell] at ih ⊢; omega
theorem rcells_get : ∀ {l : List Rect} {i : Nat} {r : Rect}, l[i]? = some r → ∀ j, j < 4 → (rcells l)[i * 4 + j]? = (rcell r)[j]?
  | [], i, r, h, _, _ => by simp at h
  | s :: l, 0, r, h, j, hj => by
    simp at h
    subst h
    show (rcell s ++ rcells l)[0 * 4 + j]? = _
    rw [Nat.zero_mul, Nat.zero_add, List.getElem?_append_left (by simpa [rcell] using hj)]
  | s :: l, i + 1, r, h, j, hj => by
    have ih := rcells_get (l := l) (i := i) (r := r) (by simpa using h) j hj
    show (rcell s ++ rcells l)[(i + 1) * 4 + j]? = _
    rw [List.getElem?_append_right (by simp [rcell]; omega)]
    rw [show (i + 1) * 4 + j - (rcell s).length = i * 4 + j by simp [rcell]; omega]
    exact ih
/-- A list of rectangles that is read. -/
def RectsAt (w : World) (A : Option Addr) (l : List Rect) : Prop := ∀ i r, l[i]? = some r → ∃ b off, A = some ⟨b, off, none⟩ ∧ w.cell? ⟨b, off + i * 4, none⟩ = some (.int .i64 r.x) ∧ w.cell? ⟨b, off + i * 4 + 1, none⟩ = some (.int .i64 r.y) ∧ w.cell? ⟨b, off + i * 4 + 2, none⟩ = some (.int .i64 r.w) ∧ w.cell? ⟨b, off + i * 4 + 3, none⟩ = some (.int .i64 r.h)
theorem RectsAt.ext {w w1 : World} {A : Option Addr} {l : List Rect} (h : RectsAt w A l) (hb : Ext w w1) : RectsAt w1 A l := fun i r hi => by
  obtain ⟨b, off, h1, h2, h3, h4, h5⟩ := h i r hi
  exact ⟨b, off, h1, hb.cellOf h2, hb.cellOf h3, hb.cellOf h4, hb.cellOf h5⟩
theorem RectsAt.nil (w : World) (A : Option Addr) : RectsAt w A [] := fun i r hi => by simp at hi
/-- The cells of rectangle i, the address known. -/
theorem RectsAt.form {w : World} {A : Option Addr} {l : List Rect} (h : RectsAt w A l) (hn : 0 < l.length) : ∃ b off, A = some ⟨b, off, none⟩ ∧ ∀ i r, l[i]? = some r → w.cell? ⟨b, off + i * 4, none⟩ = some (.int .i64 r.x) ∧ w.cell? ⟨b, off + i * 4 + 1, none⟩ = some (.int .i64 r.y) ∧ w.cell? ⟨b, off + i * 4 + 2, none⟩ = some (.int .i64 r.w) ∧ w.cell? ⟨b, off + i * 4 + 3, none⟩ = some (.int .i64 r.h) := by
  obtain ⟨b, off, e, _⟩ := h 0 l[0] (List.getElem?_eq_getElem hn)
  refine ⟨b, off, e, fun i r hi => ?_⟩
  obtain ⟨b', off', e', hc⟩ := h i r hi
  rw [e] at e'
  injection e' with e'
  injection e' with e1 e2
  subst e1; subst e2
  exact hc
/-- A row of the call's own that holds these rectangles. -/
abbrev OwnR (w : World) (base : Nat) (v : Value) (l : List Rect) : Prop := w.ownsRow base 26 4 v l.length (rcells l)
theorem OwnR.at {w : World} {base : Nat} {A : Option Addr} {c : Nat} {l : List Rect} (h : OwnR w base (.slice A l.length c) l) : RectsAt w A l := fun i r hi => by
  have hlt : i < l.length := (List.getElem?_eq_some_iff.1 hi).1
  obtain ⟨g, rfl, _⟩ : ∃ g, A = some ⟨g, 0, none⟩ ∧ True := by
    obtain ⟨g, cap, e, _⟩ := World.ownsRow.form h (by omega)
    injection e with e
    exact ⟨g, e, trivial⟩
  have hc := fun j (hj : j < 4) => (World.ownsRow.cellAt h (i * 4 + j) (by omega)).trans (rcells_get hi j hj)
  refine ⟨g, 0, rfl, ?_, ?_, ?_, ?_⟩
  · have := hc 0 (by decide); rw [Nat.zero_add]; simpa [rcell] using this
  · have := hc 1 (by decide); rw [Nat.zero_add]; simpa [rcell] using this
  · have := hc 2 (by decide); rw [Nat.zero_add]; simpa [rcell] using this
  · have := hc 3 (by decide); rw [Nat.zero_add]; simpa [rcell] using this
theorem RectsAt.shows {w : World} {A : Option Addr} {l : List Rect} (h : RectsAt w A l) : Shows w A (rcells l) := by
  intro hne
  have hn : 0 < l.length := by
    rcases l with _ | ⟨r, l⟩
    · exact absurd rfl hne
    · simp
  obtain ⟨b, off, rfl, hc⟩ := h.form hn
  refine ⟨_, rfl, fun j u hu => ?_⟩
  have hj : j < l.length * 4 := by
    rw [← rcells_length]
    exact (List.getElem?_eq_some_iff.1 hu).1
  have hi : j / 4 < l.length := by omega
  obtain ⟨h0, h1, h2, h3⟩ := hc (j / 4) l[j / 4] (List.getElem?_eq_getElem hi)
  have hg := rcells_get (List.getElem?_eq_getElem hi) (j % 4) (Nat.mod_lt _ (by decide))
  have e : j / 4 * 4 + j % 4 = j := by omega
  rw [e, hu] at hg
  rw [add_plain]
  have hm : j % 4 < 4 := Nat.mod_lt _ (by decide)
  generalize hq : j % 4 = q at *
  have ea : off + j = off + j / 4 * 4 + q := by omega
  rw [ea, hg]
  rcases q with _ | _ | _ | _ | q
  · simpa [rcell] using h0
  · simpa [rcell] using h1
  · simpa [rcell] using h2
  · simpa [rcell] using h3
  · omega
theorem info_rect : (Try.prog.info? 26).map (fun i => (i.zero, i.size, i.bytes)) = some (some (.agg #[.int .i64 0, .int .i64 0, .int .i64 0, .int .i64 0]), 4, 32) := by kernel_rfl
theorem rcells_one {l : List Rect} : ∀ u ∈ rcells l, u.oneCell' = true := by
  intro u hu
  obtain ⟨r, _, h⟩ := List.mem_flatMap.1 hu
  simp only [rcell, List.mem_cons, List.not_mem_nil, or_false] at h
  rcases h with rfl | rfl | rfl | rfl <;> rfl
theorem neq_rect (x y a b p q c d : Int) (w : World) : (binOp .neq 26 (.agg #[.int .i64 x, .int .i64 y, .int .i64 a, .int .i64 b]) (.agg #[.int .i64 p, .int .i64 q, .int .i64 c, .int .i64 d])).run Try.prog w = .ok (.bool (!Rect.eqB ⟨x, y, a, b⟩ ⟨p, q, c, d⟩)) w := by
  have hS : Try.prog.underlying 26 = some (.struct (Try.prog.fieldsOf 26)) := by kernel_rfl
  have hp : Try.prog.stoodInHeld 26 = false := by kernel_rfl
  rw [run_neq_struct, show (10000 : Nat) = 9999 + 1 from rfl, run_equalIn_agg w 9999 26 _ _ hS hp]
  simp only [Program.fieldsOf, Try.underlying26]
  go_simp
  simp only [Rect.eqB]
  by_cases h1 : x = p <;> by_cases h2 : y = q <;> by_cases h3 : a = c <;> by_cases h4 : b = d <;> simp [h1, h2, h3, h4]

theorem ext_none' {a b c : World} (h : Ext a b) (hg : b.grownBy c (Value.slice none 0 0).ownBlock) : Ext a c := Below.grown h hg h.size (fun r e => by simp [Value.ownBlock] at e)
def hasL (l : List Rect) (x y : Int) : Bool := l.any fun r => r.has x y
set_option maxHeartbeats 1000000 in
theorem rhasl_any (A : Option Addr) (c : Nat) (l : List Rect) (x y : Int) (w : World) (hl : RectsAt w A l) (hm : l.length ≤ 9223372036854775807) :
    Calls Try.prog 34 #[.slice A l.length c, .int .i64 x, .int .i64 y] w fun e w' => e = .returned (.bool (hasL l x y)) ∧ Ext w w' := by
  go_enter Try.func34, Try.ntmps34
  go_wp2_with fail
  go_loopw [7] (fun i wr => ∃ k : Nat, k ≤ l.length ∧ i = .int .i64 k ∧ hasL l x y = hasL (l.drop k) x y ∧ Ext w wr) (fun i _ => l.length - (intOf i).toNat)
  case atStart => exact ⟨0, Nat.zero_le _, rfl, rfl, Ext.refl _⟩
  case round =>
    obtain ⟨k, hk, rfl, hg, hE⟩ := hrel
    have Hg := Lib.hid hg
    clear hg
    by_cases hlt : k < l.length
    · obtain ⟨b, off, rfl, hc⟩ := (hl.ext hE).form (by omega)
      obtain ⟨h0, h1, h2, h3⟩ := hc k l[k] (List.getElem?_eq_getElem hlt)
      have hd : hasL (l.drop k) x y = (Rect.has l[k] x y || hasL (l.drop (k + 1)) x y) := by rw [List.drop_eq_getElem_cons hlt]; rfl
      rw [hd] at Hg
      clear hd hc
      generalize l[k] = r at *
      have hh := fun w => rhas_any r.x r.y r.w r.h x y w
      simp only [show Rect.mk r.x r.y r.w r.h = r from rfl] at hh
      cases hb : Rect.has r x y
      · simp only [hb] at hh
        rw [hb, Bool.false_or] at Hg
        go_wp2_with fail
        refine (hh _).mono ?_
        rintro e w1 ⟨rfl, hb1⟩
        clear hh
        go_wp2_with fail
        exact ⟨⟨k + 1, by omega, by go_num, Hg.out, hE.trans hb1⟩, by simp [intOf]; omega⟩
      · simp only [hb] at hh
        rw [hb, Bool.true_or] at Hg
        go_wp2_with fail
        refine (hh _).mono ?_
        rintro e w1 ⟨rfl, hb1⟩
        clear hh
        go_wp2_with fail
        go_ret
        exact ⟨by rw [Hg.out]; rfl, hE.trans hb1⟩
    · obtain rfl : k = l.length := by omega
      have He : Hid (hasL l x y = false) := by
        have := Hg.out
        rw [List.drop_length] at this
        exact Lib.hid (this.trans rfl)
      clear Hg
      go_wp2_with fail
      go_ret
      exact ⟨by rw [He.out]; rfl, hE⟩

/-- What is meant: 0: one of both, 1: the first alone, else both. -/
def meant (how : Int) (p q : Bool) : Bool := if how = 0 then p || q else if how = 1 then p && !q else p && q
set_option maxHeartbeats 1000000 in
theorem rin2_any (A B : Option Addr) (c d : Nat) (a b : List Rect) (x y how : Int) (w : World) (ha : RectsAt w A a) (hb : RectsAt w B b) (hm : a.length ≤ 9223372036854775807) (hn : b.length ≤ 9223372036854775807) :
    Calls Try.prog 88 #[.slice A a.length c, .slice B b.length d, .int .i64 x, .int .i64 y, .int .i64 how] w fun e w' => e = .returned (.bool (meant how (hasL a x y) (hasL b x y))) ∧ Ext w w' := by
  have h1 := fun w' (h : Ext w w') => rhasl_any A c a x y w' (ha.ext h) hm
  have h2 := fun w' (h : Ext w w') => rhasl_any B d b x y w' (hb.ext h) hn
  obtain ⟨p, hp⟩ : ∃ p, hasL a x y = p := ⟨_, rfl⟩
  obtain ⟨q, hq⟩ : ∃ q, hasL b x y = q := ⟨_, rfl⟩
  rw [hp, hq]
  simp only [hp] at h1
  simp only [hq] at h2
  clear hp hq ha hb
  have hw : how = 0 ∨ how = 1 ∨ (how == 0) = false ∧ (how == 1) = false := by
    by_cases h0 : how = 0
    · exact .inl h0
    · by_cases h1 : how = 1
      · exact .inr (.inl h1)
      · exact .inr (.inr (by simp [h0, h1]))
  rcases hw with rfl | rfl | ⟨e0, e1⟩
  all_goals
    cases p <;> cases q
    all_goals
      go_enter Try.func88, Try.ntmps88
      go_wp2_with fail
      refine (h1 _ (Ext.refl _)).mono ?_
      rintro e w1 ⟨rfl, hb1⟩
      go_wp2_with fail
      refine (h2 _ hb1).mono ?_
      rintro e w2 ⟨rfl, hb2⟩
      go_wp2_with fail
      go_ret
      exact ⟨by first | rfl | (have e0' : how ≠ 0 := by simpa using e0
                               have e1' : how ≠ 1 := by simpa using e1
                               simp [meant, e0', e1']), hb1.trans hb2⟩

set_option maxHeartbeats 1000000 in
theorem lown_any (A : Option Addr) (c : Nat) (l : List Rect) (w : World) (hl : RectsAt w A l) (hc : A = none → c = 0) (hm : l.length ≤ 4398046511104) :
    Calls Try.prog 19 #[.slice A l.length c] w fun e w' => ∃ B d, e = .returned (.slice B l.length d) ∧ OwnR w' w.heap.size (.slice B l.length d) l ∧ (B = none → d = 0) ∧ Ext w w' := by
  go_enter Try.func19, Try.ntmps19
  go_wp2_with (refine wpList_app w.heap.size rfl (.const (.slice none 0 0)) (.tmp 3) 22 26 (.agg #[.int .i64 0, .int .i64 0, .int .i64 0, .int .i64 0]) 4 32 rfl Try.underlying22 info_rect rfl (by decide) (by decide) (.slice none 0 0) 0 [] rfl (World.ownsRow_nil _ _ _ _) A l.length c (rcells l) rfl hc (rcells_length l) hl.shows rcells_one (by omega) (Nat.le_refl _) (fun v' w' hown' hg => ?_); obtain ⟨B, d, rfl⟩ := row_slice hown')
  go_ret
  rw [Nat.zero_add] at hown'
  refine ⟨B, d, by simp, hown', ?_, ext_none' (Ext.refl _) hg⟩
  rintro rfl
  rcases hown'.2 with ⟨h1, _⟩ | ⟨_, _, _, h1, _⟩
  · injection h1
  · cases h1

def eqR (a b : List Rect) : Bool := decide (a = b)
theorem eqR_len {a b : List Rect} (h : a.length ≠ b.length) : eqR a b = false := by simp only [eqR, decide_eq_false_iff_not]; intro e; exact h (by rw [e])
section
attribute [local go_sem ↓] neq_rect
set_option maxHeartbeats 2000000 in
theorem rrects_any (A B : Option Addr) (c d : Nat) (a b : List Rect) (w : World) (ha : RectsAt w A a) (hb : RectsAt w B b) (hm : a.length ≤ 9223372036854775807) (hn : b.length ≤ 9223372036854775807) :
    Calls Try.prog 33 #[.slice A a.length c, .slice B b.length d] w fun e w' => e = .returned (.bool (eqR a b)) ∧ Ext w w' := by
  by_cases hl : a.length = b.length
  · have hl1 : ((a.length : Nat) != b.length) = false := by simp [hl]
    go_enter Try.func33, Try.ntmps33
    have Hl := Lib.hid hl
    clear hl
    go_wp2_with fail
    go_loopw [5] (fun i wr => ∃ k : Nat, k ≤ a.length ∧ i = .int .i64 k ∧ a.take k = b.take k ∧ Ext w wr) (fun i _ => a.length - (intOf i).toNat)
    case atStart => exact ⟨0, Nat.zero_le _, rfl, by simp, Ext.refl _⟩
    case round =>
      obtain ⟨k, hk, rfl, ht, hE⟩ := hrel
      have Ht := Lib.hid ht
      clear ht
      by_cases hlt : k < a.length
      · have hlt2 : k < b.length := by have := Hl.out; omega
        obtain ⟨b1, o1, rfl, h1⟩ := (ha.ext hE).form (by omega)
        obtain ⟨b2, o2, rfl, h2⟩ := (hb.ext hE).form (by omega)
        obtain ⟨p0, p1, p2, p3⟩ := h1 k a[k] (List.getElem?_eq_getElem hlt)
        obtain ⟨q0, q1, q2, q3⟩ := h2 k b[k] (List.getElem?_eq_getElem hlt2)
        have t1 := List.take_succ_eq_append_getElem hlt
        have t2 := List.take_succ_eq_append_getElem hlt2
        have Ht2 : Hid (a[k] = b[k] → a.take (k + 1) = b.take (k + 1)) := fun e => by rw [t1, t2, Ht.out, e]
        have Ht3 : Hid (a[k] ≠ b[k] → eqR a b = false) := fun e => by
          simp only [eqR, decide_eq_false_iff_not]
          intro e2
          subst e2
          exact e rfl
        clear t1 t2 h1 h2
        generalize a[k] = p at *
        generalize b[k] = q at *
        cases he : Rect.eqB ⟨p.x, p.y, p.w, p.h⟩ ⟨q.x, q.y, q.w, q.h⟩
        · have hne : p ≠ q := fun e => by
            subst e
            rw [Rect.eqB_iff.2 rfl] at he
            cases he
          have HN := Lib.hid (Ht3.out hne)
          clear hne Ht2 Ht3
          go_wp2_with fail
          go_quiet (fail)
          go_wp2_with fail
          go_ret
          exact ⟨by rw [HN.out]; rfl, hE.drewN _⟩
        · have hpq : p = q := Rect.eqB_iff.1 he
          have HT := Lib.hid (Ht2.out hpq)
          clear hpq Ht2 Ht3
          go_wp2_with fail
          go_quiet (fail)
          go_wp2_with fail
          exact ⟨⟨k + 1, by omega, by go_num, HT.out, hE.drewN _⟩, by simp [intOf]; omega⟩
      · have he : eqR a b = true := by
          have := Ht.out
          have h2 := Hl.out
          rw [List.take_of_length_le (by omega), List.take_of_length_le (by omega)] at this
          simpa [eqR] using this
        have He := Lib.hid he
        clear he
        go_wp2_with fail
        go_ret
        exact ⟨by rw [He.out]; rfl, hE⟩
  · have hl1 : ((a.length : Nat) != b.length) = true := by simpa using hl
    rw [eqR_len hl]
    go_enter Try.func33, Try.ntmps33
    go_wp2_with fail
    go_ret
    exact ⟨rfl, Ext.refl _⟩
set_option maxHeartbeats 2000000 in
theorem lrects_any (A B : Option Addr) (c d : Nat) (a b : List Rect) (w : World) (ha : RectsAt w A a) (hb : RectsAt w B b) (hm : a.length ≤ 9223372036854775807) (hn : b.length ≤ 9223372036854775807) :
    Calls Try.prog 23 #[.slice A a.length c, .slice B b.length d] w fun e w' => e = .returned (.bool (eqR a b)) ∧ Ext w w' := by
  by_cases hl : a.length = b.length
  · have hl1 : ((a.length : Nat) != b.length) = false := by simp [hl]
    go_enter Try.func23, Try.ntmps23
    have Hl := Lib.hid hl
    clear hl
    go_wp2_with fail
    go_loopw [5] (fun i wr => ∃ k : Nat, k ≤ a.length ∧ i = .int .i64 k ∧ a.take k = b.take k ∧ Ext w wr) (fun i _ => a.length - (intOf i).toNat)
    case atStart => exact ⟨0, Nat.zero_le _, rfl, by simp, Ext.refl _⟩
    case round =>
      obtain ⟨k, hk, rfl, ht, hE⟩ := hrel
      have Ht := Lib.hid ht
      clear ht
      by_cases hlt : k < a.length
      · have hlt2 : k < b.length := by have := Hl.out; omega
        obtain ⟨b1, o1, rfl, h1⟩ := (ha.ext hE).form (by omega)
        obtain ⟨b2, o2, rfl, h2⟩ := (hb.ext hE).form (by omega)
        obtain ⟨p0, p1, p2, p3⟩ := h1 k a[k] (List.getElem?_eq_getElem hlt)
        obtain ⟨q0, q1, q2, q3⟩ := h2 k b[k] (List.getElem?_eq_getElem hlt2)
        have t1 := List.take_succ_eq_append_getElem hlt
        have t2 := List.take_succ_eq_append_getElem hlt2
        have Ht2 : Hid (a[k] = b[k] → a.take (k + 1) = b.take (k + 1)) := fun e => by rw [t1, t2, Ht.out, e]
        have Ht3 : Hid (a[k] ≠ b[k] → eqR a b = false) := fun e => by
          simp only [eqR, decide_eq_false_iff_not]
          intro e2
          subst e2
          exact e rfl
        clear t1 t2 h1 h2
        generalize a[k] = p at *
        generalize b[k] = q at *
        cases he : Rect.eqB ⟨p.x, p.y, p.w, p.h⟩ ⟨q.x, q.y, q.w, q.h⟩
        · have hne : p ≠ q := fun e => by
            subst e
            rw [Rect.eqB_iff.2 rfl] at he
            cases he
          have HN := Lib.hid (Ht3.out hne)
          clear hne Ht2 Ht3
          go_wp2_with fail
          go_quiet (fail)
          go_wp2_with fail
          go_ret
          exact ⟨by rw [HN.out]; rfl, hE.drewN _⟩
        · have hpq : p = q := Rect.eqB_iff.1 he
          have HT := Lib.hid (Ht2.out hpq)
          clear hpq Ht2 Ht3
          go_wp2_with fail
          go_quiet (fail)
          go_wp2_with fail
          exact ⟨⟨k + 1, by omega, by go_num, HT.out, hE.drewN _⟩, by simp [intOf]; omega⟩
      · have he : eqR a b = true := by
          have := Ht.out
          have h2 := Hl.out
          rw [List.take_of_length_le (by omega), List.take_of_length_le (by omega)] at this
          simpa [eqR] using this
        have He := Lib.hid he
        clear he
        go_wp2_with fail
        go_ret
        exact ⟨by rw [He.out]; rfl, hE⟩
  · have hl1 : ((a.length : Nat) != b.length) = true := by simpa using hl
    rw [eqR_len hl]
    go_enter Try.func23, Try.ntmps23
    go_wp2_with fail
    go_ret
    exact ⟨rfl, Ext.refl _⟩
end

/-- Have two bands the same across? -/
def alikeR (a b : List Rect) : Bool := decide (a.map (fun r => (r.x, r.w)) = b.map (fun r => (r.x, r.w)))
theorem alikeR_len {a b : List Rect} (h : a.length ≠ b.length) : alikeR a b = false := by
  simp only [alikeR, decide_eq_false_iff_not]
  intro e
  have := congrArg List.length e
  simp at this
  exact h this
set_option maxHeartbeats 2000000 in
theorem ralike_any (A B : Option Addr) (c d : Nat) (a b : List Rect) (w : World) (ha : RectsAt w A a) (hb : RectsAt w B b) (hm : a.length ≤ 9223372036854775807) (hn : b.length ≤ 9223372036854775807) :
    Calls Try.prog 89 #[.slice A a.length c, .slice B b.length d] w fun e w' => e = .returned (.bool (alikeR a b)) ∧ Ext w w' := by
  by_cases hl : a.length = b.length
  · have hl1 : ((a.length : Nat) != b.length) = false := by simp [hl]
    go_enter Try.func89, Try.ntmps89
    have Hl := Lib.hid hl
    clear hl
    go_wp2_with fail
    go_loopw [5] (fun i wr => ∃ k : Nat, k ≤ a.length ∧ i = .int .i64 k ∧ (a.take k).map (fun r => (r.x, r.w)) = (b.take k).map (fun r => (r.x, r.w)) ∧ Ext w wr) (fun i _ => a.length - (intOf i).toNat)
    case atStart => exact ⟨0, Nat.zero_le _, rfl, by simp, Ext.refl _⟩
    case round =>
      obtain ⟨k, hk, rfl, ht, hE⟩ := hrel
      have Ht := Lib.hid ht
      clear ht
      by_cases hlt : k < a.length
      · have hlt2 : k < b.length := by have := Hl.out; omega
        obtain ⟨b1, o1, rfl, h1⟩ := (ha.ext hE).form (by omega)
        obtain ⟨b2, o2, rfl, h2⟩ := (hb.ext hE).form (by omega)
        obtain ⟨p0, p1, p2, p3⟩ := h1 k a[k] (List.getElem?_eq_getElem hlt)
        obtain ⟨q0, q1, q2, q3⟩ := h2 k b[k] (List.getElem?_eq_getElem hlt2)
        have Ht2 : Hid (a[k].x = b[k].x ∧ a[k].w = b[k].w → (a.take (k + 1)).map (fun r => (r.x, r.w)) = (b.take (k + 1)).map (fun r => (r.x, r.w))) := fun e => by
          rw [List.take_succ_eq_append_getElem hlt, List.take_succ_eq_append_getElem hlt2, List.map_append, List.map_append, Ht.out]
          simp [e.1, e.2]
        have Ht3 : Hid (¬ (a[k].x = b[k].x ∧ a[k].w = b[k].w) → alikeR a b = false) := fun e => by
          simp only [alikeR, decide_eq_false_iff_not]
          intro e2
          have e3 : (a.map (fun r => (r.x, r.w)))[k]? = (b.map (fun r => (r.x, r.w)))[k]? := by rw [e2]
          simp [List.getElem?_map, List.getElem?_eq_getElem hlt, List.getElem?_eq_getElem hlt2] at e3
          exact e e3
        clear h1 h2
        generalize a[k] = p at *
        generalize b[k] = q at *
        by_cases hx : p.x = q.x
        · have hx1 : (p.x != q.x) = false := by simp [hx]
          by_cases hw : p.w = q.w
          · have hw1 : (p.w != q.w) = false := by simp [hw]
            have HT := Lib.hid (Ht2.out ⟨hx, hw⟩)
            clear hx hw Ht2 Ht3
            go_wp2_with fail
            go_quiet (fail)
            go_wp2_with fail
            exact ⟨⟨k + 1, by omega, by go_num, HT.out, hE.drewN _⟩, by simp [intOf]; omega⟩
          · have hw1 : (p.w != q.w) = true := by simpa using hw
            have HN := Lib.hid (Ht3.out (fun h => hw h.2))
            clear hx hw Ht2 Ht3
            go_wp2_with fail
            go_quiet (fail)
            go_wp2_with fail
            go_ret
            exact ⟨by rw [HN.out]; rfl, hE.drewN _⟩
        · have hx1 : (p.x != q.x) = true := by simpa using hx
          have HN := Lib.hid (Ht3.out (fun h => hx h.1))
          clear hx Ht2 Ht3
          go_wp2_with fail
          go_quiet (fail)
          go_wp2_with fail
          go_ret
          exact ⟨by rw [HN.out]; rfl, hE.drewN _⟩
      · have he : alikeR a b = true := by
          have := Ht.out
          have h2 := Hl.out
          rw [List.take_of_length_le (by omega), List.take_of_length_le (by omega)] at this
          simpa [alikeR] using this
        have He := Lib.hid he
        clear he
        go_wp2_with fail
        go_ret
        exact ⟨by rw [He.out]; rfl, hE⟩
  · have hl1 : ((a.length : Nat) != b.length) = true := by simpa using hl
    rw [alikeR_len hl]
    go_enter Try.func89, Try.ntmps89
    go_wp2_with fail
    go_ret
    exact ⟨rfl, Ext.refl _⟩
end Go.Proofs.Ytjghghbldifhaaa
set_option linter.unusedVariables false
set_option linter.unusedSimpArgs false
namespace Go.Proofs.Ytjghghbldifhaaa
open Go.RowKit

/-- A cut is put in its place, once. -/
def edgeAt (x : Int) (out : List Int) : Nat := (out.takeWhile (fun y => decide (y < x))).length
def edgeIns (x : Int) (out : List Int) : List Int := if out[edgeAt x out]? = some x then out else out.take (edgeAt x out) ++ [x] ++ out.drop (edgeAt x out)
/-- The two cuts of a rectangle, the first s of them. -/
def edge1 (down : Bool) (r : Rect) (s : Nat) : Int := if down then r.y + s * r.h else r.x + s * r.w
def edgeSt (down : Bool) (r : Rect) (out : List Int) : Nat → List Int
  | 0 => out
  | s + 1 => edgeIns (edge1 down r s) (edgeSt down r out s)
def edgesP (down : Bool) : List Rect → List Int → List Int
  | [], out => out
  | r :: l, out => edgesP down l (if r.empty then out else edgeSt down r out 2)
theorem edgeAt_le (x : Int) (out : List Int) : edgeAt x out ≤ out.length := by
  unfold edgeAt
  exact List.Sublist.length_le (List.takeWhile_sublist _)
theorem takeWhile_nth {p : Int → Bool} : ∀ {l : List Int} {k : Nat}, k < l.length → k ≤ (l.takeWhile p).length → (∀ y, l[k]? = some y → (p y = true → k + 1 ≤ (l.takeWhile p).length) ∧ (p y = false → k = (l.takeWhile p).length))
  | [], k, h, _ => by simp at h
  | a :: l, 0, h, hk => fun y hy => by
    simp at hy
    subst hy
    cases hp : p a
    · simp [List.takeWhile_cons, hp]
    · simp [List.takeWhile_cons, hp]
  | a :: l, k + 1, h, hk => fun y hy => by
    cases hp : p a
    · simp [List.takeWhile_cons, hp] at hk
    · have hk' : k ≤ (l.takeWhile p).length := by simp [List.takeWhile_cons, hp] at hk; omega
      have ih := takeWhile_nth (p := p) (l := l) (k := k) (by simpa using h) hk' y (by simpa using hy)
      simp only [List.takeWhile_cons, hp, if_true, List.length_cons]
      exact ⟨fun e => by have := ih.1 e; omega, fun e => by have := ih.2 e; omega⟩
theorem edgeIns_length (x : Int) (out : List Int) : (edgeIns x out).length ≤ out.length + 1 := by
  unfold edgeIns
  split
  · omega
  · have := edgeAt_le x out
    simp
    omega

/-- The first k of a row of the call's own. -/
theorem row_take {w : World} {base n d k size : Nat} {A : Option Addr} {e : TypeId} {xs : List Value} (h : w.ownsRow base e size (.slice A n d) n xs) (hk : k ≤ n) (hA : A ≠ none) : w.ownsRow base e size (.slice A k d) k (xs.take (k * size)) := by
  obtain ⟨h1, h2⟩ := h
  have hks : k * size ≤ n * size := Nat.mul_le_mul_right _ hk
  refine ⟨by rw [List.length_take]; omega, ?_⟩
  rcases h2 with ⟨e1, _⟩ | ⟨g, cap, cur, e1, e2, e3, e4, e5, e6, e7⟩
  · injection e1 with e1; exact absurd e1 hA
  · injection e1 with e1 e8 e9
    subst e1; subst e9
    exact .inr ⟨g, d, cur, rfl, e2, e3, by omega, e5, e6, by rw [← e7, List.take_take]; congr 1; omega⟩
theorem row_base {W : World} {base size n : Nat} {e : TypeId} {v : Value} {xs : List Value} (h : W.ownsRow base e size v n xs) : ∀ r, v.ownBlock = some r → base ≤ r := fun r e1 => (row_block h e1).1
theorem row_nil_of {W : World} {base size n d : Nat} {e : TypeId} {A : Option Addr} {xs : List Value} (h : W.ownsRow base e size (.slice A n d) n xs) : A = none → d = 0 ∧ n = 0 := fun ha => by
  rcases h.2 with ⟨e1, e2⟩ | ⟨g, cap, cur, e1, _⟩
  · injection e1 with _ _ e3; exact ⟨e3, e2⟩
  · injection e1 with e1; rw [ha] at e1; cases e1
theorem info_int : (Try.prog.info? 3).map (fun i => (i.zero, i.size, i.bytes)) = some (some (.int .i64 0), 1, 8) := by kernel_rfl

theorem RectsAt.below {w w1 : World} {A : Option Addr} {l : List Rect} {base : Nat} (h : RectsAt w A l) (hA : 0 < l.length → ∀ b off, A = some ⟨b, off, none⟩ → b < base) (hb : Below base w w1) : RectsAt w1 A l := fun i r hi => by
  obtain ⟨b, off, h1, h2, h3, h4, h5⟩ := h i r hi
  have hlt := hA (Nat.lt_of_le_of_lt (Nat.zero_le i) (List.getElem?_eq_some_iff.1 hi).1) b off h1
  exact ⟨b, off, h1, (hb.cell (p := ⟨b, _, none⟩) hlt).trans h2, (hb.cell (p := ⟨b, _, none⟩) hlt).trans h3, (hb.cell (p := ⟨b, _, none⟩) hlt).trans h4, (hb.cell (p := ⟨b, _, none⟩) hlt).trans h5⟩
theorem Below.alloc' {base : Nat} {w w1 : World} (h : Below base w w1) (hb : base ≤ w1.heap.size) (o : Obj) : Below base w (w1.alloc o) := Below.alloc h hb o
/-- A put in its place: what the two appends leave. -/
theorem edgeIns_at {x : Int} {ys : List Int} {q : Nat} (hq : q = edgeAt x ys) (hne : ys[q]? ≠ some x) : edgeIns x ys = ys.take q ++ [x] ++ ys.drop q := by
  unfold edgeIns
  rw [← hq, if_neg hne]

theorem row_cap' {w : World} {base n d size : Nat} {A : Option Addr} {e : TypeId} {xs : List Value} (h : w.ownsRow base e size (.slice A n d) n xs) : n ≤ d ∧ d ≤ maxLen := by
  rcases h.2 with ⟨h1, h2⟩ | ⟨g, cap, cur, e1, _, _, h3, h4, _⟩
  · injection h1 with _ h5 h6
    subst h5; subst h6
    simp
  · injection e1 with _ _ e3
    subst e3
    exact ⟨h3, h4⟩
theorem shows_row {w : World} {base n d : Nat} {A : Option Addr} {e : TypeId} {k : IntKind} {xs : List Int} (h : w.ownsRow base e 1 (.slice A n d) n (nums k xs)) (hl : xs.length = n) : Shows w A (nums k xs) := by
  subst hl
  obtain ⟨A2, c2, hv, hr, _⟩ := Own.reads (show Own k e w base (.slice A xs.length d) xs from h)
  injection hv with e1 _ _
  rw [e1]
  exact hr.shows
theorem shows_drop {w : World} {base n d g p : Nat} {e : TypeId} {k : IntKind} {xs : List Int} (h : w.ownsRow base e 1 (.slice (some ⟨g, 0, none⟩) n d) n (nums k xs)) (hl : xs.length = n) : Shows w (some ⟨g, p, none⟩) (nums k (xs.drop p)) := by
  intro _
  refine ⟨_, rfl, fun j u hu => ?_⟩
  have hj : j < (xs.drop p).length := by
    rcases Nat.lt_or_ge j (xs.drop p).length with h1 | h1
    · exact h1
    · rw [List.getElem?_eq_none (by rw [nums_length]; exact h1)] at hu; cases hu
  rw [nums_get hj] at hu
  injection hu with hu
  rw [List.length_drop] at hj
  rw [add_plain, World.ownsRow.cellAt h (p + j) (by omega), nums_get (by omega), ← hu]
  simp [List.getD_eq_getElem?_getD, List.getElem?_drop]

set_option maxRecDepth 100000 in
set_option maxHeartbeats 8000000 in
theorem edges_any (A : Option Addr) (c : Nat) (l : List Rect) (down : Bool) (B0 : Option Addr) (d0 base : Nat) (xs0 : List Int) (w : World) (hl : RectsAt w A l) (hbelow : 0 < l.length → ∀ b off, A = some ⟨b, off, none⟩ → b < base) (hm : l.length ≤ 1000000) (hown0 : w.ownsRow base 3 1 (.slice B0 xs0.length d0) xs0.length (nums .i64 xs0)) (hb0 : base ≤ w.heap.size) (hn0 : xs0.length ≤ 10000000) :
    Calls Try.prog 87 #[.slice A l.length c, .bool down, .slice B0 xs0.length d0] w fun e w' => ∃ B d, e = .returned (.slice B (edgesP down l xs0).length d) ∧ w'.ownsRow base 3 1 (.slice B (edgesP down l xs0).length d) (edgesP down l xs0).length (nums .i64 (edgesP down l xs0)) ∧ Below base w w' := by
  go_enter Try.func87, Try.ntmps87
  go_wp2_with fail
  go_loopw [2, 7, 8, 9, 10, 11] (fun v i _ _ _ _ wr => ∃ (k : Nat) (xs : List Int) (B : Option Addr) (d : Nat), k ≤ l.length ∧ i = .int .i64 k ∧ v = .slice B xs.length d ∧ xs.length ≤ xs0.length + 2 * k ∧ wr.ownsRow base 3 1 (.slice B xs.length d) xs.length (nums .i64 xs) ∧ Below base w wr ∧ edgesP down (l.drop k) xs = edgesP down l xs0) (fun _ i _ _ _ _ _ => l.length - (intOf i).toNat)
  case atStart => exact ⟨0, xs0, B0, d0, Nat.zero_le _, rfl, rfl, by omega, hown0, Below.refl _ _, rfl⟩
  case round =>
    obtain ⟨k, xs, B, d, hk, rfl, rfl, hnb, hown, hE, hst⟩ := hrel
    have Hst := Lib.hid hst
    clear hst hown0
    by_cases hlt : k < l.length
    · obtain ⟨b, off, hA, hc⟩ := (hl.below hbelow hE).form (by omega)
      obtain ⟨h0, h1, h2, h3⟩ := hc k l[k] (List.getElem?_eq_getElem hlt)
      have hd : edgesP down (l.drop k) xs = edgesP down (l.drop (k + 1)) (if Rect.empty l[k] then xs else edgeSt down l[k] xs 2) := by rw [List.drop_eq_getElem_cons hlt]; rfl
      rw [hd] at Hst
      have hrk : l[k]? = some l[k] := List.getElem?_eq_getElem hlt
      have HR := Lib.hid hrk
      clear hd hc hrk
      generalize l[k] = r at *
      have hbA := hbelow (by omega) b off hA
      subst hA
      have hh := fun w => rempty_any r.x r.y r.w r.h w
      simp only [show Rect.mk r.x r.y r.w r.h = r from rfl] at hh
      cases hem : Rect.empty r
      · simp only [hem] at hh
        rw [hem] at Hst
        simp only [Bool.false_eq_true, if_false] at Hst
        have hgood := Rect.empty_iff.1 hem
        obtain ⟨⟨x1, x2, x3, x4⟩, y1, y2, y3, y4⟩ := hgood
        go_wp2_with fail
        refine (hh _).mono ?_
        rintro e w1 ⟨rfl, hb1⟩
        have hbs : base ≤ wr.heap.size := Nat.le_trans hb0 hE.size
        replace hown := row_keep hown hb1
        replace hE : Below base w w1 := hE.trans (Below.mono hb1 hbs)
        clear hh h0 h1 h2 h3 hb1 hbs
        go_wp2_with fail
        go_loopw [2, 8, 9, 10, 11] (fun v s _ _ _ wr => ∃ (t : Nat) (ys : List Int) (B : Option Addr) (d : Nat), t ≤ 2 ∧ s = .int .i64 t ∧ v = .slice B ys.length d ∧ edgeSt down r xs t = ys ∧ ys.length ≤ xs.length + t ∧ wr.ownsRow base 3 1 (.slice B ys.length d) ys.length (nums .i64 ys) ∧ Below base w wr) (fun _ s _ _ _ _ => 2 - (intOf s).toNat)
        case atStart => exact ⟨0, xs, B, d, by omega, rfl, rfl, rfl, by omega, hown, hE⟩
        case round =>
          clear hown hE
          obtain ⟨t, ys, B, d, ht, rfl, rfl, hys, hyn, hown, hE⟩ := hrel
          by_cases htl : t < 2
          · obtain ⟨b', off', hA', hc⟩ := (hl.below hbelow hE).form (by omega)
            injection hA' with hA'
            injection hA' with e1 e2
            subst e1; subst e2
            obtain ⟨h0, h1, h2, h3⟩ := hc k r HR.out
            clear hc
            have hbw : base ≤ wr.heap.size := Nat.le_trans hb0 hE.size
            have tw : ((t : Int) * r.w = 0 ∨ (t : Int) * r.w = r.w) ∧ ((t : Int) * r.h = 0 ∨ (t : Int) * r.h = r.h) := by
              have : t = 0 ∨ t = 1 := by omega
              rcases this with rfl | rfl <;> simp
            have v1 : IntKind.i64.wrap ((t : Int) * r.w) = (t : Int) * r.w := IntWalk.i64_in _ (by omega)
            have v2 : IntKind.i64.wrap (r.x + (t : Int) * r.w) = r.x + (t : Int) * r.w := IntWalk.i64_in _ (by omega)
            have v3 : IntKind.i64.wrap ((t : Int) * r.h) = (t : Int) * r.h := IntWalk.i64_in _ (by omega)
            have v4 : IntKind.i64.wrap (r.y + (t : Int) * r.h) = r.y + (t : Int) * r.h := IntWalk.i64_in _ (by omega)
            have hsx : edgeSt down r xs (t + 1) = edgeIns (edge1 down r t) ys := by rw [← hys]; rfl
            have HS := Lib.hid hsx
            clear hys hsx
            have hed : edge1 down r t = if down then r.y + (t : Int) * r.h else r.x + (t : Int) * r.w := rfl
            rw [hed] at HS
            clear hed
            have u1 : wrap64 ((t : Int) * r.w) = (t : Int) * r.w := IntWalk.wrap64_in _ (by omega)
            have u2 : wrap64 (r.x + (t : Int) * r.w) = r.x + (t : Int) * r.w := IntWalk.wrap64_in _ (by omega)
            have u3 : wrap64 ((t : Int) * r.h) = (t : Int) * r.h := IntWalk.wrap64_in _ (by omega)
            have u4 : wrap64 (r.y + (t : Int) * r.h) = r.y + (t : Int) * r.h := IntWalk.wrap64_in _ (by omega)
            clear tw
            cases down
            · simp only [Bool.false_eq_true, if_false] at HS
              go_wp2_with fail
              go_quiet (fail)
              replace hown : (wr.drewN nq).ownsRow _ _ _ _ _ _ := hown
              replace hE : Below base w (wr.drewN nq) := ⟨hE.os, hE.tape, hE.output, hE.size, hE.block⟩
              replace hbw : base ≤ (wr.drewN nq).heap.size := hbw
              clear h0 h1 h2 h3 v1 v2 v3 v4 u1 u2 u3 u4
              generalize wr.drewN nq = w2 at *
              generalize r.x + (t : Int) * r.w = eX at *
              go_wp2_with fail
              go_loopw [10] (fun q wq => ∃ p : Nat, q = .int .i64 p ∧ p ≤ edgeAt eX ys ∧ wq = w2) (fun q _ => ys.length - (intOf q).toNat)
              case atStart => exact ⟨0, rfl, Nat.zero_le _, rfl⟩
              case round =>
                obtain ⟨p, rfl, hp, rfl⟩ := hrel
                have hle := edgeAt_le eX ys
                by_cases hpl : p < ys.length
                · obtain ⟨g, rfl, hgb⟩ := row_form hown (by omega)
                  have hrc := World.ownsRow.cellAt hown p (by omega)
                  rw [nums_get hpl] at hrc
                  obtain ⟨y, hy⟩ : ∃ y, ys[p] = y := ⟨_, rfl⟩
                  have hy1 : ys[p]? = some y := by rw [List.getElem?_eq_getElem hpl, hy]
                  have hy2 : ys.getD p 0 = y := by rw [List.getD_eq_getElem?_getD, hy1]; rfl
                  rw [hy2] at hrc
                  have htw := takeWhile_nth (p := fun y => decide (y < eX)) hpl hp y hy1
                  have HY := Lib.hid hy1
                  clear hy hy1 hy2
                  by_cases hye : y < eX
                  · have hp2 := htw.1 (by simpa using hye)
                    clear htw
                    go_wp2_with fail
                    exact ⟨⟨p + 1, by go_num, hp2, by first | rfl | trivial⟩, by simp [intOf]; omega⟩
                  · have hp2 : p = edgeAt eX ys := htw.2 (by simpa using hye)
                    have HP := Lib.hid hp2
                    clear htw hp2 hp hle
                    by_cases hyy : y = eX
                    · have hins : edgeIns eX ys = ys := by
                        unfold edgeIns
                        rw [if_pos (by rw [← HP.out, HY.out, hyy])]
                      have HI := Lib.hid hins
                      clear hins
                      subst hyy
                      go_wp2_with fail
                      exact ⟨⟨t + 1, ys, some ⟨g, 0, none⟩, d, by omega, by go_num, rfl, by rw [HS.out]; exact HI.out, by omega, hown, hE⟩, by simp [intOf]; omega⟩
                    · have hne : ys[p]? ≠ some eX := by rw [HY.out]; intro h; injection h with h; exact hyy h
                      have HI := Lib.hid (edgeIns_at HP.out hne)
                      have hcap := row_cap' hown
                      have hdp : ¬ (d = p) := by omega
                      have hsh := shows_drop (p := p) hown rfl
                      have hdl : (ys.drop p).length = ys.length - p := by rw [List.length_drop]
                      have hsn : (nums .i64 (ys.drop p)).length = (ys.length - p) * 1 := by rw [nums_length, hdl]; omega
                      have hglt : g < wr.heap.size := (World.ownsRow.lt hown g (by simp [Value.ownBlock])).2
                      have hpn : p ≤ ys.length := by omega
                      have hsm : ys.length ≤ 100000000 := by omega
                      clear hne HY HP hdl
                      go_wp2_with (first
                        | (refine wpList_app wr.heap.size rfl (.const (.slice none 0 0)) (.tmp 82) 46 3 (.int .i64 0) 1 8 rfl Try.underlying46 info_int rfl (by decide) (by decide) (.slice none 0 0) 0 [] rfl (World.ownsRow_nil _ _ _ _) (some ⟨g, p, none⟩) (ys.length - p) (d - p) (nums .i64 (ys.drop p)) rfl (fun h => by cases h) hsn hsh nums_one (by omega) (Nat.le_refl _) (fun z1 w3 hr1 hg1 => ?_); obtain ⟨R1, D1, rfl⟩ := row_slice hr1; rw [Nat.zero_add, List.nil_append] at hr1)
                        | (refine wpList_app base rfl (.tmp 86) (.tmp 88) 46 3 (.int .i64 0) 1 8 rfl Try.underlying46 info_int rfl (by decide) (by decide) (.slice (some ⟨g, 0, none⟩) p d) p ((nums .i64 ys).take (p * 1)) rfl (World.ownsRow.alloc (row_take (row_keep hown (ext_none' (Ext.refl _) hg1)) hpn (by simp)) _) (some ⟨w3.heap.size, 0, none⟩) 1 1 [.int .i64 eX] rfl (fun h => by cases h) rfl (fun _ => ⟨_, rfl, World.news_of_block (blk_new w3 _)⟩) (by simp [Value.oneCell']) (by omega) (Nat.le_trans hbw (Nat.le_trans hg1.size (by simp))) (fun z2 w4 hr2 hg2 => ?_); obtain ⟨R2, D2, rfl⟩ := row_slice hr2)
                        | (refine wpList_app base rfl (.tmp 89) (.tmp 90) 46 3 (.int .i64 0) 1 8 rfl Try.underlying46 info_int rfl (by decide) (by decide) (.slice R2 (p + 1) D2) (p + 1) _ rfl hr2 R1 (ys.length - p) D1 (nums .i64 (ys.drop p)) rfl (fun h => (row_nil_of hr1 h).1) hsn (shows_row (World.ownsRow.kept (World.ownsRow.alloc hr1 _) hg2 (.inr (fun e => absurd (row_base hr1 g e) (by omega)))) (by rw [List.length_drop])) nums_one (by omega) (Nat.le_trans hbw (Nat.le_trans hg1.size (Nat.le_trans (by simp) hg2.size))) (fun z3 w5 hr3 hg3 => ?_); obtain ⟨R3, D3, rfl⟩ := row_slice hr3))
                      have hE3 : Below base w w3 := hE.trans (Below.mono (ext_none' (Ext.refl _) hg1) hbw)
                      have hb3 : base ≤ w3.heap.size := Nat.le_trans hbw hg1.size
                      have hE3' := Below.alloc hE3 hb3 (.cells #[.int .i64 eX] 3)
                      have hb3' : base ≤ (w3.alloc (.cells #[.int .i64 eX] 3)).heap.size := Nat.le_trans hb3 (by simp)
                      have hE4 : Below base w w4 := Below.grown hE3' hg2 hb3' (fun r e => by simp [Value.ownBlock] at e; omega)
                      have hE5 : Below base w w5 := Below.grown hE4 hg3 (Nat.le_trans hb3' hg2.size) (row_base hr2)
                      have hlen5 : p + 1 + (ys.length - p) = (edgeIns eX ys).length := by rw [HI.out]; simp; omega
                      have hnum5 : (nums .i64 ys).take (p * 1) ++ [.int .i64 eX] ++ nums .i64 (ys.drop p) = nums .i64 (edgeIns eX ys) := by rw [HI.out]; simp [nums, List.map_take, List.map_drop]
                      rw [hnum5, hlen5] at hr3
                      rw [hlen5]
                      have hl6 : (edgeIns eX ys).length ≤ ys.length + 1 := edgeIns_length _ _
                      have hr5 := hr3
                      have hyn' := hyn
                      clear hr3 hr2 hr1 hg1 hg2 hg3 hlen5 hnum5 hsn hsh hcap hdp hrc
                      go_wp2_with fail
                      exact ⟨⟨t + 1, edgeIns eX ys, R3, D3, by omega, by go_num, rfl, HS.out, by omega, hr5, hE5⟩, by simp [intOf]; omega⟩
                · have hpe : p = ys.length := by omega
                  have hpa : p = edgeAt eX ys := by omega
                  have hne : ys[p]? ≠ some eX := by rw [hpe]; simp
                  have HI := Lib.hid (edgeIns_at hpa hne)
                  have hsm : ys.length ≤ 100000000 := by omega
                  clear hpa hne hp hle
                  subst hpe
                  rcases B with _ | a0
                  · obtain ⟨rfl, hn0'⟩ := row_nil_of hown rfl
                    have hyn0 : ys = [] := List.eq_nil_of_length_eq_zero hn0'
                    have hsm2 : ys.length = 0 := hn0'
                    subst hyn0
                    simp only [List.length_nil] at *
                    go_wp2_with (first
                      | (refine wpList_app wr.heap.size rfl (.const (.slice none 0 0)) (.tmp 82) 46 3 (.int .i64 0) 1 8 rfl Try.underlying46 info_int rfl (by decide) (by decide) (.slice none 0 0) 0 [] rfl (World.ownsRow_nil _ _ _ _) none 0 0 (nums .i64 []) rfl (by intro h; first | rfl | cases h) (by simp [nums]) (fun h => absurd rfl h) (by simp [nums]) (by omega) (Nat.le_refl _) (fun z1 w3 hr1 hg1 => ?_); obtain ⟨R1, D1, rfl⟩ := row_slice hr1)
                      | (refine wpList_app base rfl (.tmp 86) (.tmp 88) 46 3 (.int .i64 0) 1 8 rfl Try.underlying46 info_int rfl (by decide) (by decide) (.slice none 0 0) 0 _ rfl (World.ownsRow_nil _ _ _ _) (some ⟨w3.heap.size, 0, none⟩) 1 1 [.int .i64 eX] rfl (fun h => by cases h) rfl (fun _ => ⟨_, rfl, World.news_of_block (blk_new w3 _)⟩) (by simp [Value.oneCell']) (by omega) (Nat.le_trans hbw (Nat.le_trans hg1.size (by simp))) (fun z2 w4 hr2 hg2 => ?_); obtain ⟨R2, D2, rfl⟩ := row_slice hr2)
                      | (refine wpList_app base rfl (.tmp 89) (.tmp 90) 46 3 (.int .i64 0) 1 8 rfl Try.underlying46 info_int rfl (by decide) (by decide) (.slice R2 (0 + 1) D2) (0 + 1) _ rfl hr2 R1 0 D1 (nums .i64 []) rfl (fun h => (row_nil_of hr1 h).1) (by simp [nums]) (fun h => absurd rfl h) (by simp [nums]) (by omega) (Nat.le_trans hbw (Nat.le_trans hg1.size (Nat.le_trans (by simp) hg2.size))) (fun z3 w5 hr3 hg3 => ?_); obtain ⟨R3, D3, rfl⟩ := row_slice hr3))
                    have hE3 : Below base w w3 := hE.trans (Below.mono (ext_none' (Ext.refl _) hg1) hbw)
                    have hb3 : base ≤ w3.heap.size := Nat.le_trans hbw hg1.size
                    have hE3' := Below.alloc hE3 hb3 (.cells #[.int .i64 eX] 3)
                    have hb3' : base ≤ (w3.alloc (.cells #[.int .i64 eX] 3)).heap.size := Nat.le_trans hb3 (by simp)
                    have hE4 : Below base w w4 := Below.grown hE3' hg2 hb3' (fun r e => by simp [Value.ownBlock] at e; try omega)
                    have hE5 : Below base w w5 := Below.grown hE4 hg3 (Nat.le_trans hb3' hg2.size) (row_base hr2)
                    have hI1 : edgeIns eX [] = [eX] := by rw [HI.out]; rfl
                    exact ⟨⟨t + 1, [eX], R3, D3, by omega, by go_num, rfl, by rw [HS.out, hI1], by simp; omega, hr3, hE5⟩, by simp [intOf]; omega⟩
                  · obtain ⟨g, rfl, hgb⟩ : ∃ g, a0 = ⟨g, 0, none⟩ ∧ base ≤ g := by
                      rcases hown.2 with ⟨h, _⟩ | ⟨g, cap, cur, e1, e2, _⟩
                      · injection h with h; cases h
                      · injection e1 with e1; injection e1 with e1; exact ⟨g, e1, e2⟩
                    have hcap := row_cap' hown
                    by_cases hdn : d = ys.length
                    · subst hdn
                      go_wp2_with (first
                        | (refine wpList_app wr.heap.size rfl (.const (.slice none 0 0)) (.tmp 82) 46 3 (.int .i64 0) 1 8 rfl Try.underlying46 info_int rfl (by decide) (by decide) (.slice none 0 0) 0 [] rfl (World.ownsRow_nil _ _ _ _) _ 0 _ (nums .i64 []) rfl (by intro h; first | rfl | cases h) (by simp [nums]) (fun h => absurd rfl h) (by simp [nums]) (by omega) (Nat.le_refl _) (fun z1 w3 hr1 hg1 => ?_); obtain ⟨R1, D1, rfl⟩ := row_slice hr1)
                        | (refine wpList_app base rfl (.tmp 86) (.tmp 88) 46 3 (.int .i64 0) 1 8 rfl Try.underlying46 info_int rfl (by decide) (by decide) (.slice (some ⟨g, 0, none⟩) ys.length _) ys.length _ rfl (World.ownsRow.alloc (row_keep hown (ext_none' (Ext.refl _) hg1)) _) (some ⟨w3.heap.size, 0, none⟩) 1 1 [.int .i64 eX] rfl (fun h => by cases h) rfl (fun _ => ⟨_, rfl, World.news_of_block (blk_new w3 _)⟩) (by simp [Value.oneCell']) (by omega) (Nat.le_trans hbw (Nat.le_trans hg1.size (by simp))) (fun z2 w4 hr2 hg2 => ?_); obtain ⟨R2, D2, rfl⟩ := row_slice hr2)
                        | (refine wpList_app base rfl (.tmp 89) (.tmp 90) 46 3 (.int .i64 0) 1 8 rfl Try.underlying46 info_int rfl (by decide) (by decide) (.slice R2 (ys.length + 1) D2) (ys.length + 1) _ rfl hr2 R1 0 D1 (nums .i64 []) rfl (fun h => (row_nil_of hr1 h).1) (by simp [nums]) (fun h => absurd rfl h) (by simp [nums]) (by omega) (Nat.le_trans hbw (Nat.le_trans hg1.size (Nat.le_trans (by simp) hg2.size))) (fun z3 w5 hr3 hg3 => ?_); obtain ⟨R3, D3, rfl⟩ := row_slice hr3))
                      have hE3 : Below base w w3 := hE.trans (Below.mono (ext_none' (Ext.refl _) hg1) hbw)
                      have hb3 : base ≤ w3.heap.size := Nat.le_trans hbw hg1.size
                      have hE3' := Below.alloc hE3 hb3 (.cells #[.int .i64 eX] 3)
                      have hb3' : base ≤ (w3.alloc (.cells #[.int .i64 eX] 3)).heap.size := Nat.le_trans hb3 (by simp)
                      have hE4 : Below base w w4 := Below.grown hE3' hg2 hb3' (fun r e => by simp [Value.ownBlock] at e; try omega)
                      have hE5 : Below base w w5 := Below.grown hE4 hg3 (Nat.le_trans hb3' hg2.size) (row_base hr2)
                      have hI1 : edgeIns eX ys = ys ++ [eX] := by rw [HI.out]; simp
                      have hr5 : w5.ownsRow base 3 1 (.slice R3 (ys.length + 1) D3) (ys.length + 1) (nums .i64 (ys ++ [eX])) := by
                        rw [show nums .i64 (ys ++ [eX]) = nums .i64 ys ++ [.int .i64 eX] ++ nums .i64 [] by simp [nums]]
                        exact hr3
                      exact ⟨⟨t + 1, ys ++ [eX], R3, D3, by omega, by go_num, by simp, by rw [HS.out, hI1], by simp; omega, by rw [List.length_append]; exact hr5, hE5⟩, by simp [intOf]; omega⟩
                    · skip
                      go_wp2_with (first
                        | (refine wpList_app wr.heap.size rfl (.const (.slice none 0 0)) (.tmp 82) 46 3 (.int .i64 0) 1 8 rfl Try.underlying46 info_int rfl (by decide) (by decide) (.slice none 0 0) 0 [] rfl (World.ownsRow_nil _ _ _ _) _ 0 _ (nums .i64 []) rfl (by intro h; first | rfl | cases h) (by simp [nums]) (fun h => absurd rfl h) (by simp [nums]) (by omega) (Nat.le_refl _) (fun z1 w3 hr1 hg1 => ?_); obtain ⟨R1, D1, rfl⟩ := row_slice hr1)
                        | (refine wpList_app base rfl (.tmp 86) (.tmp 88) 46 3 (.int .i64 0) 1 8 rfl Try.underlying46 info_int rfl (by decide) (by decide) (.slice (some ⟨g, 0, none⟩) ys.length _) ys.length _ rfl (World.ownsRow.alloc (row_keep hown (ext_none' (Ext.refl _) hg1)) _) (some ⟨w3.heap.size, 0, none⟩) 1 1 [.int .i64 eX] rfl (fun h => by cases h) rfl (fun _ => ⟨_, rfl, World.news_of_block (blk_new w3 _)⟩) (by simp [Value.oneCell']) (by omega) (Nat.le_trans hbw (Nat.le_trans hg1.size (by simp))) (fun z2 w4 hr2 hg2 => ?_); obtain ⟨R2, D2, rfl⟩ := row_slice hr2)
                        | (refine wpList_app base rfl (.tmp 89) (.tmp 90) 46 3 (.int .i64 0) 1 8 rfl Try.underlying46 info_int rfl (by decide) (by decide) (.slice R2 (ys.length + 1) D2) (ys.length + 1) _ rfl hr2 R1 0 D1 (nums .i64 []) rfl (fun h => (row_nil_of hr1 h).1) (by simp [nums]) (fun h => absurd rfl h) (by simp [nums]) (by omega) (Nat.le_trans hbw (Nat.le_trans hg1.size (Nat.le_trans (by simp) hg2.size))) (fun z3 w5 hr3 hg3 => ?_); obtain ⟨R3, D3, rfl⟩ := row_slice hr3))
                      have hE3 : Below base w w3 := hE.trans (Below.mono (ext_none' (Ext.refl _) hg1) hbw)
                      have hb3 : base ≤ w3.heap.size := Nat.le_trans hbw hg1.size
                      have hE3' := Below.alloc hE3 hb3 (.cells #[.int .i64 eX] 3)
                      have hb3' : base ≤ (w3.alloc (.cells #[.int .i64 eX] 3)).heap.size := Nat.le_trans hb3 (by simp)
                      have hE4 : Below base w w4 := Below.grown hE3' hg2 hb3' (fun r e => by simp [Value.ownBlock] at e; try omega)
                      have hE5 : Below base w w5 := Below.grown hE4 hg3 (Nat.le_trans hb3' hg2.size) (row_base hr2)
                      have hI1 : edgeIns eX ys = ys ++ [eX] := by rw [HI.out]; simp
                      have hr5 : w5.ownsRow base 3 1 (.slice R3 (ys.length + 1) D3) (ys.length + 1) (nums .i64 (ys ++ [eX])) := by
                        rw [show nums .i64 (ys ++ [eX]) = nums .i64 ys ++ [.int .i64 eX] ++ nums .i64 [] by simp [nums]]
                        exact hr3
                      exact ⟨⟨t + 1, ys ++ [eX], R3, D3, by omega, by go_num, by simp, by rw [HS.out, hI1], by simp; omega, by rw [List.length_append]; exact hr5, hE5⟩, by simp [intOf]; omega⟩
            · simp only [if_true] at HS
              go_wp2_with fail
              go_quiet (fail)
              replace hown : (wr.drewN nq).ownsRow _ _ _ _ _ _ := hown
              replace hE : Below base w (wr.drewN nq) := ⟨hE.os, hE.tape, hE.output, hE.size, hE.block⟩
              replace hbw : base ≤ (wr.drewN nq).heap.size := hbw
              replace h0 : (wr.drewN nq).cell? _ = _ := h0
              replace h1 : (wr.drewN nq).cell? _ = _ := h1
              replace h2 : (wr.drewN nq).cell? _ = _ := h2
              replace h3 : (wr.drewN nq).cell? _ = _ := h3
              generalize wr.drewN nq = w1' at *
              go_wp2_with fail
              go_quiet (fail)
              replace hown : (w1'.drewN nq).ownsRow _ _ _ _ _ _ := hown
              replace hE : Below base w (w1'.drewN nq) := ⟨hE.os, hE.tape, hE.output, hE.size, hE.block⟩
              replace hbw : base ≤ (w1'.drewN nq).heap.size := hbw
              clear h0 h1 h2 h3 v1 v2 v3 v4 u1 u2 u3 u4
              generalize w1'.drewN nq = w2 at *
              generalize r.y + (t : Int) * r.h = eY at *
              go_wp2_with fail
              go_loopw [10] (fun q wq => ∃ p : Nat, q = .int .i64 p ∧ p ≤ edgeAt eY ys ∧ wq = w2) (fun q _ => ys.length - (intOf q).toNat)
              case atStart => exact ⟨0, rfl, Nat.zero_le _, rfl⟩
              case round =>
                obtain ⟨p, rfl, hp, rfl⟩ := hrel
                have hle := edgeAt_le eY ys
                by_cases hpl : p < ys.length
                · obtain ⟨g, rfl, hgb⟩ := row_form hown (by omega)
                  have hrc := World.ownsRow.cellAt hown p (by omega)
                  rw [nums_get hpl] at hrc
                  obtain ⟨y, hy⟩ : ∃ y, ys[p] = y := ⟨_, rfl⟩
                  have hy1 : ys[p]? = some y := by rw [List.getElem?_eq_getElem hpl, hy]
                  have hy2 : ys.getD p 0 = y := by rw [List.getD_eq_getElem?_getD, hy1]; rfl
                  rw [hy2] at hrc
                  have htw := takeWhile_nth (p := fun y => decide (y < eY)) hpl hp y hy1
                  have HY := Lib.hid hy1
                  clear hy hy1 hy2
                  by_cases hye : y < eY
                  · have hp2 := htw.1 (by simpa using hye)
                    clear htw
                    go_wp2_with fail
                    exact ⟨⟨p + 1, by go_num, hp2, by first | rfl | trivial⟩, by simp [intOf]; omega⟩
                  · have hp2 : p = edgeAt eY ys := htw.2 (by simpa using hye)
                    have HP := Lib.hid hp2
                    clear htw hp2 hp hle
                    by_cases hyy : y = eY
                    · have hins : edgeIns eY ys = ys := by
                        unfold edgeIns
                        rw [if_pos (by rw [← HP.out, HY.out, hyy])]
                      have HI := Lib.hid hins
                      clear hins
                      subst hyy
                      go_wp2_with fail
                      exact ⟨⟨t + 1, ys, some ⟨g, 0, none⟩, d, by omega, by go_num, rfl, by rw [HS.out]; exact HI.out, by omega, hown, hE⟩, by simp [intOf]; omega⟩
                    · have hne : ys[p]? ≠ some eY := by rw [HY.out]; intro h; injection h with h; exact hyy h
                      have HI := Lib.hid (edgeIns_at HP.out hne)
                      have hcap := row_cap' hown
                      have hdp : ¬ (d = p) := by omega
                      have hsh := shows_drop (p := p) hown rfl
                      have hdl : (ys.drop p).length = ys.length - p := by rw [List.length_drop]
                      have hsn : (nums .i64 (ys.drop p)).length = (ys.length - p) * 1 := by rw [nums_length, hdl]; omega
                      have hglt : g < wr.heap.size := (World.ownsRow.lt hown g (by simp [Value.ownBlock])).2
                      have hpn : p ≤ ys.length := by omega
                      have hsm : ys.length ≤ 100000000 := by omega
                      clear hne HY HP hdl
                      go_wp2_with (first
                        | (refine wpList_app wr.heap.size rfl (.const (.slice none 0 0)) (.tmp 82) 46 3 (.int .i64 0) 1 8 rfl Try.underlying46 info_int rfl (by decide) (by decide) (.slice none 0 0) 0 [] rfl (World.ownsRow_nil _ _ _ _) (some ⟨g, p, none⟩) (ys.length - p) (d - p) (nums .i64 (ys.drop p)) rfl (fun h => by cases h) hsn hsh nums_one (by omega) (Nat.le_refl _) (fun z1 w3 hr1 hg1 => ?_); obtain ⟨R1, D1, rfl⟩ := row_slice hr1; rw [Nat.zero_add, List.nil_append] at hr1)
                        | (refine wpList_app base rfl (.tmp 86) (.tmp 88) 46 3 (.int .i64 0) 1 8 rfl Try.underlying46 info_int rfl (by decide) (by decide) (.slice (some ⟨g, 0, none⟩) p d) p ((nums .i64 ys).take (p * 1)) rfl (World.ownsRow.alloc (row_take (row_keep hown (ext_none' (Ext.refl _) hg1)) hpn (by simp)) _) (some ⟨w3.heap.size, 0, none⟩) 1 1 [.int .i64 eY] rfl (fun h => by cases h) rfl (fun _ => ⟨_, rfl, World.news_of_block (blk_new w3 _)⟩) (by simp [Value.oneCell']) (by omega) (Nat.le_trans hbw (Nat.le_trans hg1.size (by simp))) (fun z2 w4 hr2 hg2 => ?_); obtain ⟨R2, D2, rfl⟩ := row_slice hr2)
                        | (refine wpList_app base rfl (.tmp 89) (.tmp 90) 46 3 (.int .i64 0) 1 8 rfl Try.underlying46 info_int rfl (by decide) (by decide) (.slice R2 (p + 1) D2) (p + 1) _ rfl hr2 R1 (ys.length - p) D1 (nums .i64 (ys.drop p)) rfl (fun h => (row_nil_of hr1 h).1) hsn (shows_row (World.ownsRow.kept (World.ownsRow.alloc hr1 _) hg2 (.inr (fun e => absurd (row_base hr1 g e) (by omega)))) (by rw [List.length_drop])) nums_one (by omega) (Nat.le_trans hbw (Nat.le_trans hg1.size (Nat.le_trans (by simp) hg2.size))) (fun z3 w5 hr3 hg3 => ?_); obtain ⟨R3, D3, rfl⟩ := row_slice hr3))
                      have hE3 : Below base w w3 := hE.trans (Below.mono (ext_none' (Ext.refl _) hg1) hbw)
                      have hb3 : base ≤ w3.heap.size := Nat.le_trans hbw hg1.size
                      have hE3' := Below.alloc hE3 hb3 (.cells #[.int .i64 eY] 3)
                      have hb3' : base ≤ (w3.alloc (.cells #[.int .i64 eY] 3)).heap.size := Nat.le_trans hb3 (by simp)
                      have hE4 : Below base w w4 := Below.grown hE3' hg2 hb3' (fun r e => by simp [Value.ownBlock] at e; omega)
                      have hE5 : Below base w w5 := Below.grown hE4 hg3 (Nat.le_trans hb3' hg2.size) (row_base hr2)
                      have hlen5 : p + 1 + (ys.length - p) = (edgeIns eY ys).length := by rw [HI.out]; simp; omega
                      have hnum5 : (nums .i64 ys).take (p * 1) ++ [.int .i64 eY] ++ nums .i64 (ys.drop p) = nums .i64 (edgeIns eY ys) := by rw [HI.out]; simp [nums, List.map_take, List.map_drop]
                      rw [hnum5, hlen5] at hr3
                      rw [hlen5]
                      have hl6 : (edgeIns eY ys).length ≤ ys.length + 1 := edgeIns_length _ _
                      have hr5 := hr3
                      have hyn' := hyn
                      clear hr3 hr2 hr1 hg1 hg2 hg3 hlen5 hnum5 hsn hsh hcap hdp hrc
                      go_wp2_with fail
                      exact ⟨⟨t + 1, edgeIns eY ys, R3, D3, by omega, by go_num, rfl, HS.out, by omega, hr5, hE5⟩, by simp [intOf]; omega⟩
                · have hpe : p = ys.length := by omega
                  have hpa : p = edgeAt eY ys := by omega
                  have hne : ys[p]? ≠ some eY := by rw [hpe]; simp
                  have HI := Lib.hid (edgeIns_at hpa hne)
                  have hsm : ys.length ≤ 100000000 := by omega
                  clear hpa hne hp hle
                  subst hpe
                  rcases B with _ | a0
                  · obtain ⟨rfl, hn0'⟩ := row_nil_of hown rfl
                    have hyn0 : ys = [] := List.eq_nil_of_length_eq_zero hn0'
                    have hsm2 : ys.length = 0 := hn0'
                    subst hyn0
                    simp only [List.length_nil] at *
                    go_wp2_with (first
                      | (refine wpList_app wr.heap.size rfl (.const (.slice none 0 0)) (.tmp 82) 46 3 (.int .i64 0) 1 8 rfl Try.underlying46 info_int rfl (by decide) (by decide) (.slice none 0 0) 0 [] rfl (World.ownsRow_nil _ _ _ _) none 0 0 (nums .i64 []) rfl (by intro h; first | rfl | cases h) (by simp [nums]) (fun h => absurd rfl h) (by simp [nums]) (by omega) (Nat.le_refl _) (fun z1 w3 hr1 hg1 => ?_); obtain ⟨R1, D1, rfl⟩ := row_slice hr1)
                      | (refine wpList_app base rfl (.tmp 86) (.tmp 88) 46 3 (.int .i64 0) 1 8 rfl Try.underlying46 info_int rfl (by decide) (by decide) (.slice none 0 0) 0 _ rfl (World.ownsRow_nil _ _ _ _) (some ⟨w3.heap.size, 0, none⟩) 1 1 [.int .i64 eY] rfl (fun h => by cases h) rfl (fun _ => ⟨_, rfl, World.news_of_block (blk_new w3 _)⟩) (by simp [Value.oneCell']) (by omega) (Nat.le_trans hbw (Nat.le_trans hg1.size (by simp))) (fun z2 w4 hr2 hg2 => ?_); obtain ⟨R2, D2, rfl⟩ := row_slice hr2)
                      | (refine wpList_app base rfl (.tmp 89) (.tmp 90) 46 3 (.int .i64 0) 1 8 rfl Try.underlying46 info_int rfl (by decide) (by decide) (.slice R2 (0 + 1) D2) (0 + 1) _ rfl hr2 R1 0 D1 (nums .i64 []) rfl (fun h => (row_nil_of hr1 h).1) (by simp [nums]) (fun h => absurd rfl h) (by simp [nums]) (by omega) (Nat.le_trans hbw (Nat.le_trans hg1.size (Nat.le_trans (by simp) hg2.size))) (fun z3 w5 hr3 hg3 => ?_); obtain ⟨R3, D3, rfl⟩ := row_slice hr3))
                    have hE3 : Below base w w3 := hE.trans (Below.mono (ext_none' (Ext.refl _) hg1) hbw)
                    have hb3 : base ≤ w3.heap.size := Nat.le_trans hbw hg1.size
                    have hE3' := Below.alloc hE3 hb3 (.cells #[.int .i64 eY] 3)
                    have hb3' : base ≤ (w3.alloc (.cells #[.int .i64 eY] 3)).heap.size := Nat.le_trans hb3 (by simp)
                    have hE4 : Below base w w4 := Below.grown hE3' hg2 hb3' (fun r e => by simp [Value.ownBlock] at e; try omega)
                    have hE5 : Below base w w5 := Below.grown hE4 hg3 (Nat.le_trans hb3' hg2.size) (row_base hr2)
                    have hI1 : edgeIns eY [] = [eY] := by rw [HI.out]; rfl
                    exact ⟨⟨t + 1, [eY], R3, D3, by omega, by go_num, rfl, by rw [HS.out, hI1], by simp; omega, hr3, hE5⟩, by simp [intOf]; omega⟩
                  · obtain ⟨g, rfl, hgb⟩ : ∃ g, a0 = ⟨g, 0, none⟩ ∧ base ≤ g := by
                      rcases hown.2 with ⟨h, _⟩ | ⟨g, cap, cur, e1, e2, _⟩
                      · injection h with h; cases h
                      · injection e1 with e1; injection e1 with e1; exact ⟨g, e1, e2⟩
                    have hcap := row_cap' hown
                    by_cases hdn : d = ys.length
                    · subst hdn
                      go_wp2_with (first
                        | (refine wpList_app wr.heap.size rfl (.const (.slice none 0 0)) (.tmp 82) 46 3 (.int .i64 0) 1 8 rfl Try.underlying46 info_int rfl (by decide) (by decide) (.slice none 0 0) 0 [] rfl (World.ownsRow_nil _ _ _ _) _ 0 _ (nums .i64 []) rfl (by intro h; first | rfl | cases h) (by simp [nums]) (fun h => absurd rfl h) (by simp [nums]) (by omega) (Nat.le_refl _) (fun z1 w3 hr1 hg1 => ?_); obtain ⟨R1, D1, rfl⟩ := row_slice hr1)
                        | (refine wpList_app base rfl (.tmp 86) (.tmp 88) 46 3 (.int .i64 0) 1 8 rfl Try.underlying46 info_int rfl (by decide) (by decide) (.slice (some ⟨g, 0, none⟩) ys.length _) ys.length _ rfl (World.ownsRow.alloc (row_keep hown (ext_none' (Ext.refl _) hg1)) _) (some ⟨w3.heap.size, 0, none⟩) 1 1 [.int .i64 eY] rfl (fun h => by cases h) rfl (fun _ => ⟨_, rfl, World.news_of_block (blk_new w3 _)⟩) (by simp [Value.oneCell']) (by omega) (Nat.le_trans hbw (Nat.le_trans hg1.size (by simp))) (fun z2 w4 hr2 hg2 => ?_); obtain ⟨R2, D2, rfl⟩ := row_slice hr2)
                        | (refine wpList_app base rfl (.tmp 89) (.tmp 90) 46 3 (.int .i64 0) 1 8 rfl Try.underlying46 info_int rfl (by decide) (by decide) (.slice R2 (ys.length + 1) D2) (ys.length + 1) _ rfl hr2 R1 0 D1 (nums .i64 []) rfl (fun h => (row_nil_of hr1 h).1) (by simp [nums]) (fun h => absurd rfl h) (by simp [nums]) (by omega) (Nat.le_trans hbw (Nat.le_trans hg1.size (Nat.le_trans (by simp) hg2.size))) (fun z3 w5 hr3 hg3 => ?_); obtain ⟨R3, D3, rfl⟩ := row_slice hr3))
                      have hE3 : Below base w w3 := hE.trans (Below.mono (ext_none' (Ext.refl _) hg1) hbw)
                      have hb3 : base ≤ w3.heap.size := Nat.le_trans hbw hg1.size
                      have hE3' := Below.alloc hE3 hb3 (.cells #[.int .i64 eY] 3)
                      have hb3' : base ≤ (w3.alloc (.cells #[.int .i64 eY] 3)).heap.size := Nat.le_trans hb3 (by simp)
                      have hE4 : Below base w w4 := Below.grown hE3' hg2 hb3' (fun r e => by simp [Value.ownBlock] at e; try omega)
                      have hE5 : Below base w w5 := Below.grown hE4 hg3 (Nat.le_trans hb3' hg2.size) (row_base hr2)
                      have hI1 : edgeIns eY ys = ys ++ [eY] := by rw [HI.out]; simp
                      have hr5 : w5.ownsRow base 3 1 (.slice R3 (ys.length + 1) D3) (ys.length + 1) (nums .i64 (ys ++ [eY])) := by
                        rw [show nums .i64 (ys ++ [eY]) = nums .i64 ys ++ [.int .i64 eY] ++ nums .i64 [] by simp [nums]]
                        exact hr3
                      exact ⟨⟨t + 1, ys ++ [eY], R3, D3, by omega, by go_num, by simp, by rw [HS.out, hI1], by simp; omega, by rw [List.length_append]; exact hr5, hE5⟩, by simp [intOf]; omega⟩
                    · skip
                      go_wp2_with (first
                        | (refine wpList_app wr.heap.size rfl (.const (.slice none 0 0)) (.tmp 82) 46 3 (.int .i64 0) 1 8 rfl Try.underlying46 info_int rfl (by decide) (by decide) (.slice none 0 0) 0 [] rfl (World.ownsRow_nil _ _ _ _) _ 0 _ (nums .i64 []) rfl (by intro h; first | rfl | cases h) (by simp [nums]) (fun h => absurd rfl h) (by simp [nums]) (by omega) (Nat.le_refl _) (fun z1 w3 hr1 hg1 => ?_); obtain ⟨R1, D1, rfl⟩ := row_slice hr1)
                        | (refine wpList_app base rfl (.tmp 86) (.tmp 88) 46 3 (.int .i64 0) 1 8 rfl Try.underlying46 info_int rfl (by decide) (by decide) (.slice (some ⟨g, 0, none⟩) ys.length _) ys.length _ rfl (World.ownsRow.alloc (row_keep hown (ext_none' (Ext.refl _) hg1)) _) (some ⟨w3.heap.size, 0, none⟩) 1 1 [.int .i64 eY] rfl (fun h => by cases h) rfl (fun _ => ⟨_, rfl, World.news_of_block (blk_new w3 _)⟩) (by simp [Value.oneCell']) (by omega) (Nat.le_trans hbw (Nat.le_trans hg1.size (by simp))) (fun z2 w4 hr2 hg2 => ?_); obtain ⟨R2, D2, rfl⟩ := row_slice hr2)
                        | (refine wpList_app base rfl (.tmp 89) (.tmp 90) 46 3 (.int .i64 0) 1 8 rfl Try.underlying46 info_int rfl (by decide) (by decide) (.slice R2 (ys.length + 1) D2) (ys.length + 1) _ rfl hr2 R1 0 D1 (nums .i64 []) rfl (fun h => (row_nil_of hr1 h).1) (by simp [nums]) (fun h => absurd rfl h) (by simp [nums]) (by omega) (Nat.le_trans hbw (Nat.le_trans hg1.size (Nat.le_trans (by simp) hg2.size))) (fun z3 w5 hr3 hg3 => ?_); obtain ⟨R3, D3, rfl⟩ := row_slice hr3))
                      have hE3 : Below base w w3 := hE.trans (Below.mono (ext_none' (Ext.refl _) hg1) hbw)
                      have hb3 : base ≤ w3.heap.size := Nat.le_trans hbw hg1.size
                      have hE3' := Below.alloc hE3 hb3 (.cells #[.int .i64 eY] 3)
                      have hb3' : base ≤ (w3.alloc (.cells #[.int .i64 eY] 3)).heap.size := Nat.le_trans hb3 (by simp)
                      have hE4 : Below base w w4 := Below.grown hE3' hg2 hb3' (fun r e => by simp [Value.ownBlock] at e; try omega)
                      have hE5 : Below base w w5 := Below.grown hE4 hg3 (Nat.le_trans hb3' hg2.size) (row_base hr2)
                      have hI1 : edgeIns eY ys = ys ++ [eY] := by rw [HI.out]; simp
                      have hr5 : w5.ownsRow base 3 1 (.slice R3 (ys.length + 1) D3) (ys.length + 1) (nums .i64 (ys ++ [eY])) := by
                        rw [show nums .i64 (ys ++ [eY]) = nums .i64 ys ++ [.int .i64 eY] ++ nums .i64 [] by simp [nums]]
                        exact hr3
                      exact ⟨⟨t + 1, ys ++ [eY], R3, D3, by omega, by go_num, by simp, by rw [HS.out, hI1], by simp; omega, by rw [List.length_append]; exact hr5, hE5⟩, by simp [intOf]; omega⟩
          · obtain rfl : t = 2 := by omega
            have HF := Lib.hid hys
            clear hys
            go_wp2_with fail
            exact ⟨⟨k + 1, ys, B, d, by omega, by go_num, rfl, by omega, hown, hE, by rw [← HF.out]; exact Hst.out⟩, by simp [intOf]; omega⟩
      · simp only [hem] at hh
        rw [hem] at Hst
        simp only [if_true] at Hst
        go_wp2_with fail
        refine (hh _).mono ?_
        rintro e w1 ⟨rfl, hb1⟩
        have hbs : base ≤ wr.heap.size := Nat.le_trans hb0 hE.size
        clear hh h0 h1 h2 h3
        go_wp2_with fail
        exact ⟨⟨k + 1, xs, B, d, by omega, by go_num, rfl, by omega, row_keep hown hb1, hE.trans (Below.mono hb1 hbs), Hst.out⟩, by simp [intOf]; omega⟩
    · obtain rfl : k = l.length := by omega
      have hf : xs = edgesP down l xs0 := by
        have := Hst.out
        rw [List.drop_length] at this
        exact this
      clear Hst
      go_wp2_with fail
      go_ret
      rw [← hf]
      exact ⟨B, d, rfl, hown, hE⟩
end Go.Proofs.Ytjghghbldifhaaa
set_option linter.unusedVariables false
set_option linter.unusedSimpArgs false
namespace Go.Proofs.Ytjghghbldifhaaa
open Go.RowKit
section
variable {P : Program} {ops : Array Oper} {rest : List Oper} {o : Oper} {a : Act} {Q : Exit → Act → World → Prop} {w : World} {K : Act → World → Prop} {E : Prop}
theorem run_app2 (base : Nat) (t ty e : TypeId) (z : Value) (size bytes : Nat) (ht : P.underlying t = some (.slice e)) (hinfo : (P.info? e).map (fun i => (i.zero, i.size, i.bytes)) = some (some z, size, bytes))
    (hzs : z.cells.size = size) (hsz : 0 < size) (hby : 0 < bytes) (v : Value) (n : Nat) (xs : List Value) (hown : w.ownsRow base e size v n xs)
    (A : Option Addr) (m c : Nat) (news : List Value) (hc : A = none → c = 0) (hl : news.length = m * size) (hnews : Shows w A news) (h1 : ∀ u ∈ news, u.oneCell' = true)
    (hbytes : (n + m) * bytes ≤ 140737488355328) (hbase : base ≤ w.heap.size) :
    ∃ A' c' w', (Builtin.append_ #[t, t] ty #[v, .slice A m c]).run P w = .ok (.slice A' (n + m) c') w' ∧ w'.ownsRow base e size (.slice A' (n + m) c') (n + m) (xs ++ news) ∧ w.grownBy w' v.ownBlock ∧ ((Value.slice A' (n + m) c').ownBlock = v.ownBlock ∨ (Value.slice A' (n + m) c').ownBlock = some w.heap.size) := by
  obtain ⟨i, hi, hzz⟩ := Option.map_eq_some_iff.1 hinfo
  simp only [Prod.mk.injEq] at hzz
  obtain ⟨hz0, hz1, hz2⟩ := hzz
  have h63 : n + m ≤ maxLen := by
    have := Nat.le_mul_of_pos_right (n + m) hby
    simp only [maxLen]; omega
  rcases A with _ | ad
  · obtain rfl := hc rfl
    have hm : news = [] := by
      rcases news with _ | ⟨x, l⟩
      · rfl
      · obtain ⟨ad, h, _⟩ := hnews (by simp)
        cases h
    subst hm
    have hm0 : m = 0 := by
      have : 0 = m * size := hl
      rcases Nat.eq_zero_or_pos m with h | h
      · exact h
      · have := Nat.mul_pos h hsz; omega
    subst hm0
    obtain ⟨A', c', rfl⟩ := row_slice hown
    exact ⟨A', c', w, run_append_owned_none (P := P) (w := w) base t ty e i size ht hi _ n xs hown, by simpa using hown, World.grownBy.refl w _, .inl rfl⟩
  · have hnews' : ∀ j u, news[j]? = some u → w.cell? (ad.add j) = some u := by
      intro j u hu
      have hne : news ≠ [] := fun h => by rw [h] at hu; simp at hu
      obtain ⟨ad', h, hc⟩ := hnews hne
      injection h with h
      subst h
      exact hc j u hu
    obtain ⟨v', w', hr, h2, h3, _, h5⟩ := run_append_own_at (P := P) (w := w) base t ty e i z size bytes ht hi hz0 hz1 hz2 hzs hsz v n xs hown ad m c news hl hnews' h1 h63 hbytes hbase
    obtain ⟨A', c', rfl⟩ := row_slice h2
    exact ⟨A', c', w', hr, h2, h3, h5⟩
theorem wpList_app2 (base : Nat) (hgd : o.guard = none) (s x : Operand) (t e : TypeId) (z : Value) (size bytes : Nat)
    (ho : o.op = .call { callee := .builtin .append, args := #[s, x], argTypes := #[t, t] })
    (ht : P.underlying t = some (.slice e)) (hinfo : (P.info? e).map (fun i => (i.zero, i.size, i.bytes)) = some (some z, size, bytes))
    (hzs : z.cells.size = size) (hsz : 0 < size) (hby : 0 < bytes) (v : Value) (n : Nat) (xs : List Value) (hs : a.eval s = v) (hown : w.ownsRow base e size v n xs)
    (A : Option Addr) (m c : Nat) (news : List Value) (hx : a.eval x = .slice A m c) (hc : A = none → c = 0) (hl : news.length = m * size) (hnews : Shows w A news) (h1 : ∀ u ∈ news, u.oneCell' = true)
    (hbytes : (n + m) * bytes ≤ 140737488355328) (hbase : base ≤ w.heap.size)
    (h : ∀ A' c' w', w'.ownsRow base e size (.slice A' (n + m) c') (n + m) (xs ++ news) → w.grownBy w' v.ownBlock → ((Value.slice A' (n + m) c').ownBlock = v.ownBlock ∨ (Value.slice A' (n + m) c').ownBlock = some w.heap.size) → wpList P ops Q rest (a.put o.dst (.slice A' (n + m) c')) w') : wpList P ops Q (o :: rest) a w := by
  obtain ⟨A', c', w', hr, h2, h3, h4⟩ := run_app2 (P := P) (w := w) base t o.type e z size bytes ht hinfo hzs hsz hby v n xs hown A m c news hc hl hnews h1 hbytes hbase
  refine wpList_plain hgd fun K hK => ?_
  unfold Oper.wp
  simp only [execOp, ho, resolve, invoke, builtin, Sem.run_bind, Sem.run_pure, Result.andThen_ok, List.map_toArray, List.map_cons, List.map_nil, hs, hx, hr]
  exact hK _ _ (h A' c' w' h2 h3 h4)
theorem step_app2 (base : Nat) (hgd : o.guard = none) (s x : Operand) (t e : TypeId) (z : Value) (size bytes : Nat)
    (ho : o.op = .call { callee := .builtin .append, args := #[s, x], argTypes := #[t, t] })
    (ht : P.underlying t = some (.slice e)) (hinfo : (P.info? e).map (fun i => (i.zero, i.size, i.bytes)) = some (some z, size, bytes))
    (hzs : z.cells.size = size) (hsz : 0 < size) (hby : 0 < bytes) (v : Value) (n : Nat) (xs : List Value) (hs : a.eval s = v) (hown : w.ownsRow base e size v n xs)
    (A : Option Addr) (m c : Nat) (news : List Value) (hx : a.eval x = .slice A m c) (hc : A = none → c = 0) (hl : news.length = m * size) (hnews : Shows w A news) (h1 : ∀ u ∈ news, u.oneCell' = true)
    (hbytes : (n + m) * bytes ≤ 140737488355328) (hbase : base ≤ w.heap.size)
    (h : ∀ A' c' w', w'.ownsRow base e size (.slice A' (n + m) c') (n + m) (xs ++ news) → w.grownBy w' v.ownBlock → ((Value.slice A' (n + m) c').ownBlock = v.ownBlock ∨ (Value.slice A' (n + m) c').ownBlock = some w.heap.size) → K (a.put o.dst (.slice A' (n + m) c')) w') :
    if Region.wanted o (yielded ops a.tmps) = true then Oper.wp P o a w K Q else E := by
  have hw : Region.wanted o (yielded ops a.tmps) = true := by simp [Region.wanted, hgd]
  rw [if_pos hw]
  obtain ⟨A', c', w', hr, h2, h3, h4⟩ := run_app2 (P := P) (w := w) base t o.type e z size bytes ht hinfo hzs hsz hby v n xs hown A m c news hc hl hnews h1 hbytes hbase
  unfold Oper.wp
  simp only [execOp, ho, resolve, invoke, builtin, Sem.run_bind, Sem.run_pure, Result.andThen_ok, List.map_toArray, List.map_cons, List.map_nil, hs, hx, hr]
  exact h A' c' w' h2 h3 h4
end
end Go.Proofs.Ytjghghbldifhaaa
