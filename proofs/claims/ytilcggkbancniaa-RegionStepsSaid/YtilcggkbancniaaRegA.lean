/- Lists of rectangles: how they lie in memory; the walks of vignetteref02 Has, in, Rects, alike, and of the law's own and rects. -/
import Derived.Test.YtilcggkbancniaaRefC
import Derived.Test.YtilcggkbancniaaRefB
set_option linter.unusedVariables false
set_option linter.unusedSimpArgs false
namespace Go.Proofs.Ytilcggkbancniaa
open Go.RowKit

def rcell (r : Rect) : List Value := [.int .i64 r.x, .int .i64 r.y, .int .i64 r.w, .int .i64 r.h]
def rcells (l : List Rect) : List Value := l.flatMap rcell
theorem rcells_length (l : List Rect) : (rcells l).length = l.length * 4 := by
  induction l with
  | nil => rfl
  | cons r l ih => simp [rcells, rcell] at ih ⊢; omega
theorem rcells_get : ∀ {l : List Rect} {i : Nat} {r : Rect}, l[i]? = some r → ∀ j, j < 4 → (rcells l)[i * 4 + j]? = (rcell r)[j]?
  | [], i, r, h, _, _ => by simp at h
  | s :: l, 0, r, h, j, hj => by
    simp at h
    subst h
    show (rcell s ++ rcells l)[0 * 4 + j]? = _
    rw [Nat.zero_mul, Nat.zero_add, List.getElem?_append_left (by simpa [rcell] using hj)]
  | s :: l, i + 1, r, h, j, hj => by
    have ih := rcells_get (l := l) (i := i) (r := r) (by simpa using h) j hj
    show (rcell s ++ rcells l)[(i + 1) * 4 + j]? = _
    rw [List.getElem?_append_right (by simp [rcell]; omega)]
    rw [show (i + 1) * 4 + j - (rcell s).length = i * 4 + j by simp [rcell]; omega]
    exact ih
/-- A list of rectangles that is read. -/
def RectsAt (w : World) (A : Option Addr) (l : List Rect) : Prop := ∀ i r, l[i]? = some r → ∃ b off, A = some ⟨b, off, none⟩ ∧ w.cell? ⟨b, off + i * 4, none⟩ = some (.int .i64 r.x) ∧ w.cell? ⟨b, off + i * 4 + 1, none⟩ = some (.int .i64 r.y) ∧ w.cell? ⟨b, off + i * 4 + 2, none⟩ = some (.int .i64 r.w) ∧ w.cell? ⟨b, off + i * 4 + 3, none⟩ = some (.int .i64 r.h)
theorem RectsAt.ext {w w1 : World} {A : Option Addr} {l : List Rect} (h : RectsAt w A l) (hb : Ext w w1) : RectsAt w1 A l := fun i r hi => by
  obtain ⟨b, off, h1, h2, h3, h4, h5⟩ := h i r hi
  exact ⟨b, off, h1, hb.cellOf h2, hb.cellOf h3, hb.cellOf h4, hb.cellOf h5⟩
theorem RectsAt.nil (w : World) (A : Option Addr) : RectsAt w A [] := fun i r hi => by simp at hi
/-- The cells of rectangle i, the address known. -/
theorem RectsAt.form {w : World} {A : Option Addr} {l : List Rect} (h : RectsAt w A l) (hn : 0 < l.length) : ∃ b off, A = some ⟨b, off, none⟩ ∧ ∀ i r, l[i]? = some r → w.cell? ⟨b, off + i * 4, none⟩ = some (.int .i64 r.x) ∧ w.cell? ⟨b, off + i * 4 + 1, none⟩ = some (.int .i64 r.y) ∧ w.cell? ⟨b, off + i * 4 + 2, none⟩ = some (.int .i64 r.w) ∧ w.cell? ⟨b, off + i * 4 + 3, none⟩ = some (.int .i64 r.h) := by
  obtain ⟨b, off, e, _⟩ := h 0 l[0] (List.getElem?_eq_getElem hn)
  refine ⟨b, off, e, fun i r hi => ?_⟩
  obtain ⟨b', off', e', hc⟩ := h i r hi
  rw [e] at e'
  injection e' with e'
  injection e' with e1 e2
  subst e1; subst e2
  exact hc
/-- A row of the call's own that holds these rectangles. -/
abbrev OwnR (w : World) (base : Nat) (v : Value) (l : List Rect) : Prop := w.ownsRow base 38 4 v l.length (rcells l)
theorem OwnR.at {w : World} {base : Nat} {A : Option Addr} {c : Nat} {l : List Rect} (h : OwnR w base (.slice A l.length c) l) : RectsAt w A l := fun i r hi => by
  have hlt : i < l.length := (List.getElem?_eq_some_iff.1 hi).1
  obtain ⟨g, rfl, _⟩ : ∃ g, A = some ⟨g, 0, none⟩ ∧ True := by
    obtain ⟨g, cap, e, _⟩ := World.ownsRow.form h (by omega)
    injection e with e
    exact ⟨g, e, trivial⟩
  have hc := fun j (hj : j < 4) => (World.ownsRow.cellAt h (i * 4 + j) (by omega)).trans (rcells_get hi j hj)
  refine ⟨g, 0, rfl, ?_, ?_, ?_, ?_⟩
  · have := hc 0 (by decide); rw [Nat.zero_add]; simpa [rcell] using this
  · have := hc 1 (by decide); rw [Nat.zero_add]; simpa [rcell] using this
  · have := hc 2 (by decide); rw [Nat.zero_add]; simpa [rcell] using this
  · have := hc 3 (by decide); rw [Nat.zero_add]; simpa [rcell] using this
theorem RectsAt.shows {w : World} {A : Option Addr} {l : List Rect} (h : RectsAt w A l) : Shows w A (rcells l) := by
  intro hne
  have hn : 0 < l.length := by
    rcases l with _ | ⟨r, l⟩
    · exact absurd rfl hne
    · simp
  obtain ⟨b, off, rfl, hc⟩ := h.form hn
  refine ⟨_, rfl, fun j u hu => ?_⟩
  have hj : j < l.length * 4 := by
    rw [← rcells_length]
    exact (List.getElem?_eq_some_iff.1 hu).1
  have hi : j / 4 < l.length := by omega
  obtain ⟨h0, h1, h2, h3⟩ := hc (j / 4) l[j / 4] (List.getElem?_eq_getElem hi)
  have hg := rcells_get (List.getElem?_eq_getElem hi) (j % 4) (Nat.mod_lt _ (by decide))
  have e : j / 4 * 4 + j % 4 = j := by omega
  rw [e, hu] at hg
  rw [add_plain]
  have hm : j % 4 < 4 := Nat.mod_lt _ (by decide)
  generalize hq : j % 4 = q at *
  have ea : off + j = off + j / 4 * 4 + q := by omega
  rw [ea, hg]
  rcases q with _ | _ | _ | _ | q
  · simpa [rcell] using h0
  · simpa [rcell] using h1
  · simpa [rcell] using h2
  · simpa [rcell] using h3
  · omega
theorem info_rect : (Try.prog.info? 38).map (fun i => (i.zero, i.size, i.bytes)) = some (some (.agg #[.int .i64 0, .int .i64 0, .int .i64 0, .int .i64 0]), 4, 32) := by kernel_rfl
theorem rcells_one {l : List Rect} : ∀ u ∈ rcells l, u.oneCell' = true := by
  intro u hu
  obtain ⟨r, _, h⟩ := List.mem_flatMap.1 hu
  simp only [rcell, List.mem_cons, List.not_mem_nil, or_false] at h
  rcases h with rfl | rfl | rfl | rfl <;> rfl
theorem neq_rect (x y a b p q c d : Int) (w : World) : (binOp .neq 38 (.agg #[.int .i64 x, .int .i64 y, .int .i64 a, .int .i64 b]) (.agg #[.int .i64 p, .int .i64 q, .int .i64 c, .int .i64 d])).run Try.prog w = .ok (.bool (!Rect.eqB ⟨x, y, a, b⟩ ⟨p, q, c, d⟩)) w := by
  have hS : Try.prog.underlying 38 = some (.struct (Try.prog.fieldsOf 38)) := by kernel_rfl
  have hp : Try.prog.stoodInHeld 38 = false := by kernel_rfl
  rw [run_neq_struct, show (10000 : Nat) = 9999 + 1 from rfl, run_equalIn_agg w 9999 38 _ _ hS hp]
  simp only [Program.fieldsOf, Try.underlying38]
  go_simp
  simp only [Rect.eqB]
  by_cases h1 : x = p <;> by_cases h2 : y = q <;> by_cases h3 : a = c <;> by_cases h4 : b = d <;> simp [h1, h2, h3, h4]

theorem ext_none' {a b c : World} (h : Ext a b) (hg : b.grownBy c (Value.slice none 0 0).ownBlock) : Ext a c := Below.grown h hg h.size (fun r e => by simp [Value.ownBlock] at e)
def hasL (l : List Rect) (x y : Int) : Bool := l.any fun r => r.has x y
set_option maxHeartbeats 1000000 in
theorem rhasl_any (A : Option Addr) (c : Nat) (l : List Rect) (x y : Int) (w : World) (hl : RectsAt w A l) (hm : l.length ≤ 9223372036854775807) :
    Calls Try.prog 57 #[.slice A l.length c, .int .i64 x, .int .i64 y] w fun e w' => e = .returned (.bool (hasL l x y)) ∧ Ext w w' := by
  go_enter Try.func57, Try.ntmps57
  go_wp2_with fail
  go_loopw [7] (fun i wr => ∃ k : Nat, k ≤ l.length ∧ i = .int .i64 k ∧ hasL l x y = hasL (l.drop k) x y ∧ Ext w wr) (fun i _ => l.length - (intOf i).toNat)
  case atStart => exact ⟨0, Nat.zero_le _, rfl, rfl, Ext.refl _⟩
  case round =>
    obtain ⟨k, hk, rfl, hg, hE⟩ := hrel
    have Hg := Lib.hid hg
    clear hg
    by_cases hlt : k < l.length
    · obtain ⟨b, off, rfl, hc⟩ := (hl.ext hE).form (by omega)
      obtain ⟨h0, h1, h2, h3⟩ := hc k l[k] (List.getElem?_eq_getElem hlt)
      have hd : hasL (l.drop k) x y = (Rect.has l[k] x y || hasL (l.drop (k + 1)) x y) := by rw [List.drop_eq_getElem_cons hlt]; rfl
      rw [hd] at Hg
      clear hd hc
      generalize l[k] = r at *
      have hh := fun w => rhas_any r.x r.y r.w r.h x y w
      simp only [show Rect.mk r.x r.y r.w r.h = r from rfl] at hh
      cases hb : Rect.has r x y
      · simp only [hb] at hh
        rw [hb, Bool.false_or] at Hg
        go_wp2_with fail
        refine (hh _).mono ?_
        rintro e w1 ⟨rfl, hb1⟩
        clear hh
        go_wp2_with fail
        exact ⟨⟨k + 1, by omega, by go_num, Hg.out, hE.trans hb1⟩, by simp [intOf]; omega⟩
      · simp only [hb] at hh
        rw [hb, Bool.true_or] at Hg
        go_wp2_with fail
        refine (hh _).mono ?_
        rintro e w1 ⟨rfl, hb1⟩
        clear hh
        go_wp2_with fail
        go_ret
        exact ⟨by rw [Hg.out]; rfl, hE.trans hb1⟩
    · obtain rfl : k = l.length := by omega
      have He : Hid (hasL l x y = false) := by
        have := Hg.out
        rw [List.drop_length] at this
        exact Lib.hid (this.trans rfl)
      clear Hg
      go_wp2_with fail
      go_ret
      exact ⟨by rw [He.out]; rfl, hE⟩

/-- What is meant: 0: one of both, 1: the first alone, else both. -/
def meant (how : Int) (p q : Bool) : Bool := if how = 0 then p || q else if how = 1 then p && !q else p && q
set_option maxHeartbeats 1000000 in
theorem rin2_any (A B : Option Addr) (c d : Nat) (a b : List Rect) (x y how : Int) (w : World) (ha : RectsAt w A a) (hb : RectsAt w B b) (hm : a.length ≤ 9223372036854775807) (hn : b.length ≤ 9223372036854775807) :
    Calls Try.prog 87 #[.slice A a.length c, .slice B b.length d, .int .i64 x, .int .i64 y, .int .i64 how] w fun e w' => e = .returned (.bool (meant how (hasL a x y) (hasL b x y))) ∧ Ext w w' := by
  have h1 := fun w' (h : Ext w w') => rhasl_any A c a x y w' (ha.ext h) hm
  have h2 := fun w' (h : Ext w w') => rhasl_any B d b x y w' (hb.ext h) hn
  obtain ⟨p, hp⟩ : ∃ p, hasL a x y = p := ⟨_, rfl⟩
  obtain ⟨q, hq⟩ : ∃ q, hasL b x y = q := ⟨_, rfl⟩
  rw [hp, hq]
  simp only [hp] at h1
  simp only [hq] at h2
  clear hp hq ha hb
  have hw : how = 0 ∨ how = 1 ∨ (how == 0) = false ∧ (how == 1) = false := by
    by_cases h0 : how = 0
    · exact .inl h0
    · by_cases h1 : how = 1
      · exact .inr (.inl h1)
      · exact .inr (.inr (by simp [h0, h1]))
  rcases hw with rfl | rfl | ⟨e0, e1⟩
  all_goals
    cases p <;> cases q
    all_goals
      go_enter Try.func87, Try.ntmps87
      go_wp2_with fail
      refine (h1 _ (Ext.refl _)).mono ?_
      rintro e w1 ⟨rfl, hb1⟩
      go_wp2_with fail
      refine (h2 _ hb1).mono ?_
      rintro e w2 ⟨rfl, hb2⟩
      go_wp2_with fail
      go_ret
      exact ⟨by first | rfl | (have e0' : how ≠ 0 := by simpa using e0
                               have e1' : how ≠ 1 := by simpa using e1
                               simp [meant, e0', e1']), hb1.trans hb2⟩

set_option maxHeartbeats 1000000 in
theorem lown_any (A : Option Addr) (c : Nat) (l : List Rect) (w : World) (hl : RectsAt w A l) (hc : A = none → c = 0) (hm : l.length ≤ 4398046511104) :
    Calls Try.prog 42 #[.slice A l.length c] w fun e w' => ∃ B d, e = .returned (.slice B l.length d) ∧ OwnR w' w.heap.size (.slice B l.length d) l ∧ (B = none → d = 0) ∧ Ext w w' := by
  go_enter Try.func42, Try.ntmps42
  go_wp2_with (refine wpList_app w.heap.size rfl (.const (.slice none 0 0)) (.tmp 3) 65 38 (.agg #[.int .i64 0, .int .i64 0, .int .i64 0, .int .i64 0]) 4 32 rfl Try.underlying65 info_rect rfl (by decide) (by decide) (.slice none 0 0) 0 [] rfl (World.ownsRow_nil _ _ _ _) A l.length c (rcells l) rfl hc (rcells_length l) hl.shows rcells_one (by omega) (Nat.le_refl _) (fun v' w' hown' hg => ?_); obtain ⟨B, d, rfl⟩ := row_slice hown')
  go_ret
  rw [Nat.zero_add] at hown'
  refine ⟨B, d, by simp, hown', ?_, ext_none' (Ext.refl _) hg⟩
  rintro rfl
  rcases hown'.2 with ⟨h1, _⟩ | ⟨_, _, _, h1, _⟩
  · injection h1
  · cases h1

def eqR (a b : List Rect) : Bool := decide (a = b)
theorem eqR_len {a b : List Rect} (h : a.length ≠ b.length) : eqR a b = false := by simp only [eqR, decide_eq_false_iff_not]; intro e; exact h (by rw [e])
section
attribute [local go_sem ↓] neq_rect
set_option maxHeartbeats 2000000 in
theorem rrects_any (A B : Option Addr) (c d : Nat) (a b : List Rect) (w : World) (ha : RectsAt w A a) (hb : RectsAt w B b) (hm : a.length ≤ 9223372036854775807) (hn : b.length ≤ 9223372036854775807) :
    Calls Try.prog 44 #[.slice A a.length c, .slice B b.length d] w fun e w' => e = .returned (.bool (eqR a b)) ∧ Ext w w' := by
  by_cases hl : a.length = b.length
  · have hl1 : ((a.length : Nat) != b.length) = false := by simp [hl]
    go_enter Try.func44, Try.ntmps44
    have Hl := Lib.hid hl
    clear hl
    go_wp2_with fail
    go_loopw [5] (fun i wr => ∃ k : Nat, k ≤ a.length ∧ i = .int .i64 k ∧ a.take k = b.take k ∧ Ext w wr) (fun i _ => a.length - (intOf i).toNat)
    case atStart => exact ⟨0, Nat.zero_le _, rfl, by simp, Ext.refl _⟩
    case round =>
      obtain ⟨k, hk, rfl, ht, hE⟩ := hrel
      have Ht := Lib.hid ht
      clear ht
      by_cases hlt : k < a.length
      · have hlt2 : k < b.length := by have := Hl.out; omega
        obtain ⟨b1, o1, rfl, h1⟩ := (ha.ext hE).form (by omega)
        obtain ⟨b2, o2, rfl, h2⟩ := (hb.ext hE).form (by omega)
        obtain ⟨p0, p1, p2, p3⟩ := h1 k a[k] (List.getElem?_eq_getElem hlt)
        obtain ⟨q0, q1, q2, q3⟩ := h2 k b[k] (List.getElem?_eq_getElem hlt2)
        have t1 := List.take_succ_eq_append_getElem hlt
        have t2 := List.take_succ_eq_append_getElem hlt2
        have Ht2 : Hid (a[k] = b[k] → a.take (k + 1) = b.take (k + 1)) := fun e => by rw [t1, t2, Ht.out, e]
        have Ht3 : Hid (a[k] ≠ b[k] → eqR a b = false) := fun e => by
          simp only [eqR, decide_eq_false_iff_not]
          intro e2
          subst e2
          exact e rfl
        clear t1 t2 h1 h2
        generalize a[k] = p at *
        generalize b[k] = q at *
        cases he : Rect.eqB ⟨p.x, p.y, p.w, p.h⟩ ⟨q.x, q.y, q.w, q.h⟩
        · have hne : p ≠ q := fun e => by
            subst e
            rw [Rect.eqB_iff.2 rfl] at he
            cases he
          have HN := Lib.hid (Ht3.out hne)
          clear hne Ht2 Ht3
          go_wp2_with fail
          go_quiet (fail)
          go_wp2_with fail
          go_ret
          exact ⟨by rw [HN.out]; rfl, hE.drewN _⟩
        · have hpq : p = q := Rect.eqB_iff.1 he
          have HT := Lib.hid (Ht2.out hpq)
          clear hpq Ht2 Ht3
          go_wp2_with fail
          go_quiet (fail)
          go_wp2_with fail
          exact ⟨⟨k + 1, by omega, by go_num, HT.out, hE.drewN _⟩, by simp [intOf]; omega⟩
      · have he : eqR a b = true := by
          have := Ht.out
          have h2 := Hl.out
          rw [List.take_of_length_le (by omega), List.take_of_length_le (by omega)] at this
          simpa [eqR] using this
        have He := Lib.hid he
        clear he
        go_wp2_with fail
        go_ret
        exact ⟨by rw [He.out]; rfl, hE⟩
  · have hl1 : ((a.length : Nat) != b.length) = true := by simpa using hl
    rw [eqR_len hl]
    go_enter Try.func44, Try.ntmps44
    go_wp2_with fail
    go_ret
    exact ⟨rfl, Ext.refl _⟩
set_option maxHeartbeats 2000000 in
theorem lrects_any (A B : Option Addr) (c d : Nat) (a b : List Rect) (w : World) (ha : RectsAt w A a) (hb : RectsAt w B b) (hm : a.length ≤ 9223372036854775807) (hn : b.length ≤ 9223372036854775807) :
    Calls Try.prog 49 #[.slice A a.length c, .slice B b.length d] w fun e w' => e = .returned (.bool (eqR a b)) ∧ Ext w w' := by
  by_cases hl : a.length = b.length
  · have hl1 : ((a.length : Nat) != b.length) = false := by simp [hl]
    go_enter Try.func49, Try.ntmps49
    have Hl := Lib.hid hl
    clear hl
    go_wp2_with fail
    go_loopw [5] (fun i wr => ∃ k : Nat, k ≤ a.length ∧ i = .int .i64 k ∧ a.take k = b.take k ∧ Ext w wr) (fun i _ => a.length - (intOf i).toNat)
    case atStart => exact ⟨0, Nat.zero_le _, rfl, by simp, Ext.refl _⟩
    case round =>
      obtain ⟨k, hk, rfl, ht, hE⟩ := hrel
      have Ht := Lib.hid ht
      clear ht
      by_cases hlt : k < a.length
      · have hlt2 : k < b.length := by have := Hl.out; omega
        obtain ⟨b1, o1, rfl, h1⟩ := (ha.ext hE).form (by omega)
        obtain ⟨b2, o2, rfl, h2⟩ := (hb.ext hE).form (by omega)
        obtain ⟨p0, p1, p2, p3⟩ := h1 k a[k] (List.getElem?_eq_getElem hlt)
        obtain ⟨q0, q1, q2, q3⟩ := h2 k b[k] (List.getElem?_eq_getElem hlt2)
        have t1 := List.take_succ_eq_append_getElem hlt
        have t2 := List.take_succ_eq_append_getElem hlt2
        have Ht2 : Hid (a[k] = b[k] → a.take (k + 1) = b.take (k + 1)) := fun e => by rw [t1, t2, Ht.out, e]
        have Ht3 : Hid (a[k] ≠ b[k] → eqR a b = false) := fun e => by
          simp only [eqR, decide_eq_false_iff_not]
          intro e2
          subst e2
          exact e rfl
        clear t1 t2 h1 h2
        generalize a[k] = p at *
        generalize b[k] = q at *
        cases he : Rect.eqB ⟨p.x, p.y, p.w, p.h⟩ ⟨q.x, q.y, q.w, q.h⟩
        · have hne : p ≠ q := fun e => by
            subst e
            rw [Rect.eqB_iff.2 rfl] at he
            cases he
          have HN := Lib.hid (Ht3.out hne)
          clear hne Ht2 Ht3
          go_wp2_with fail
          go_quiet (fail)
          go_wp2_with fail
          go_ret
          exact ⟨by rw [HN.out]; rfl, hE.drewN _⟩
        · have hpq : p = q := Rect.eqB_iff.1 he
          have HT := Lib.hid (Ht2.out hpq)
          clear hpq Ht2 Ht3
          go_wp2_with fail
          go_quiet (fail)
          go_wp2_with fail
          exact ⟨⟨k + 1, by omega, by go_num, HT.out, hE.drewN _⟩, by simp [intOf]; omega⟩
      · have he : eqR a b = true := by
          have := Ht.out
          have h2 := Hl.out
          rw [List.take_of_length_le (by omega), List.take_of_length_le (by omega)] at this
          simpa [eqR] using this
        have He := Lib.hid he
        clear he
        go_wp2_with fail
        go_ret
        exact ⟨by rw [He.out]; rfl, hE⟩
  · have hl1 : ((a.length : Nat) != b.length) = true := by simpa using hl
    rw [eqR_len hl]
    go_enter Try.func49, Try.ntmps49
    go_wp2_with fail
    go_ret
    exact ⟨rfl, Ext.refl _⟩
end

/-- Have two bands the same across? -/
def alikeR (a b : List Rect) : Bool := decide (a.map (fun r => (r.x, r.w)) = b.map (fun r => (r.x, r.w)))
theorem alikeR_len {a b : List Rect} (h : a.length ≠ b.length) : alikeR a b = false := by
  simp only [alikeR, decide_eq_false_iff_not]
  intro e
  have := congrArg List.length e
  simp at this
  exact h this
set_option maxHeartbeats 2000000 in
theorem ralike_any (A B : Option Addr) (c d : Nat) (a b : List Rect) (w : World) (ha : RectsAt w A a) (hb : RectsAt w B b) (hm : a.length ≤ 9223372036854775807) (hn : b.length ≤ 9223372036854775807) :
    Calls Try.prog 88 #[.slice A a.length c, .slice B b.length d] w fun e w' => e = .returned (.bool (alikeR a b)) ∧ Ext w w' := by
  by_cases hl : a.length = b.length
  · have hl1 : ((a.length : Nat) != b.length) = false := by simp [hl]
    go_enter Try.func88, Try.ntmps88
    have Hl := Lib.hid hl
    clear hl
    go_wp2_with fail
    go_loopw [5] (fun i wr => ∃ k : Nat, k ≤ a.length ∧ i = .int .i64 k ∧ (a.take k).map (fun r => (r.x, r.w)) = (b.take k).map (fun r => (r.x, r.w)) ∧ Ext w wr) (fun i _ => a.length - (intOf i).toNat)
    case atStart => exact ⟨0, Nat.zero_le _, rfl, by simp, Ext.refl _⟩
    case round =>
      obtain ⟨k, hk, rfl, ht, hE⟩ := hrel
      have Ht := Lib.hid ht
      clear ht
      by_cases hlt : k < a.length
      · have hlt2 : k < b.length := by have := Hl.out; omega
        obtain ⟨b1, o1, rfl, h1⟩ := (ha.ext hE).form (by omega)
        obtain ⟨b2, o2, rfl, h2⟩ := (hb.ext hE).form (by omega)
        obtain ⟨p0, p1, p2, p3⟩ := h1 k a[k] (List.getElem?_eq_getElem hlt)
        obtain ⟨q0, q1, q2, q3⟩ := h2 k b[k] (List.getElem?_eq_getElem hlt2)
        have Ht2 : Hid (a[k].x = b[k].x ∧ a[k].w = b[k].w → (a.take (k + 1)).map (fun r => (r.x, r.w)) = (b.take (k + 1)).map (fun r => (r.x, r.w))) := fun e => by
          rw [List.take_succ_eq_append_getElem hlt, List.take_succ_eq_append_getElem hlt2, List.map_append, List.map_append, Ht.out]
          simp [e.1, e.2]
        have Ht3 : Hid (¬ (a[k].x = b[k].x ∧ a[k].w = b[k].w) → alikeR a b = false) := fun e => by
          simp only [alikeR, decide_eq_false_iff_not]
          intro e2
          have e3 : (a.map (fun r => (r.x, r.w)))[k]? = (b.map (fun r => (r.x, r.w)))[k]? := by rw [e2]
          simp [List.getElem?_map, List.getElem?_eq_getElem hlt, List.getElem?_eq_getElem hlt2] at e3
          exact e e3
        clear h1 h2
        generalize a[k] = p at *
        generalize b[k] = q at *
        by_cases hx : p.x = q.x
        · have hx1 : (p.x != q.x) = false := by simp [hx]
          by_cases hw : p.w = q.w
          · have hw1 : (p.w != q.w) = false := by simp [hw]
            have HT := Lib.hid (Ht2.out ⟨hx, hw⟩)
            clear hx hw Ht2 Ht3
            go_wp2_with fail
            go_quiet (fail)
            go_wp2_with fail
            exact ⟨⟨k + 1, by omega, by go_num, HT.out, hE.drewN _⟩, by simp [intOf]; omega⟩
          · have hw1 : (p.w != q.w) = true := by simpa using hw
            have HN := Lib.hid (Ht3.out (fun h => hw h.2))
            clear hx hw Ht2 Ht3
            go_wp2_with fail
            go_quiet (fail)
            go_wp2_with fail
            go_ret
            exact ⟨by rw [HN.out]; rfl, hE.drewN _⟩
        · have hx1 : (p.x != q.x) = true := by simpa using hx
          have HN := Lib.hid (Ht3.out (fun h => hx h.1))
          clear hx Ht2 Ht3
          go_wp2_with fail
          go_quiet (fail)
          go_wp2_with fail
          go_ret
          exact ⟨by rw [HN.out]; rfl, hE.drewN _⟩
      · have he : alikeR a b = true := by
          have := Ht.out
          have h2 := Hl.out
          rw [List.take_of_length_le (by omega), List.take_of_length_le (by omega)] at this
          simpa [alikeR] using this
        have He := Lib.hid he
        clear he
        go_wp2_with fail
        go_ret
        exact ⟨by rw [He.out]; rfl, hE⟩
  · have hl1 : ((a.length : Nat) != b.length) = true := by simpa using hl
    rw [alikeR_len hl]
    go_enter Try.func88, Try.ntmps88
    go_wp2_with fail
    go_ret
    exact ⟨rfl, Ext.refl _⟩
end Go.Proofs.Ytilcggkbancniaa
