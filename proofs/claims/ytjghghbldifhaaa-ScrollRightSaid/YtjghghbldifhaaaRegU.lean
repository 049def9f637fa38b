/- The walk of the law's same, where it says no. -/
/- A list in form, place for place. No program in sight. -/
/- The walk of the law's form at a list in form. -/
/- The law's form says yes at every list in form. -/
import Derived.Test.YtjghghbldifhaaaRegB
import Derived.Test.YtjghghbldifhaaaRunsG
import Derived.Test.YtjghghbldifhaaaSched
import Derived.Test.YtjghghbldifhaaaRegM
set_option linter.unusedVariables false
set_option linter.unusedSimpArgs false
namespace Go.Proofs.Ytjghghbldifhaaa
open Go.RowKit

def xw (r : Rect) : Int × Int := (r.x, r.w)
set_option maxHeartbeats 2000000 in
theorem same_len (A B : Option Addr) (c d : Nat) (a b : List Rect) (w : World) (hm : a.length ≤ 2199023255552) (hn : b.length ≤ 2199023255552) (h : a.length = 0 ∨ a.length ≠ 0 ∧ a.length ≠ b.length) :
    Calls Try.prog 78 #[.slice A a.length c, .slice B b.length d] w fun e w' => e = .returned (.bool false) ∧ Ext w w' := by
  rcases h with h | ⟨h1, h2⟩
  · rw [h]
    go_enter Try.func78, Try.ntmps78
    go_wp2_with fail
    go_quiet (fail)
    go_wp2_with fail
    go_ret
    exact ⟨rfl, (Ext.refl _).drewN _⟩
  · have d1 : ((a.length : Int) == 0) = false := by simpa using h1
    have d2 : (a.length == b.length) = false := by simpa using h2
    have d3 : (a.length != b.length) = true := by simpa using h2
    have d6 : ((a.length : Int) != b.length) = true := by rw [bne_iff_ne]; omega
    have d4 : ¬ a.length = 0 := h1
    have d5 : (a.length == 0) = false := by simpa using h1
    go_enter Try.func78, Try.ntmps78
    go_wp2_with fail
    go_quiet (fail)
    go_wp2_with fail
    go_ret
    exact ⟨rfl, (Ext.refl _).drewN _⟩
set_option maxHeartbeats 2000000 in
theorem same_far (A B : Option Addr) (c d : Nat) (a b : List Rect) (w : World) (ha : RectsAt w A a) (hb : RectsAt w B b) (hm : a.length ≤ 2199023255552) (hl : a.length = b.length) (r s : Rect) (hr : a[0]? = some r) (hs : b[0]? = some s) (hbd : -2097152 ≤ r.y ∧ r.y ≤ 2097152 ∧ -2097152 ≤ r.h ∧ r.h ≤ 2097152) (h : r.y + r.h ≠ s.y) :
    Calls Try.prog 78 #[.slice A a.length c, .slice B b.length d] w fun e w' => e = .returned (.bool false) ∧ Ext w w' := by
  have hp : 0 < a.length := (List.getElem?_eq_some_iff.1 hr).1
  obtain ⟨b1, o1, rfl, h1⟩ := ha.form hp
  obtain ⟨b2, o2, rfl, h2⟩ := hb.form (by omega)
  obtain ⟨p0, p1, p2, p3⟩ := h1 0 r hr
  obtain ⟨q0, q1, q2, q3⟩ := h2 0 s hs
  obtain ⟨n, hn⟩ : ∃ n, b.length = n := ⟨_, rfl⟩
  rw [hl, hn]
  rw [hl, hn] at hp hm
  clear ha hb h1 h2 hl hn hr hs
  simp only [Nat.zero_mul, Nat.add_zero] at p0 p1 p2 p3 q0 q1 q2 q3
  obtain ⟨g1, g2, g3, g4⟩ := hbd
  have d1 : ((n : Int) == 0) = false := by rw [beq_eq_false_iff_ne]; omega
  have d2 : (r.y + r.h == s.y) = false := by simpa using h
  have d3 : (r.y + r.h != s.y) = true := by simpa using h
  have d5 : (n == 0) = false := by rw [beq_eq_false_iff_ne]; omega
  have d4 : ¬ n = 0 := by omega
  go_enter Try.func78, Try.ntmps78
  go_wp2_with fail
  go_quiet (fail)
  go_wp2_with fail
  go_ret
  exact ⟨rfl, (Ext.refl _).drewN _⟩
set_option maxHeartbeats 2000000 in
theorem same_other (A B : Option Addr) (c d : Nat) (a b : List Rect) (w : World) (ha : RectsAt w A a) (hb : RectsAt w B b) (hm : a.length ≤ 2199023255552) (hl : a.length = b.length) (r s : Rect) (hr : a[0]? = some r) (hs : b[0]? = some s) (hbd : -2097152 ≤ r.y ∧ r.y ≤ 2097152 ∧ -2097152 ≤ r.h ∧ r.h ≤ 2097152) (h : r.y + r.h = s.y) (hx : a.map xw ≠ b.map xw) :
    Calls Try.prog 78 #[.slice A a.length c, .slice B b.length d] w fun e w' => e = .returned (.bool false) ∧ Ext w w' := by
  have hp : 0 < a.length := (List.getElem?_eq_some_iff.1 hr).1
  obtain ⟨b1, o1, rfl, h1⟩ := ha.form hp
  obtain ⟨b2, o2, rfl, h2⟩ := hb.form (by omega)
  obtain ⟨p0, p1, p2, p3⟩ := h1 0 r hr
  obtain ⟨q0, q1, q2, q3⟩ := h2 0 s hs
  obtain ⟨n, hn⟩ : ∃ n, b.length = n := ⟨_, rfl⟩
  rw [hl, hn]
  rw [hl, hn] at hp hm
  have han : Hid (a.length = n) := Lib.hid (hl.trans hn)
  have hbn := Lib.hid hn
  clear h1 h2 hl hn hr hs
  simp only [Nat.zero_mul, Nat.add_zero] at p0 p1 p2 p3 q0 q1 q2 q3
  obtain ⟨g1, g2, g3, g4⟩ := hbd
  have d1 : ((n : Int) == 0) = false := by rw [beq_eq_false_iff_ne]; omega
  have d2 : (r.y + r.h == s.y) = true := by simpa using h
  have d3 : (r.y + r.h != s.y) = false := by simpa using h
  have d5 : (n == 0) = false := by rw [beq_eq_false_iff_ne]; omega
  have d4 : ¬ n = 0 := by omega
  have Hx := Lib.hid hx
  have HA := Lib.hid ha
  have HB := Lib.hid hb
  clear hx ha hb h
  go_enter Try.func78, Try.ntmps78
  go_wp2_with fail
  go_quiet (fail)
  clear p0 p1 p2 p3 q0 q1 q2 q3
  go_wp2_with fail
  go_loopw [5] (fun i wr => ∃ k : Nat, k ≤ n ∧ i = .int .i64 k ∧ Hid ((a.take k).map xw = (b.take k).map xw) ∧ Ext w wr) (fun i _ => n - (intOf i).toNat)
  case atStart => exact ⟨0, Nat.zero_le _, rfl, Lib.hid (by simp), (Ext.refl _).drewN _⟩
  case round =>
    obtain ⟨k, hk, rfl, ht, hE⟩ := hrel
    by_cases hlt : k < n
    · have hlt1 : k < a.length := by rw [han.out]; exact hlt
      have hlt2 : k < b.length := by rw [hbn.out]; exact hlt
      obtain ⟨b1', o1', e1, h1⟩ := (HA.out.ext hE).form (by omega)
      obtain ⟨b2', o2', e2, h2⟩ := (HB.out.ext hE).form (by omega)
      injection e1 with e1
      injection e1 with e11 e12
      subst e11
      subst e12
      injection e2 with e2
      injection e2 with e21 e22
      subst e21
      subst e22
      obtain ⟨p0, p1, p2, p3⟩ := h1 k a[k] (List.getElem?_eq_getElem hlt1)
      obtain ⟨q0, q1, q2, q3⟩ := h2 k b[k] (List.getElem?_eq_getElem hlt2)
      have t1 := List.take_succ_eq_append_getElem hlt1
      have t2 := List.take_succ_eq_append_getElem hlt2
      have Ht2 : Hid (xw a[k] = xw b[k] → (a.take (k + 1)).map xw = (b.take (k + 1)).map xw) := Lib.hid fun e => by rw [t1, t2, List.map_append, List.map_append, ht.out]; simp [e]
      clear t1 t2 h1 h2 ht
      generalize a[k] = p at *
      generalize b[k] = q at *
      clear hlt1 hlt2
      by_cases hx : p.x = q.x
      · have f1 : (p.x != q.x) = false := by simpa using hx
        by_cases hw : p.w = q.w
        · have f2 : (p.w != q.w) = false := by simpa using hw
          have HT := Lib.hid (Ht2.out (by unfold xw; rw [hx, hw]))
          clear Ht2 hx hw
          go_wp2_with fail
          go_quiet (fail)
          go_wp2_with fail
          exact ⟨⟨k + 1, by omega, by go_num, HT, hE.drewN _⟩, by simp [intOf]; omega⟩
        · have f2 : (p.w != q.w) = true := by simpa using hw
          clear Ht2 hx hw
          go_wp2_with fail
          go_quiet (fail)
          go_wp2_with fail
          go_ret
          exact ⟨rfl, hE.drewN _⟩
      · have f1 : (p.x != q.x) = true := by simpa using hx
        clear Ht2 hx
        go_wp2_with fail
        go_quiet (fail)
        go_wp2_with fail
        go_ret
        exact ⟨rfl, hE.drewN _⟩
    · exfalso
      have e := ht.out
      rw [List.take_of_length_le (by rw [han.out]; omega), List.take_of_length_le (by rw [hbn.out]; omega)] at e
      exact Hx.out e
end Go.Proofs.Ytjghghbldifhaaa
set_option linter.unusedVariables false
set_option linter.unusedSimpArgs false
namespace Go.Proofs.Ytjghghbldifhaaa

/-- Two lists of which the law's same says no. -/
def Apart (a b : List Rect) : Prop := a = [] ∨ a ≠ [] ∧ (a.length ≠ b.length ∨ a.length = b.length ∧ ∃ r s, a[0]? = some r ∧ b[0]? = some s ∧ (r.y + r.h ≠ s.y ∨ r.y + r.h = s.y ∧ a.map xw ≠ b.map xw))
theorem runsOk_next {α : Type} {d : α} : ∀ {l : List (Run α)} {p r : Run α} {m : List (Run α)}, runsOk d (l ++ p :: r :: m) → p.b ≤ r.a ∧ (p.b = r.a → p.v ≠ r.v)
  | [], p, r, m, h => h.2.2.1 r rfl
  | s :: l, p, r, m, h => runsOk_next (l := l) h.2.2.2
theorem bandRects_length (r : Run (List (Run Bool))) : (bandRects r).length = r.v.length := by simp [bandRects]
theorem flat_split (V1 : List (Run (List (Run Bool)))) (r : Run (List (Run Bool))) (V2 : List (Run (List (Run Bool)))) : flat (V1 ++ r :: V2) = flat V1 ++ (bandRects r ++ flat V2) := by
  rw [flat_append]; rfl
theorem band_get {r : Run (List (Run Bool))} {j : Nat} (h : j < r.v.length) : (bandRects r)[j]? = some ⟨r.v[j].a, r.a, r.v[j].b - r.v[j].a, r.b - r.a⟩ := by
  simp [bandRects, h]
theorem true_runs {l m : List (Run Bool)} (hl : ∀ s ∈ l, s.v = true) (hm : ∀ s ∈ m, s.v = true) {y h y' h' : Int} (e : (l.map fun s => (⟨s.a, y, s.b - s.a, h⟩ : Rect)).map xw = (m.map fun s => (⟨s.a, y', s.b - s.a, h'⟩ : Rect)).map xw) : l = m := by
  induction l generalizing m with
  | nil => cases m with
    | nil => rfl
    | cons t m => simp at e
  | cons s l ih =>
    cases m with
    | nil => simp at e
    | cons t m =>
      simp only [List.map_cons, List.cons.injEq] at e
      obtain ⟨e1, e2⟩ := e
      simp only [xw, Prod.mk.injEq] at e1
      have h1 := hl s (by simp)
      have h2 := hm t (by simp)
      have := ih (m := m) (fun u hu => hl u (by simp [hu])) (fun u hu => hm u (by simp [hu])) e2
      rw [this]
      congr 1
      obtain ⟨a, b, v⟩ := s
      obtain ⟨a', b', v'⟩ := t
      dsimp only at e1 h1 h2
      obtain ⟨e3, e4⟩ := e1
      subst h1 h2 e3
      congr 1
      omega
theorem apart_bands {V : List (Run (List (Run Bool)))} {V0 : List (Run (List (Run Bool)))} {p r : Run (List (Run Bool))} {V2 : List (Run (List (Run Bool)))} (hok : bandsOk V) (e : V = V0 ++ p :: r :: V2) : Apart (bandRects p) (bandRects r) := by
  have hp : p ∈ V := by rw [e]; simp
  have hr : r ∈ V := by rw [e]; simp
  have hp1 := runsOk_pos hok.1 p hp
  have hr1 := runsOk_pos hok.1 r hr
  have hn := runsOk_next (e ▸ hok.1 : runsOk [] (V0 ++ p :: r :: V2))
  have pos : ∀ {v : List (Run Bool)}, v ≠ [] → 0 < v.length := fun h => List.length_pos_iff.2 h
  have tr : ∀ q ∈ V, ∀ s ∈ q.v, s.v = true := fun q hq s hs => by simpa using (runsOk_pos (bandsOk_row hok hq) s hs).2
  refine .inr ⟨fun h => hp1.2 (by simpa [bandRects] using h), ?_⟩
  by_cases hl : (bandRects p).length = (bandRects r).length
  · refine .inr ⟨hl, _, _, band_get (pos hp1.2), band_get (pos hr1.2), ?_⟩
    dsimp only
    by_cases hb : p.b = r.a
    · exact .inr ⟨by omega, fun h => hn.2 hb (true_runs (tr p hp) (tr r hr) h)⟩
    · exact .inl (by omega)
  · exact .inl hl
/-- Where the law's form stands: what it holds at place i. -/
def FormAt (V : List (Run (List (Run Bool)))) (i above since : Nat) : Prop := i = 0 ∧ above = 0 ∧ since = 0 ∨ ∃ V1 r V2, V = V1 ++ r :: V2 ∧ since = (flat V1).length ∧ above = (flat V1.dropLast).length ∧ since < i ∧ i ≤ since + r.v.length
theorem formAt_apart {V V1 V2 : List (Run (List (Run Bool)))} {r : Run (List (Run Bool))} (hok : bandsOk V) (e : V = V1 ++ r :: V2) : (flat V1.dropLast).length ≤ (flat V1).length ∧ Apart (((flat V).drop (flat V1.dropLast).length).take ((flat V1).length - (flat V1.dropLast).length)) (((flat V).drop (flat V1).length).take r.v.length) := by
  have hB : ((flat V).drop (flat V1).length).take r.v.length = bandRects r := by
    rw [e, flat_split, List.drop_left, ← bandRects_length, List.take_left]
  rw [hB]
  rcases List.eq_nil_or_concat V1 with h | ⟨V0, p, h⟩
  · subst h
    exact ⟨Nat.le_refl _, .inl (by simp)⟩
  · rw [List.concat_eq_append] at h
    subst h
    have e2 : V = V0 ++ p :: r :: V2 := by rw [e]; simp
    have h1 : (flat (V0 ++ [p])).length = (flat V0).length + (bandRects p).length := by rw [flat_append, flat_one, List.length_append]
    rw [List.dropLast_concat, h1]
    refine ⟨by omega, ?_⟩
    rw [e2, flat_split, List.drop_left, Nat.add_sub_cancel_left, List.take_left]
    exact apart_bands hok e2
theorem form_step {V : List (Run (List (Run Bool)))} (hok : bandsOk V) {i above since : Nat} (hi : i < (flat V).length) (h : FormAt V i above since) :
    i = 0 ∧ FormAt V 1 0 0 ∧ above = 0 ∧ since = 0 ∨
    0 < i ∧ (∃ p q, (flat V)[i - 1]? = some p ∧ (flat V)[i]? = some q ∧ p.y = q.y ∧ p.h = q.h ∧ p.x + p.w < q.x) ∧ FormAt V (i + 1) above since ∨
    0 < i ∧ (∃ p q, (flat V)[i - 1]? = some p ∧ (flat V)[i]? = some q ∧ p.y ≠ q.y ∧ p.y + p.h ≤ q.y) ∧ above ≤ since ∧ since ≤ i ∧ Apart (((flat V).drop above).take (since - above)) (((flat V).drop since).take (i - since)) ∧ FormAt V (i + 1) since i := by
  have pos : ∀ {v : List (Run Bool)}, v ≠ [] → 0 < v.length := fun h => List.length_pos_iff.2 h
  rcases h with ⟨rfl, rfl, rfl⟩ | ⟨V1, r, V2, e, hs, ha, h1, h2⟩
  · refine .inl ⟨rfl, .inr ?_, rfl, rfl⟩
    rcases V with _ | ⟨r, V⟩
    · simp [flat] at hi
    · have := pos (runsOk_pos hok.1 r (by simp)).2
      exact ⟨[], r, V, rfl, rfl, rfl, by decide, by omega⟩
  · have hr : r ∈ V := by rw [e]; simp
    have hin : ∀ j, j < r.v.length → (flat V)[since + j]? = (bandRects r)[j]? := fun j hj => by
      rw [e, flat_split, hs, List.getElem?_append_right (by omega), Nat.add_sub_cancel_left, List.getElem?_append_left (by rw [bandRects_length]; exact hj)]
    by_cases hlt : i < since + r.v.length
    · obtain ⟨j, rfl⟩ : ∃ j, i = since + (j + 1) := ⟨i - since - 1, by omega⟩
      have g1 := (hin j (by omega)).trans (band_get (by omega))
      have g2 := (hin (j + 1) (by omega)).trans (band_get (by omega))
      have hrow := bandsOk_row hok hr
      have hnx : r.v[j].b ≤ r.v[j + 1].a ∧ (r.v[j].b = r.v[j + 1].a → r.v[j].v ≠ r.v[j + 1].v) := by
        have e3 : r.v = r.v.take j ++ r.v[j] :: r.v[j + 1] :: r.v.drop (j + 2) := by
          rw [← List.drop_eq_getElem_cons, ← List.drop_eq_getElem_cons, List.take_append_drop]
        exact runsOk_next (e3 ▸ hrow : runsOk false (r.v.take j ++ r.v[j] :: r.v[j + 1] :: r.v.drop (j + 2)))
      have v1 := (runsOk_pos hrow r.v[j] (List.getElem_mem _)).2
      have v2 := (runsOk_pos hrow r.v[j + 1] (List.getElem_mem _)).2
      have hne : r.v[j].b ≠ r.v[j + 1].a := fun h => hnx.2 h (by simp at v1 v2; rw [v1, v2])
      rw [show since + j = since + (j + 1) - 1 by omega] at g1
      refine .inr (.inl ⟨by omega, ⟨_, _, g1, g2, rfl, rfl, ?_⟩, .inr ⟨V1, r, V2, e, hs, ha, by omega, by omega⟩⟩)
      dsimp only; omega
    · obtain rfl : i = since + r.v.length := by omega
      rcases V2 with _ | ⟨t, V2⟩
      · rw [e, flat_split] at hi
        simp [bandRects_length, flat] at hi hs
        omega
      · have ht : t ∈ V := by rw [e]; simp
        have hr1 := runsOk_pos hok.1 r hr
        have ht1 := runsOk_pos hok.1 t ht
        have hrl := pos hr1.2
        have htl := pos ht1.2
        have hnx := runsOk_next (e ▸ hok.1 : runsOk [] (V1 ++ r :: t :: V2))
        have g1 := (hin (r.v.length - 1) (by omega)).trans (band_get (by omega))
        have e4 : V = (V1 ++ [r]) ++ t :: V2 := by rw [e]; simp
        have hl4 : (flat (V1 ++ [r])).length = since + r.v.length := by rw [flat_append, flat_one, List.length_append, bandRects_length, hs]
        have g2 : (flat V)[since + r.v.length]? = (bandRects t)[0]? := by
          rw [e4, flat_split, ← hl4, List.getElem?_append_right (Nat.le_refl _), Nat.sub_self, List.getElem?_append_left (by rw [bandRects_length]; exact htl)]
        have g2 := g2.trans (band_get htl)
        have hA := formAt_apart hok e
        rw [← hs, ← ha] at hA
        rw [show since + (r.v.length - 1) = since + r.v.length - 1 by omega] at g1
        refine .inr (.inr ⟨by omega, ⟨_, _, g1, g2, ?_, ?_⟩, hA.1, by omega, ?_, .inr ⟨V1 ++ [r], t, V2, e4, hl4.symm, ?_, by omega, by omega⟩⟩)
        · dsimp only; omega
        · dsimp only; omega
        · rw [Nat.add_sub_cancel_left]; exact hA.2
        · rw [List.dropLast_concat]; exact hs
theorem form_end {V : List (Run (List (Run Bool)))} (hok : bandsOk V) {above since : Nat} (h : FormAt V (flat V).length above since) : above ≤ since ∧ since ≤ (flat V).length ∧ Apart (((flat V).drop above).take (since - above)) ((flat V).drop since) := by
  rcases h with ⟨h1, rfl, rfl⟩ | ⟨V1, r, V2, e, hs, ha, h1, h2⟩
  · exact ⟨Nat.le_refl _, Nat.zero_le _, .inl (by simp)⟩
  · have hA := formAt_apart hok e
    rw [← hs, ← ha] at hA
    have hl : ((flat V).drop since).take r.v.length = (flat V).drop since := List.take_of_length_le (by rw [List.length_drop]; omega)
    rw [hl] at hA
    exact ⟨hA.1, by omega, hA.2⟩
/-- The list in form: its rectangles are good, and lie in bounds. -/
theorem listOf_good {how : Int} {a b : List Rect} {q : Rect} (h : q ∈ listOf how a b) : q.empty = false ∧ -1048576 ≤ q.x ∧ q.x + q.w ≤ 1048576 ∧ -1048576 ≤ q.y ∧ q.y + q.h ≤ 1048576 ∧ 0 < q.w ∧ 0 < q.h := by
  have hin := bandsOf_in how a b
  have hok := bandsOf_ok how a b
  obtain ⟨r, hr, s, hs, rfl⟩ := flat_mem.1 h
  have h1 := (runsOk_pos hok.1 r hr).1
  have h2 := (runsOk_pos (bandsOk_row hok hr) s hs).1
  have h3 := (hin r hr).1
  have h4 := (hin r hr).2 s hs
  refine ⟨Rect.empty_iff.2 (by dsimp only; omega), ?_⟩
  dsimp only
  omega
end Go.Proofs.Ytjghghbldifhaaa
set_option linter.unusedVariables false
set_option linter.unusedSimpArgs false
namespace Go.Proofs.Ytjghghbldifhaaa
open Go.RowKit

theorem same_apart (A B : Option Addr) (c d : Nat) (a b : List Rect) (w : World) (ha : RectsAt w A a) (hb : RectsAt w B b) (hm : a.length ≤ 2199023255552) (hn : b.length ≤ 2199023255552) (hbd : ∀ r ∈ a, -2097152 ≤ r.y ∧ r.y ≤ 2097152 ∧ -2097152 ≤ r.h ∧ r.h ≤ 2097152) (h : Apart a b) :
    Calls Try.prog 78 #[.slice A a.length c, .slice B b.length d] w fun e w' => e = .returned (.bool false) ∧ Ext w w' := by
  rcases h with h | ⟨h0, h | ⟨h, r, s, hr, hs, h1 | ⟨h1, h2⟩⟩⟩
  · exact same_len A B c d a b w hm hn (.inl (by simp [h]))
  · exact same_len A B c d a b w hm hn (.inr ⟨fun e => h0 (List.eq_nil_of_length_eq_zero e), h⟩)
  · exact same_far A B c d a b w ha hb hm h r s hr hs (hbd r (List.mem_of_getElem? hr)) h1
  · exact same_other A B c d a b w ha hb hm h r s hr hs (hbd r (List.mem_of_getElem? hr)) h1 h2
theorem RectsAt.sub {w : World} {B o : Nat} {L : List Rect} (h : RectsAt w (some ⟨B, o, none⟩) L) (k m : Nat) : RectsAt w (some ⟨B, o + k * 4, none⟩) ((L.drop k).take m) := fun i r hi => by
  have hg : L[k + i]? = some r := by
    rw [List.getElem?_take] at hi
    split at hi
    · rwa [List.getElem?_drop] at hi
    · cases hi
  obtain ⟨b, off, e, h1, h2, h3, h4⟩ := h (k + i) r hg
  injection e with e
  injection e with e1 e2
  subst e1
  subst e2
  have e : o + (k + i) * 4 = o + k * 4 + i * 4 := by omega
  rw [e] at h1 h2 h3 h4
  exact ⟨B, o + k * 4, rfl, h1, h2, h3, h4⟩
theorem forget {P : Program} {c : Code} {Q : Exit → Act → World → Prop} {a : Act} {w0 X : World} (h : Ext w0 X) (k : ∀ W1, Ext w0 W1 → Code.wp P c Q a W1) : Code.wp P c Q a X := k X h
set_option maxHeartbeats 4000000 in
theorem form_cons (B o d : Nat) (V : List (Run (List (Run Bool)))) (L : List Rect) (w : World) (hL : flat V = L) (hok : bandsOk V) (hgood : ∀ q ∈ L, q.empty = false ∧ -1048576 ≤ q.x ∧ q.x + q.w ≤ 1048576 ∧ -1048576 ≤ q.y ∧ q.y + q.h ≤ 1048576 ∧ 0 < q.w ∧ 0 < q.h) (hl : RectsAt w (some ⟨B, o, none⟩) L) (hlen : L.length ≤ 2199023255552) (hpos : 0 < L.length) (hcap : L.length ≤ d) :
    Calls Try.prog 20 #[.slice (some ⟨B, o, none⟩) L.length d] w fun e w' => e = .returned (.bool true) ∧ Ext w w' := by
  have HL := Lib.hid hl
  have HG := Lib.hid hgood
  have HO := Lib.hid hok
  have HF := Lib.hid hL
  have hBd : Hid (∀ r ∈ L, -2097152 ≤ r.y ∧ r.y ≤ 2097152 ∧ -2097152 ≤ r.h ∧ r.h ≤ 2097152) := Lib.hid fun r hr => by have := hgood r hr; omega
  clear hl hgood hok hL
  go_enter Try.func20, Try.ntmps20
  go_wp2_with fail
  go_loopw [3, 4, 5] (fun f ab i wr => ∃ k s t : Nat, k ≤ L.length ∧ i = .int .i64 k ∧ f = .int .i64 s ∧ ab = .int .i64 t ∧ Hid (FormAt V k t s) ∧ Ext w wr) (fun _ _ i _ => L.length - (intOf i).toNat)
  case atStart => exact ⟨0, 0, 0, Nat.zero_le _, rfl, rfl, rfl, Lib.hid (.inl ⟨rfl, rfl, rfl⟩), Ext.refl _⟩
  case round =>
    obtain ⟨k, s, t, hk, rfl, rfl, rfl, hF, hE⟩ := hrel
    by_cases hlt : k < L.length
    · have hst := form_step HO.out (by rw [HF.out]; exact hlt) hF.out
      rw [HF.out] at hst
      have hLw := HL.out.ext hE
      obtain ⟨b', o', e1, hc⟩ := hLw.form hpos
      injection e1 with e1
      injection e1 with e11 e12
      subst e11
      subst e12
      rcases hst with ⟨rfl, hF2, rfl, rfl⟩ | ⟨h0, ⟨p, q, hp, hq, hy, hh, hx⟩, hF2⟩ | ⟨h0, ⟨p, q, hp, hq, hy, hh⟩, hts, hsk, hap, hF2⟩
      · have HF2 := Lib.hid hF2
        obtain ⟨c0, c1, c2, c3⟩ := hc 0 L[0] (List.getElem?_eq_getElem hpos)
        have hemp := (HG.out L[0] (List.getElem_mem _)).1
        simp only [Nat.zero_mul, Nat.add_zero] at c0 c1 c2 c3
        generalize L[0] = q at *
        have hcon := fun w => empty_any q.x q.y q.w q.h w
        simp only [show Rect.mk q.x q.y q.w q.h = q from rfl, hemp] at hcon
        clear hF2 hc hemp hLw hF
        go_wp2_with fail
        refine (hcon _).mono ?_
        rintro e w1 ⟨rfl, hb1⟩
        clear hcon
        go_wp2_with fail
        exact ⟨⟨1, 0, 0, by omega, by go_num, rfl, rfl, HF2, hE.trans hb1⟩, by simp [intOf]; omega⟩
      · obtain ⟨j, rfl⟩ : ∃ j, k = j + 1 := ⟨k - 1, by omega⟩
        rw [Nat.add_sub_cancel] at hp
        have HF2 := Lib.hid hF2
        obtain ⟨c0, c1, c2, c3⟩ := hc (j + 1) q hq
        obtain ⟨p0, p1, p2, p3⟩ := hc j p hp
        have gp := HG.out p (List.mem_of_getElem? hp)
        have gq := HG.out q (List.mem_of_getElem? hq)
        have hemp := gq.1
        have hcon := fun w => empty_any q.x q.y q.w q.h w
        simp only [show Rect.mk q.x q.y q.w q.h = q from rfl, hemp] at hcon
        have f0 : (((j + 1 : Nat) : Int) == 0) = false := by rw [beq_eq_false_iff_ne]; omega
        have f0' : (((j : Nat) : Int) + 1 == 0) = false := by rw [beq_eq_false_iff_ne]; omega
        rw [hy] at p1
        rw [hh] at p3
        have f1 : (q.y == q.y) = true := by simp
        have f2 : (q.h != q.h) = false := by simp
        have f3 : (q.x ≤ p.x + p.w) = False := by simp; omega
        have wr1 : IntKind.i64.wrap ((j : Int) + 1 - 1) = j := by rw [show (j : Int) + 1 - 1 = j by omega]; exact IntWalk.i64_in _ (by omega)
        have hBw : B < wr.heap.size := World.block_lt_of_cell? _ _ c0
        clear hF2 hc hemp hLw hF hp hq hy hh
        go_wp2_with fail
        refine (hcon _).mono ?_
        rintro e w1 ⟨rfl, hb1⟩
        clear hcon
        replace c0 := hb1.cellOf c0
        replace c1 := hb1.cellOf c1
        replace c2 := hb1.cellOf c2
        replace c3 := hb1.cellOf c3
        replace p0 := hb1.cellOf p0
        replace p1 := hb1.cellOf p1
        replace p2 := hb1.cellOf p2
        replace p3 := hb1.cellOf p3
        replace hBw := Nat.lt_of_lt_of_le hBw hb1.size
        go_wp2_with fail
        go_quiet (fail)
        go_wp2_with fail
        go_quiet (fail)
        go_wp2_with fail
        exact ⟨⟨j + 1 + 1, s, t, by omega, by go_num, rfl, rfl, HF2, (hE.trans hb1).trans (((Ext.refl w1).alloc _).drewN _)⟩, by simp [intOf]; omega⟩
      · obtain ⟨j, rfl⟩ : ∃ j, k = j + 1 := ⟨k - 1, by omega⟩
        rw [Nat.add_sub_cancel] at hp
        have HF2 := Lib.hid hF2
        have Hap := Lib.hid hap
        obtain ⟨c0, c1, c2, c3⟩ := hc (j + 1) q hq
        obtain ⟨p0, p1, p2, p3⟩ := hc j p hp
        have gp := HG.out p (List.mem_of_getElem? hp)
        have gq := HG.out q (List.mem_of_getElem? hq)
        have hemp := gq.1
        have hcon := fun w => empty_any q.x q.y q.w q.h w
        simp only [show Rect.mk q.x q.y q.w q.h = q from rfl, hemp] at hcon
        have f0 : (((j + 1 : Nat) : Int) == 0) = false := by rw [beq_eq_false_iff_ne]; omega
        have f0' : (((j : Nat) : Int) + 1 == 0) = false := by rw [beq_eq_false_iff_ne]; omega
        have f1 : (p.y == q.y) = false := by simpa using hy
        have f3 : (q.y < p.y + p.h) = False := by simp; omega
        have wr1 : IntKind.i64.wrap ((j : Int) + 1 - 1) = j := by rw [show (j : Int) + 1 - 1 = j by omega]; exact IntWalk.i64_in _ (by omega)
        have hBw : B < wr.heap.size := World.block_lt_of_cell? _ _ c0
        clear hF2 hc hemp hLw hF hp hq hap
        go_wp2_with fail
        refine (hcon _).mono ?_
        rintro e w1 ⟨rfl, hb1⟩
        clear hcon
        replace c0 := hb1.cellOf c0
        replace c1 := hb1.cellOf c1
        replace c2 := hb1.cellOf c2
        replace c3 := hb1.cellOf c3
        replace p0 := hb1.cellOf p0
        replace p1 := hb1.cellOf p1
        replace p2 := hb1.cellOf p2
        replace p3 := hb1.cellOf p3
        replace hBw := Nat.lt_of_lt_of_le hBw hb1.size
        go_wp2_with fail
        go_quiet (fail)
        go_wp2_with fail
        go_quiet (fail)
        go_wp2_with fail
        refine forget (w0 := w) ((hE.trans hb1).trans ((((Ext.refl w1).alloc _).drewN _).drewN _)) ?_
        intro W1 hE1
        clear c0 c1 c2 c3 p0 p1 p2 p3 f0 f0' f1 f3 hBw hb1 gp gq hy hh wr1
        refine wp_region_sched (fun w' => ∃ x : After W1, w' = x.now) (by kernel_rfl) ?_
        have s1 : (t : Int) ≤ s := by omega
        have s2 : (s : Int) ≤ d := by omega
        have s3 : (s : Int) ≤ (j : Int) + 1 := by omega
        have s4 : (j : Int) + 1 ≤ d := by omega
        refine held_take [0, 1, 2, 4, 5, 6] _ _ 3 rfl (by kernel_rfl) rfl (by kernel_rfl) ⟨⟨W1.drew, (Ext.refl W1).drew⟩, rfl⟩ ?_
        simp only [List.filterMap_cons, List.filterMap_nil, List.getElem?_toArray, List.getElem?_cons_succ, List.getElem?_cons_zero]
        repeat (quiet_step (fail))
        refine wpQuiet_nil ?_
        refine held_take [3, 7] _ _ 1 rfl (by kernel_rfl) rfl (by kernel_rfl) ⟨⟨W1.drew, (Ext.refl W1).drew⟩, rfl⟩ ?_
        simp only [List.filterMap_cons, List.filterMap_nil, List.getElem?_toArray, List.getElem?_cons_succ, List.getElem?_cons_zero]
        repeat (quiet_step (fail))
        refine wpQuiet_nil ?_
        refine held_step (k := 8) rfl (by kernel_rfl) ?_
        have hA := (HL.out.ext (hE1.trans (Ext.refl W1).drew)).sub t (s - t)
        have hB := (HL.out.ext (hE1.trans (Ext.refl W1).drew)).sub s (j + 1 - s)
        have hcon := same_apart _ _ (d - t) (d - s) _ _ W1.drew hA hB (by rw [List.length_take, List.length_drop]; omega) (by rw [List.length_take, List.length_drop]; omega) (fun r hr => hBd.out r (List.mem_of_mem_drop (List.mem_of_mem_take hr))) Hap.out
        rw [show ((L.drop t).take (s - t)).length = s - t by rw [List.length_take, List.length_drop]; omega, show ((L.drop s).take (j + 1 - s)).length = j + 1 - s by rw [List.length_take, List.length_drop]; omega] at hcon
        clear hA hB
        go_wp2_with fail
        refine hcon.mono ?_
        rintro e w2 ⟨rfl, hE2⟩
        clear hcon
        have hE3 : Ext W1 w2 := (Ext.refl W1).drew.trans hE2
        go_wp2_with fail
        refine ⟨⟨⟨w2, hE3⟩, rfl⟩, ?_⟩
        refine held_done (by kernel_rfl) ?_
        go_wp2_with fail
        exact ⟨⟨j + 1 + 1, j + 1, s, by omega, by go_num, by go_num, rfl, HF2, hE1.trans hE3⟩, by simp [intOf]; omega⟩
    · obtain rfl : k = L.length := by omega
      have hen := form_end HO.out (by rw [HF.out]; exact hF.out)
      rw [HF.out] at hen
      obtain ⟨hts, hsk, hap⟩ := hen
      have Hap := Lib.hid hap
      have hsl : s < L.length := by
        rcases hF.out with ⟨h, _⟩ | ⟨_, _, _, _, _, _, h, _⟩
        · omega
        · exact h
      have s5 : s < d := by omega
      have s6 : t < d := by omega
      have s7 : ¬ (s = d) := by omega
      have s8 : ¬ (t = d) := by omega
      clear hF hap
      go_wp2_with fail
      refine forget (w0 := w) hE ?_
      intro W1 hE1
      clear hE
      have s1 : (t : Int) ≤ s := by omega
      have s2 : (s : Int) ≤ d := by omega
      have s3 : (s : Int) ≤ L.length := by omega
      refine wp_region_sched (fun w' => ∃ x : After W1, w' = x.now) (by kernel_rfl) ?_
      refine held_take [0, 1, 2, 4, 5] _ _ 5 rfl (by kernel_rfl) rfl (by kernel_rfl) ⟨⟨W1.drew, (Ext.refl W1).drew⟩, rfl⟩ ?_
      simp only [List.filterMap_cons, List.filterMap_nil, List.getElem?_toArray, List.getElem?_cons_succ, List.getElem?_cons_zero]
      repeat (quiet_step (fail))
      refine wpQuiet_nil ?_
      refine held_take [3, 6] _ _ 3 rfl (by kernel_rfl) rfl (by kernel_rfl) ⟨⟨W1.drew, (Ext.refl W1).drew⟩, rfl⟩ ?_
      simp only [List.filterMap_cons, List.filterMap_nil, List.getElem?_toArray, List.getElem?_cons_succ, List.getElem?_cons_zero]
      repeat (quiet_step (fail))
      refine wpQuiet_nil ?_
      refine held_step (k := 7) rfl (by kernel_rfl) ?_
      have hA := (HL.out.ext (hE1.trans (Ext.refl W1).drew)).sub t (s - t)
      have hB := (HL.out.ext (hE1.trans (Ext.refl W1).drew)).sub s (L.length - s)
      rw [show (L.drop s).take (L.length - s) = L.drop s from List.take_of_length_le (by rw [List.length_drop]; omega)] at hB
      have hcon := same_apart _ _ (d - t) (d - s) _ _ W1.drew hA hB (by rw [List.length_take, List.length_drop]; omega) (by rw [List.length_drop]; omega) (fun r hr => hBd.out r (List.mem_of_mem_drop (List.mem_of_mem_take hr))) Hap.out
      rw [show ((L.drop t).take (s - t)).length = s - t by rw [List.length_take, List.length_drop]; omega, show (L.drop s).length = L.length - s by rw [List.length_drop]] at hcon
      clear hA hB
      go_wp2_with fail
      refine hcon.mono ?_
      rintro e w2 ⟨rfl, hE2⟩
      clear hcon
      have hE3 : Ext W1 w2 := (Ext.refl W1).drew.trans hE2
      go_wp2_with fail
      refine ⟨⟨⟨w2, hE3⟩, rfl⟩, ?_⟩
      refine held_take [8] _ _ 1 rfl (by kernel_rfl) rfl (by kernel_rfl) ⟨⟨w2, hE3⟩, rfl⟩ ?_
      simp only [List.filterMap_cons, List.filterMap_nil, List.getElem?_toArray, List.getElem?_cons_succ, List.getElem?_cons_zero]
      repeat (quiet_step (fail))
      refine wpQuiet_nil ?_
      refine held_take [9] _ _ 0 rfl (by kernel_rfl) rfl (by kernel_rfl) ⟨⟨w2, hE3⟩, rfl⟩ ?_
      simp only [List.filterMap_cons, List.filterMap_nil, List.getElem?_toArray, List.getElem?_cons_succ, List.getElem?_cons_zero]
      repeat (quiet_step (fail))
      refine wpQuiet_nil ?_
      refine held_done (by kernel_rfl) ?_
      go_wp2_with fail
      go_ret
      exact ⟨rfl, hE1.trans hE3⟩
end Go.Proofs.Ytjghghbldifhaaa
set_option linter.unusedVariables false
set_option linter.unusedSimpArgs false
namespace Go.Proofs.Ytjghghbldifhaaa
open Go.RowKit

/-- The slice of a list that a call gave. -/
def Held (A : Option Addr) (d n : Nat) : Prop := A = none ∧ d = 0 ∧ n = 0 ∨ ∃ g, A = some ⟨g, 0, none⟩ ∧ n ≤ d
theorem OwnR.held {w : World} {base : Nat} {A : Option Addr} {d : Nat} {L : List Rect} (h : OwnR w base (.slice A L.length d) L) : Held A d L.length := by
  rcases h.2 with ⟨h1, h2⟩ | ⟨g, cap, cur, h1, _, _, h4, _⟩
  · injection h1 with e1 e2 e3
    exact .inl ⟨e1, e3, h2⟩
  · injection h1 with e1 e2 e3
    exact .inr ⟨g, e1, by omega⟩
set_option maxHeartbeats 2000000 in
theorem form_nil (w : World) : Calls Try.prog 20 #[.slice none 0 0] w fun e w' => e = .returned (.bool true) ∧ Ext w w' := by
  go_enter Try.func20, Try.ntmps20
  go_wp2_with fail
  go_loopw [3, 4, 5] (fun f ab i wr => i = .int .i64 0 ∧ f = .int .i64 0 ∧ ab = .int .i64 0 ∧ Ext w wr) (fun _ _ i _ => 0)
  case atStart => exact ⟨rfl, rfl, rfl, Ext.refl _⟩
  case round =>
    obtain ⟨rfl, rfl, rfl, hE⟩ := hrel
    go_wp2_with fail
    refine forget (w0 := w) hE ?_
    intro W1 hE1
    clear hE
    refine wp_region_sched (fun w' => ∃ x : After W1, w' = x.now) (by kernel_rfl) ?_
    refine held_take [0, 1, 2, 4, 5] _ _ 5 rfl (by kernel_rfl) rfl (by kernel_rfl) ⟨⟨W1.drew, (Ext.refl W1).drew⟩, rfl⟩ ?_
    simp only [List.filterMap_cons, List.filterMap_nil, List.getElem?_toArray, List.getElem?_cons_succ, List.getElem?_cons_zero]
    repeat (quiet_step (fail))
    refine wpQuiet_nil ?_
    refine held_take [3, 6] _ _ 3 rfl (by kernel_rfl) rfl (by kernel_rfl) ⟨⟨W1.drew, (Ext.refl W1).drew⟩, rfl⟩ ?_
    simp only [List.filterMap_cons, List.filterMap_nil, List.getElem?_toArray, List.getElem?_cons_succ, List.getElem?_cons_zero]
    repeat (quiet_step (fail))
    refine wpQuiet_nil ?_
    refine held_step (k := 7) rfl (by kernel_rfl) ?_
    go_wp2_with fail
    refine (same_len _ _ _ _ [] [] W1.drew (by decide) (by decide) (.inl rfl)).mono ?_
    rintro e w2 ⟨rfl, hE2⟩
    have hE3 : Ext W1 w2 := (Ext.refl W1).drew.trans hE2
    go_wp2_with fail
    refine ⟨⟨⟨w2, hE3⟩, rfl⟩, ?_⟩
    refine held_take [8] _ _ 1 rfl (by kernel_rfl) rfl (by kernel_rfl) ⟨⟨w2, hE3⟩, rfl⟩ ?_
    simp only [List.filterMap_cons, List.filterMap_nil, List.getElem?_toArray, List.getElem?_cons_succ, List.getElem?_cons_zero]
    repeat (quiet_step (fail))
    refine wpQuiet_nil ?_
    refine held_take [9] _ _ 0 rfl (by kernel_rfl) rfl (by kernel_rfl) ⟨⟨w2, hE3⟩, rfl⟩ ?_
    simp only [List.filterMap_cons, List.filterMap_nil, List.getElem?_toArray, List.getElem?_cons_succ, List.getElem?_cons_zero]
    repeat (quiet_step (fail))
    refine wpQuiet_nil ?_
    refine held_done (by kernel_rfl) ?_
    go_wp2_with fail
    go_ret
    exact ⟨rfl, hE1.trans hE3⟩
set_option maxHeartbeats 2000000 in
theorem form_empty0 (g : Nat) (w : World) : Calls Try.prog 20 #[.slice (some ⟨g, 0, none⟩) 0 0] w fun e w' => e = .returned (.bool true) ∧ Ext w w' := by
  go_enter Try.func20, Try.ntmps20
  go_wp2_with fail
  go_loopw [3, 4, 5] (fun f ab i wr => i = .int .i64 0 ∧ f = .int .i64 0 ∧ ab = .int .i64 0 ∧ Ext w wr) (fun _ _ i _ => 0)
  case atStart => exact ⟨rfl, rfl, rfl, Ext.refl _⟩
  case round =>
    obtain ⟨rfl, rfl, rfl, hE⟩ := hrel
    go_wp2_with fail
    refine forget (w0 := w) hE ?_
    intro W1 hE1
    clear hE
    refine wp_region_sched (fun w' => ∃ x : After W1, w' = x.now) (by kernel_rfl) ?_
    refine held_take [0, 1, 2, 4, 5] _ _ 5 rfl (by kernel_rfl) rfl (by kernel_rfl) ⟨⟨W1.drew, (Ext.refl W1).drew⟩, rfl⟩ ?_
    simp only [List.filterMap_cons, List.filterMap_nil, List.getElem?_toArray, List.getElem?_cons_succ, List.getElem?_cons_zero]
    repeat (quiet_step (fail))
    refine wpQuiet_nil ?_
    refine held_take [3, 6] _ _ 3 rfl (by kernel_rfl) rfl (by kernel_rfl) ⟨⟨W1.drew, (Ext.refl W1).drew⟩, rfl⟩ ?_
    simp only [List.filterMap_cons, List.filterMap_nil, List.getElem?_toArray, List.getElem?_cons_succ, List.getElem?_cons_zero]
    repeat (quiet_step (fail))
    refine wpQuiet_nil ?_
    refine held_step (k := 7) rfl (by kernel_rfl) ?_
    go_wp2_with fail
    refine (same_len _ _ _ _ [] [] W1.drew (by decide) (by decide) (.inl rfl)).mono ?_
    rintro e w2 ⟨rfl, hE2⟩
    have hE3 : Ext W1 w2 := (Ext.refl W1).drew.trans hE2
    go_wp2_with fail
    refine ⟨⟨⟨w2, hE3⟩, rfl⟩, ?_⟩
    refine held_take [8] _ _ 1 rfl (by kernel_rfl) rfl (by kernel_rfl) ⟨⟨w2, hE3⟩, rfl⟩ ?_
    simp only [List.filterMap_cons, List.filterMap_nil, List.getElem?_toArray, List.getElem?_cons_succ, List.getElem?_cons_zero]
    repeat (quiet_step (fail))
    refine wpQuiet_nil ?_
    refine held_take [9] _ _ 0 rfl (by kernel_rfl) rfl (by kernel_rfl) ⟨⟨w2, hE3⟩, rfl⟩ ?_
    simp only [List.filterMap_cons, List.filterMap_nil, List.getElem?_toArray, List.getElem?_cons_succ, List.getElem?_cons_zero]
    repeat (quiet_step (fail))
    refine wpQuiet_nil ?_
    refine held_done (by kernel_rfl) ?_
    go_wp2_with fail
    go_ret
    exact ⟨rfl, hE1.trans hE3⟩
set_option maxHeartbeats 2000000 in
theorem form_empty1 (g d : Nat) (w : World) (hd : 0 < d) : Calls Try.prog 20 #[.slice (some ⟨g, 0, none⟩) 0 d] w fun e w' => e = .returned (.bool true) ∧ Ext w w' := by
  have s5 : ¬ (0 = d) := by omega
  have s6 : ¬ (d = 0) := by omega
  go_enter Try.func20, Try.ntmps20
  go_wp2_with fail
  go_loopw [3, 4, 5] (fun f ab i wr => i = .int .i64 0 ∧ f = .int .i64 0 ∧ ab = .int .i64 0 ∧ Ext w wr) (fun _ _ i _ => 0)
  case atStart => exact ⟨rfl, rfl, rfl, Ext.refl _⟩
  case round =>
    obtain ⟨rfl, rfl, rfl, hE⟩ := hrel
    go_wp2_with fail
    refine forget (w0 := w) hE ?_
    intro W1 hE1
    clear hE
    refine wp_region_sched (fun w' => ∃ x : After W1, w' = x.now) (by kernel_rfl) ?_
    refine held_take [0, 1, 2, 4, 5] _ _ 5 rfl (by kernel_rfl) rfl (by kernel_rfl) ⟨⟨W1.drew, (Ext.refl W1).drew⟩, rfl⟩ ?_
    simp only [List.filterMap_cons, List.filterMap_nil, List.getElem?_toArray, List.getElem?_cons_succ, List.getElem?_cons_zero]
    repeat (quiet_step (fail))
    refine wpQuiet_nil ?_
    refine held_take [3, 6] _ _ 3 rfl (by kernel_rfl) rfl (by kernel_rfl) ⟨⟨W1.drew, (Ext.refl W1).drew⟩, rfl⟩ ?_
    simp only [List.filterMap_cons, List.filterMap_nil, List.getElem?_toArray, List.getElem?_cons_succ, List.getElem?_cons_zero]
    repeat (quiet_step (fail))
    refine wpQuiet_nil ?_
    refine held_step (k := 7) rfl (by kernel_rfl) ?_
    go_wp2_with fail
    refine (same_len _ _ _ _ [] [] W1.drew (by decide) (by decide) (.inl rfl)).mono ?_
    rintro e w2 ⟨rfl, hE2⟩
    have hE3 : Ext W1 w2 := (Ext.refl W1).drew.trans hE2
    go_wp2_with fail
    refine ⟨⟨⟨w2, hE3⟩, rfl⟩, ?_⟩
    refine held_take [8] _ _ 1 rfl (by kernel_rfl) rfl (by kernel_rfl) ⟨⟨w2, hE3⟩, rfl⟩ ?_
    simp only [List.filterMap_cons, List.filterMap_nil, List.getElem?_toArray, List.getElem?_cons_succ, List.getElem?_cons_zero]
    repeat (quiet_step (fail))
    refine wpQuiet_nil ?_
    refine held_take [9] _ _ 0 rfl (by kernel_rfl) rfl (by kernel_rfl) ⟨⟨w2, hE3⟩, rfl⟩ ?_
    simp only [List.filterMap_cons, List.filterMap_nil, List.getElem?_toArray, List.getElem?_cons_succ, List.getElem?_cons_zero]
    repeat (quiet_step (fail))
    refine wpQuiet_nil ?_
    refine held_done (by kernel_rfl) ?_
    go_wp2_with fail
    go_ret
    exact ⟨rfl, hE1.trans hE3⟩
theorem form_list (A : Option Addr) (d : Nat) (how : Int) (a b L : List Rect) (w : World) (hL : listOf how a b = L) (hl : RectsAt w A L) (hh : Held A d L.length) :
    Calls Try.prog 20 #[.slice A L.length d] w fun e w' => e = .returned (.bool true) ∧ Ext w w' := by
  subst hL
  have hlen := listOf_length how a b
  rcases hh with ⟨rfl, rfl, hn⟩ | ⟨g, rfl, hd⟩
  · rw [hn]; exact form_nil w
  · rcases Nat.eq_zero_or_pos (listOf how a b).length with hn | hp
    · rw [hn]
      rcases Nat.eq_zero_or_pos d with rfl | hd
      · exact form_empty0 g w
      · exact form_empty1 g d w hd
    · exact form_cons g 0 d (bandsOf how a b) (listOf how a b) w rfl (bandsOf_ok how a b) (fun q hq => listOf_good hq) hl hlen hp hd
end Go.Proofs.Ytjghghbldifhaaa
