/- Runs: what holds a value from where to where; a function that is constant between cuts has one list of runs. No program in sight. -/
import Derived.Test.YtilcggkbancniaaPure
set_option linter.unusedVariables false
set_option linter.unusedSimpArgs false
namespace Go.Proofs.Ytilcggkbancniaa

structure Run (α : Type) where
  a : Int
  b : Int
  v : α
deriving DecidableEq
section
variable {α : Type} {d : α}
/-- In form: rising, none of the default, no two that could be one. -/
def runsOk (d : α) : List (Run α) → Prop
  | [] => True
  | r :: l => r.a < r.b ∧ r.v ≠ d ∧ (∀ s ∈ l.head?, r.b ≤ s.a ∧ (r.b = s.a → r.v ≠ s.v)) ∧ runsOk d l
def runsAt (d : α) : List (Run α) → Int → α
  | [], _ => d
  | r :: l, x => if r.a ≤ x ∧ x < r.b then r.v else runsAt d l x
theorem runsAt_before : ∀ {l : List (Run α)} {x : Int}, runsOk d l → (∀ s ∈ l.head?, x < s.a) → runsAt d l x = d
  | [], _, _, _ => rfl
  | r :: l, x, h, hx => by
    have h1 := hx r (by simp)
    unfold runsAt
    rw [if_neg (by omega)]
    refine runsAt_before h.2.2.2 fun s hs => ?_
    have := (h.2.2.1 s hs).1
    have := h.1
    omega
theorem runsAt_first {r : Run α} {l : List (Run α)} (h : runsOk d (r :: l)) {x : Int} (h1 : r.a ≤ x) (h2 : x < r.b) : runsAt d (r :: l) x = r.v := by
  unfold runsAt
  rw [if_pos ⟨h1, h2⟩]
theorem runsAt_behind {r : Run α} {l : List (Run α)} {x : Int} (h2 : r.b ≤ x) : runsAt d (r :: l) x = runsAt d l x := by
  show (if _ then _ else _) = _
  rw [if_neg (by omega)]
/-- Behind a run another value holds. -/
theorem runsAt_end {r : Run α} {l : List (Run α)} (h : runsOk d (r :: l)) : runsAt d (r :: l) r.b ≠ r.v := by
  rw [runsAt_behind (Int.le_refl _)]
  rcases l with _ | ⟨s, l⟩
  · exact fun e => h.2.1 e.symm
  · have h3 := h.2.2.1 s (by simp)
    rcases Int.lt_or_eq_of_le h3.1 with hlt | heq
    · rw [runsAt_before h.2.2.2 (fun t ht => by simp at ht; subst ht; exact hlt)]
      exact fun e => h.2.1 e.symm
    · rw [runsAt_first h.2.2.2 (by omega) (by have := h.2.2.2.1; omega)]
      exact fun e => h3.2 heq e.symm
/-- A function has one list of runs. -/
theorem runs_unique : ∀ {l l' : List (Run α)}, runsOk d l → runsOk d l' → (∀ x, runsAt d l x = runsAt d l' x) → l = l'
  | [], [], _, _, _ => rfl
  | [], r :: l', _, h', he => by
    have := he r.a
    rw [runsAt_first h' (Int.le_refl _) h'.1] at this
    exact absurd this.symm h'.2.1
  | r :: l, [], h, _, he => by
    have := he r.a
    rw [runsAt_first h (Int.le_refl _) h.1] at this
    exact absurd this h.2.1
  | r :: l, s :: l', h, h', he => by
    have ea : r.a = s.a := by
      rcases Int.lt_trichotomy r.a s.a with hlt | heq | hgt
      · have := he r.a
        rw [runsAt_first h (Int.le_refl _) h.1, runsAt_before h' (fun t ht => by simp at ht; subst ht; exact hlt)] at this
        exact absurd this h.2.1
      · exact heq
      · have := he s.a
        rw [runsAt_first h' (Int.le_refl _) h'.1, runsAt_before h (fun t ht => by simp at ht; subst ht; exact hgt)] at this
        exact absurd this.symm h'.2.1
    have ev : r.v = s.v := by
      have := he r.a
      rw [runsAt_first h (Int.le_refl _) h.1, runsAt_first h' (by omega) (by have := h'.1; omega)] at this
      exact this
    have hr := h.1
    have hs := h'.1
    have eb : r.b = s.b := by
      rcases Int.lt_trichotomy r.b s.b with hlt | heq | hgt
      · have := he r.b
        rw [runsAt_first h' (by omega) hlt, ← ev] at this
        exact absurd this (runsAt_end h)
      · exact heq
      · have := he s.b
        rw [runsAt_first h (by omega) hgt, ev] at this
        exact absurd this.symm (runsAt_end h')
    have hl : l = l' := runs_unique h.2.2.2 h'.2.2.2 fun x => by
      rcases Int.lt_or_le x r.b with hlt | hge
      · rw [runsAt_before h.2.2.2 (fun t ht => by have := (h.2.2.1 t ht).1; omega), runsAt_before h'.2.2.2 (fun t ht => by have := (h'.2.2.1 t ht).1; omega)]
      · have := he x
        rwa [runsAt_behind hge, runsAt_behind (by omega)] at this
    rw [hl]
    obtain ⟨ra, rb, rv⟩ := r
    obtain ⟨sa, sb, sv⟩ := s
    simp_all

/-- A value from a to b is put behind. -/
def runsPush [DecidableEq α] (d : α) (l : List (Run α)) (a b : Int) (v : α) : List (Run α) :=
  if v = d then l else
  match l.getLast? with
  | none => [⟨a, b, v⟩]
  | some r => if r.b = a ∧ r.v = v then l.dropLast ++ [⟨r.a, b, r.v⟩] else l ++ [⟨a, b, v⟩]
theorem runsOk_snoc : ∀ {l : List (Run α)} {r : Run α}, runsOk d (l ++ [r]) ↔ runsOk d l ∧ r.a < r.b ∧ r.v ≠ d ∧ (∀ s ∈ l.getLast?, s.b ≤ r.a ∧ (s.b = r.a → s.v ≠ r.v))
  | [], r => by simp [runsOk]
  | [s], r => by
    simp only [List.cons_append, List.nil_append, runsOk, List.head?_cons, Option.mem_some, List.head?_nil, List.getLast?_singleton]
    constructor
    · rintro ⟨h1, h2, h3, h4, h5, _⟩
      exact ⟨⟨h1, h2, by simp, trivial⟩, h4, h5, fun t ht => by subst ht; exact h3 r rfl⟩
    · rintro ⟨⟨h1, h2, _⟩, h4, h5, h3⟩
      exact ⟨h1, h2, fun t ht => by subst ht; exact h3 s rfl, h4, h5, by simp, trivial⟩
  | s :: t :: l, r => by
    have ih := runsOk_snoc (l := t :: l) (r := r)
    have e : (s :: t :: l) ++ [r] = s :: (t :: (l ++ [r])) := rfl
    rw [e]
    show (_ ∧ _ ∧ _ ∧ runsOk d (t :: l ++ [r])) ↔ (_ ∧ _ ∧ _ ∧ runsOk d (t :: l)) ∧ _
    rw [ih]
    constructor
    · rintro ⟨h1, h2, h3, h4, h5, h6, h7⟩
      exact ⟨⟨h1, h2, h3, h4⟩, h5, h6, by rw [List.getLast?_cons_cons]; exact h7⟩
    · rintro ⟨⟨h1, h2, h3, h4⟩, h5, h6, h7⟩
      exact ⟨h1, h2, h3, h4, h5, h6, by rw [List.getLast?_cons_cons] at h7; exact h7⟩
theorem runsAt_snoc : ∀ {l : List (Run α)} {r : Run α}, runsOk d (l ++ [r]) → ∀ x, runsAt d (l ++ [r]) x = if r.a ≤ x ∧ x < r.b then r.v else runsAt d l x
  | [], r, _, x => rfl
  | s :: l, r, h, x => by
    have hs : s.b ≤ r.a := by
      have : ∀ (l : List (Run α)) (s r : Run α), runsOk d (s :: (l ++ [r])) → s.b ≤ r.a := by
        intro l
        induction l with
        | nil => intro s r h; exact (h.2.2.1 r (by simp)).1
        | cons t l ih =>
          intro s r h
          have h1 := (h.2.2.1 t (by simp)).1
          have h2 := ih t r h.2.2.2
          have h3 := h.2.2.2.1
          omega
      exact this l s r h
    have ih := runsAt_snoc (l := l) (r := r) h.2.2.2 x
    show (if s.a ≤ x ∧ x < s.b then s.v else runsAt d (l ++ [r]) x) = _
    rw [ih]
    show _ = if r.a ≤ x ∧ x < r.b then r.v else (if s.a ≤ x ∧ x < s.b then s.v else runsAt d l x)
    by_cases h1 : s.a ≤ x ∧ x < s.b
    · rw [if_pos h1, if_neg (by omega), if_pos h1]
    · rw [if_neg h1, if_neg h1]
/-- Behind the last run. -/
def runsTo (l : List (Run α)) (a : Int) : Prop := ∀ s ∈ l.getLast?, s.b ≤ a
theorem runsPush_ok [DecidableEq α] {l : List (Run α)} {a b : Int} {v : α} (h : runsOk d l) (ht : runsTo l a) (hab : a < b) :
    runsOk d (runsPush d l a b v) ∧ runsTo (runsPush d l a b v) b ∧ ∀ x, runsAt d (runsPush d l a b v) x = if a ≤ x ∧ x < b then (if v = d then runsAt d l x else v) else runsAt d l x := by
  unfold runsPush
  by_cases hv : v = d
  · rw [if_pos hv]
    refine ⟨h, fun s hs => by have := ht s hs; omega, fun x => by rw [if_pos hv]; split <;> rfl⟩
  · rw [if_neg hv]
    rcases List.eq_nil_or_concat l with rfl | ⟨l0, r, rfl⟩
    · refine ⟨⟨hab, hv, by simp, trivial⟩, by simp [runsTo], fun x => ?_⟩
      rw [if_neg hv]
      rfl
    · rw [List.concat_eq_append] at h ht ⊢
      have hlast : (l0 ++ [r]).getLast? = some r := by simp
      rw [hlast]
      dsimp only
      have hrb := ht r (by simp)
      have hok := runsOk_snoc.1 h
      by_cases hm : r.b = a ∧ r.v = v
      · rw [if_pos hm, List.dropLast_concat]
        have h2 : runsOk d (l0 ++ [⟨r.a, b, r.v⟩]) := runsOk_snoc.2 ⟨hok.1, by dsimp only; omega, hok.2.2.1, hok.2.2.2⟩
        refine ⟨h2, by simp [runsTo], fun x => ?_⟩
        rw [runsAt_snoc h2, runsAt_snoc h, if_neg hv]
        dsimp only
        have hra := hok.2.1
        by_cases h3 : a ≤ x ∧ x < b
        · rw [if_pos (by omega), if_pos h3, hm.2]
        · rw [if_neg h3]
          by_cases h4 : r.a ≤ x ∧ x < r.b
          · rw [if_pos h4, if_pos (by omega)]
          · rw [if_neg h4, if_neg (by omega)]
      · rw [if_neg hm]
        have h2 : runsOk d (l0 ++ [r] ++ [⟨a, b, v⟩]) := runsOk_snoc.2 ⟨h, hab, hv, fun s hs => by
          rw [hlast] at hs
          simp at hs
          subst hs
          exact ⟨hrb, fun e e2 => hm ⟨e, e2⟩⟩⟩
        refine ⟨h2, by simp [runsTo], fun x => ?_⟩
        rw [runsAt_snoc h2, if_neg hv]
end
end Go.Proofs.Ytilcggkbancniaa
