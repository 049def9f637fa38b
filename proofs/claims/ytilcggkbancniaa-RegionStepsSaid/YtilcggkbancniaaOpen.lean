/- How an argument's memory is read: the shape of a type, and what a value of it holds. No program in sight. -/
import Derived.Test.YtilcggkbancniaaMem
import Derived.ChangeShapes
import Derived.WideShapes
set_option linter.unusedVariables false
set_option linter.unusedSimpArgs false
namespace Go.Proofs.Ytilcggkbancniaa
open Go.RowKit Go.ChangeShapes

/-- A shape: a whole number, a Bool, a slice, or a struct's fields one behind the other. -/
inductive Sh where
  | int (k : IntKind)
  | bool
  | slice (e : Sh)
  | nil
  | cons (a b : Sh)
def Sh.size : Sh → Nat
  | .int _ => 1
  | .bool => 1
  | .slice _ => 1
  | .nil => 0
  | .cons a b => a.size + b.size
def Sh.Is (w : World) : Sh → List Value → Prop
  | .int k, cs => ∃ n, cs = [.int k n] ∧ (Lit.int k n).wf = true
  | .bool, cs => ∃ b, cs = [.bool b]
  | .slice e, cs => cs = [.slice none 0 0] ∨ ∃ a len cap, cs = [.slice (some a) len cap] ∧ len ≤ cap ∧ cap ≤ maxLen ∧ ∀ i, i < len → ∃ l, (∀ j u, l[j]? = some u → w.cell? ((a.add (i * e.size)).add j) = some u) ∧ l.length = e.size ∧ e.Is w l
  | .nil, cs => cs = []
  | .cons a b, cs => ∃ l r, cs = l ++ r ∧ l.length = a.size ∧ a.Is w l ∧ b.Is w r
mutual
def Sh.fits (P : Program) : Nat → TypeId → Sh → Bool
  | 0, _, _ => false
  | f + 1, t, s => P.cellsOf t == s.size && match P.underlying t, s with
    | some (.int k), .int k' => decide (k = k')
    | some .bool, .bool => true
    | some (.slice u), .slice e => Sh.fits P f u e
    | some (.struct fs), .cons a b => Sh.fitsL P f fs.toList (.cons a b) 0
    | _, _ => false
def Sh.fitsL (P : Program) : Nat → List Field → Sh → Nat → Bool
  | 0, _, _, _ => false
  | _ + 1, [], .nil, _ => true
  | f + 1, x :: xs, .cons a b, o => x.offset == o && Sh.fits P f x.type a && Sh.fitsL P f xs b (o + a.size)
  | _ + 1, _, _, _ => false
end
theorem mapM_each {α β : Type} {f : α → Option β} : ∀ {l : List α} {ys : List β}, l.mapM f = some ys → ∀ x ∈ l, ∃ y, f x = some y
  | [], _, _, x, hx => by cases hx
  | a :: l, ys, h, x, hx => by
    simp only [List.mapM_cons, Option.bind_eq_bind, Option.bind_eq_some_iff, Option.pure_def] at h
    obtain ⟨y, hy, ys', hys, _⟩ := h
    rcases List.mem_cons.1 hx with rfl | hx
    · exact ⟨y, hy⟩
    · exact mapM_each hys x hx
theorem mapM_at {β : Type} {f : Nat → Option β} : ∀ {n : Nat} {ys : List β}, (List.range n).mapM f = some ys → ys.length = n ∧ ∀ j u, ys[j]? = some u → f j = some u
  | 0, ys, h => by
    simp at h
    subst h
    exact ⟨rfl, fun j u hj => by simp at hj⟩
  | n + 1, ys, h => by
    rw [List.range_succ, List.mapM_append] at h
    simp only [Option.bind_eq_bind, Option.bind_eq_some_iff, Option.pure_def, List.mapM_cons, List.mapM_nil] at h
    obtain ⟨l, hl, r, hr, h2⟩ := h
    obtain ⟨y, hy, r', hr', h3⟩ := hr
    injection hr' with hr'
    injection h3 with h3
    injection h2 with h2
    subst h2; subst h3; subst hr'
    obtain ⟨i1, i2⟩ := mapM_at hl
    refine ⟨by simp [i1], fun j u hj => ?_⟩
    rcases Nat.lt_or_ge j l.length with hlt | hge
    · rw [List.getElem?_append_left hlt] at hj; exact i2 j u hj
    · rw [List.getElem?_append_right hge] at hj
      have : j - l.length = 0 := by
        rcases Nat.eq_zero_or_pos (j - l.length) with h0 | h0
        · exact h0
        · rw [List.getElem?_eq_none (by simp only [List.length_cons, List.length_nil]; omega)] at hj; cases hj
      rw [this] at hj
      simp at hj
      subst hj
      rw [show j = n by omega]
      exact hy
section
variable {H : Type} {enc : TypeId × Value → H} {P : Program} {w : World} {base : Nat} {spare : Nat → Bool} {held : Bool}
theorem opensL {m : Nat} (cs : List Value) (ih : ∀ f t s ds x, Sh.fits P f t s = true → DataW.trod enc P w base spare held m t ds = some x → s.Is w ds ∧ ds.length = s.size) :
    ∀ (f : Nat) (l : List Field) (s : Sh) (o : Nat) (ys : List (DataW H × List MemPlace)), Sh.fitsL P f l s o = true → (l.mapM fun fl => DataW.trod enc P w base spare held m fl.type ((cs.drop fl.offset).take (P.cellsOf fl.type))) = some ys → s.Is w ((cs.drop o).take s.size)
  | 0, _, _, _, _, hf, _ => by simp [Sh.fitsL] at hf
  | f + 1, [], s, o, ys, hf, hm => by
    cases s <;> simp [Sh.fitsL] at hf
    simp [Sh.Is, Sh.size]
  | f + 1, x :: xs, s, o, ys, hf, hm => by
    cases s with
    | cons a b =>
      simp only [Sh.fitsL, Bool.and_eq_true, beq_iff_eq] at hf
      obtain ⟨⟨ho, h1⟩, h2⟩ := hf
      simp only [List.mapM_cons, Option.bind_eq_bind, Option.bind_eq_some_iff, Option.pure_def] at hm
      obtain ⟨y, hy, ys', hys, _⟩ := hm
      have hb := opensL cs ih f xs b (o + a.size) ys' h2 hys
      rw [ho] at hy
      obtain ⟨i1, i2⟩ := ih f x.type a _ y h1 hy
      have hsz : P.cellsOf x.type = a.size := by
        cases f with
        | zero => simp [Sh.fits] at h1
        | succ f => simp only [Sh.fits, Bool.and_eq_true, beq_iff_eq] at h1; exact h1.1
      rw [hsz] at i1 i2
      refine ⟨_, _, ?_, i2, i1, hb⟩
      show (cs.drop o).take (a.size + b.size) = _
      rw [List.take_add, List.drop_drop]
    | _ => simp [Sh.fitsL] at hf
theorem trod_int {m : Nat} {t : TypeId} {k : IntKind} {cs : List Value} {x : DataW H × List MemPlace} (hu : P.underlying t = some (.int k)) (h : DataW.trod enc P w base spare held (m + 1) t cs = some x) : ∃ n, cs = [.int k n] ∧ (Lit.int k n).wf = true := by
  unfold DataW.trod at h
  rw [hu] at h
  split at h <;> try (rename_i he; simp at he; done)
  all_goals try (rename_i he _; simp at he; done)
  all_goals try (simp at h; done)
  all_goals try contradiction
  rename_i he
  injection he with he
  injection he with he
  subst he
  split at h
  · rename_i hc
    obtain ⟨rfl, hw⟩ := hc
    exact ⟨_, rfl, hw⟩
  · cases h
theorem trod_bool {m : Nat} {t : TypeId} {cs : List Value} {x : DataW H × List MemPlace} (hu : P.underlying t = some .bool) (h : DataW.trod enc P w base spare held (m + 1) t cs = some x) : ∃ b, cs = [.bool b] := by
  unfold DataW.trod at h
  rw [hu] at h
  split at h <;> try (rename_i he; simp at he; done)
  all_goals try (rename_i he _; simp at he; done)
  all_goals try (simp at h; done)
  all_goals try contradiction
  exact ⟨_, rfl⟩
theorem trod_struct {m : Nat} {t : TypeId} {fs : Array Field} {cs : List Value} {x : DataW H × List MemPlace} (hu : P.underlying t = some (.struct fs)) (h : DataW.trod enc P w base spare held (m + 1) t cs = some x) : cs.length = P.cellsOf t ∧ ∃ ys, (fs.toList.mapM fun fl => DataW.trod enc P w base spare held m fl.type ((cs.drop fl.offset).take (P.cellsOf fl.type))) = some ys := by
  unfold DataW.trod at h
  rw [hu] at h
  split at h <;> try (rename_i he; simp at he; done)
  all_goals try (rename_i he _; simp at he; done)
  all_goals try (simp at h; done)
  all_goals try contradiction
  all_goals try exact (‹∀ fs_1 : Array Field, some (TypeDesc.struct fs) = some (TypeDesc.struct fs_1) → False› fs rfl).elim
  rename_i he
  injection he with he
  injection he with he
  subst he
  split at h
  · rename_i hc
    obtain ⟨ys, hys, _⟩ := Option.map_eq_some_iff.1 h
    exact ⟨hc, ys, hys⟩
  · cases h
theorem trod_slice {m : Nat} {t e : TypeId} {cs : List Value} {x : DataW H × List MemPlace} (hu : P.underlying t = some (.slice e)) (h : DataW.trod enc P w base spare held (m + 1) t cs = some x) : cs = [.slice none 0 0] ∨ ∃ a len cap, cs = [.slice (some a) len cap] ∧ len ≤ cap ∧ cap ≤ maxLen ∧ ∀ i, i < len → ∃ l y, w.cells? base (a.add (i * P.cellsOf e)) (P.cellsOf e) = some l ∧ DataW.trod enc P w base spare held m e l = some y := by
  unfold DataW.trod at h
  rw [hu] at h
  split at h <;> try (rename_i he; simp at he; done)
  all_goals try (rename_i he _; simp at he; done)
  all_goals try (simp at h; done)
  all_goals try contradiction
  · exact .inl rfl
  · rename_i he
    injection he with he
    injection he with he
    subst he
    simp only at h
    split at h
    · rename_i hc
      obtain ⟨elems, hel, _⟩ := Option.bind_eq_some_iff.1 h
      refine .inr ⟨_, _, _, rfl, hc.2.1, hc.2.2, fun i hi => ?_⟩
      obtain ⟨y, hy⟩ := mapM_each hel i (List.mem_range.2 hi)
      obtain ⟨l, hl, hly⟩ := Option.bind_eq_some_iff.1 hy
      exact ⟨l, y, hl, hly⟩
    · cases h
theorem cells_at {a : Addr} {n : Nat} {l : List Value} (h : w.cells? base a n = some l) : l.length = n ∧ ∀ j u, l[j]? = some u → w.cell? (a.add j) = some u := by
  unfold World.cells? at h
  split at h
  · exact mapM_at h
  · cases h
theorem opens : ∀ (m f : Nat) (t : TypeId) (s : Sh) (cs : List Value) (x : DataW H × List MemPlace), Sh.fits P f t s = true → DataW.trod enc P w base spare held m t cs = some x → s.Is w cs ∧ cs.length = s.size
  | 0, _, _, _, _, _, _, h => by simp [DataW.trod] at h
  | m + 1, 0, _, _, _, _, hf, _ => by simp [Sh.fits] at hf
  | m + 1, f + 1, t, s, cs, x, hf, h => by
    simp only [Sh.fits, Bool.and_eq_true, beq_iff_eq] at hf
    obtain ⟨hsz, hf⟩ := hf
    split at hf
    · rename_i k k' hu
      have hk : k = k' := by simpa using hf
      subst hk
      obtain ⟨n, rfl, hw⟩ := trod_int hu h
      exact ⟨⟨n, rfl, hw⟩, rfl⟩
    · rename_i hu
      obtain ⟨b, rfl⟩ := trod_bool hu h
      exact ⟨⟨b, rfl⟩, rfl⟩
    · rename_i u e hu
      have hes : P.cellsOf u = e.size := by
        cases f with
        | zero => simp [Sh.fits] at hf
        | succ f => simp only [Sh.fits, Bool.and_eq_true, beq_iff_eq] at hf; exact hf.1
      rcases trod_slice hu h with rfl | ⟨a, len, cap, rfl, h1, h2, h3⟩
      · exact ⟨.inl rfl, rfl⟩
      · refine ⟨.inr ⟨a, len, cap, rfl, h1, h2, fun i hi => ?_⟩, rfl⟩
        obtain ⟨l, y, hl, hy⟩ := h3 i hi
        rw [hes] at hl
        obtain ⟨c1, c2⟩ := cells_at hl
        exact ⟨l, c2, c1, (opens m f u e l y hf hy).1⟩
    · rename_i fs a b hu
      obtain ⟨hc, ys, hys⟩ := trod_struct hu h
      rw [hsz] at hc
      have := opensL cs (opens m) f fs.toList (.cons a b) 0 ys hf hys
      rw [List.drop_zero, List.take_of_length_le (by omega)] at this
      exact ⟨this, hc⟩
    · cases hf
end
end Go.Proofs.Ytilcggkbancniaa
