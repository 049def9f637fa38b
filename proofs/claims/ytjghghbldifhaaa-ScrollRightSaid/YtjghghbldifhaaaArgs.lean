/- How an argument's memory is read: the shape of a type, and what a value of it holds. No program in sight. -/
/- What is handed in, as these laws meet it. -/
import Derived.Test.YtjghghbldifhaaaApp
import Derived.ChangeShapes
import Derived.WideShapes
set_option linter.unusedVariables false
set_option linter.unusedSimpArgs false
namespace Go.Proofs.Ytjghghbldifhaaa
open Go.RowKit Go.ChangeShapes

/-- A shape: a whole number, a Bool, a slice, or a struct's fields one behind the other. -/
inductive Sh where
  | int (k : IntKind)
  | bool
  | slice (e : Sh)
  | nil
  | cons (a b : Sh)
def Sh.size : Sh → Nat
  | .int _ => 1
  | .bool => 1
  | .slice _ => 1
  | .nil => 0
  | .cons a b => a.size + b.size
def Sh.Is (w : World) : Sh → List Value → Prop
  | .int k, cs => ∃ n, cs = [.int k n] ∧ (Lit.int k n).wf = true
  | .bool, cs => ∃ b, cs = [.bool b]
  | .slice e, cs => cs = [.slice none 0 0] ∨ ∃ a len cap, cs = [.slice (some a) len cap] ∧ len ≤ cap ∧ cap ≤ maxLen ∧ ∀ i, i < len → ∃ l, (∀ j u, l[j]? = some u → w.cell? ((a.add (i * e.size)).add j) = some u) ∧ l.length = e.size ∧ e.Is w l
  | .nil, cs => cs = []
  | .cons a b, cs => ∃ l r, cs = l ++ r ∧ l.length = a.size ∧ a.Is w l ∧ b.Is w r
mutual
def Sh.fits (P : Program) : Nat → TypeId → Sh → Bool
  | 0, _, _ => false
  | f + 1, t, s => P.cellsOf t == s.size && match P.underlying t, s with
    | some (.int k), .int k' => decide (k = k')
    | some .bool, .bool => true
    | some (.slice u), .slice e => Sh.fits P f u e
    | some (.struct fs), .cons a b => Sh.fitsL P f fs.toList (.cons a b) 0
    | _, _ => false
def Sh.fitsL (P : Program) : Nat → List Field → Sh → Nat → Bool
  | 0, _, _, _ => false
  | _ + 1, [], .nil, _ => true
  | f + 1, x :: xs, .cons a b, o => x.offset == o && Sh.fits P f x.type a && Sh.fitsL P f xs b (o + a.size)
  | _ + 1, _, _, _ => false
end
theorem mapM_each {α β : Type} {f : α → Option β} : ∀ {l : List α} {ys : List β}, l.mapM f = some ys → ∀ x ∈ l, ∃ y, f x = some y
  | [], _, _, x, hx => by cases hx
  | a :: l, ys, h, x, hx => by
    simp only [List.mapM_cons, Option.bind_eq_bind, Option.bind_eq_some_iff, Option.pure_def] at h
    obtain ⟨y, hy, ys', hys, _⟩ := h
    rcases List.mem_cons.1 hx with rfl | hx
    · exact ⟨y, hy⟩
    · exact mapM_each hys x hx
theorem mapM_at {β : Type} {f : Nat → Option β} : ∀ {n : Nat} {ys : List β}, (List.range n).mapM f = some ys → ys.length = n ∧ ∀ j u, ys[j]? = some u → f j = some u
  | 0, ys, h => by
    simp at h
    subst h
    exact ⟨rfl, fun j u hj => by simp at hj⟩
  | n + 1, ys, h => by
    rw [List.range_succ, List.mapM_append] at h
    simp only [Option.bind_eq_bind, Option.bind_eq_some_iff, Option.pure_def, List.mapM_cons, List.mapM_nil] at h
    obtain ⟨l, hl, r, hr, h2⟩ := h
    obtain ⟨y, hy, r', hr', h3⟩ := hr
    injection hr' with hr'
    injection h3 with h3
    injection h2 with h2
    subst h2; subst h3; subst hr'
    obtain ⟨i1, i2⟩ := mapM_at hl
    refine ⟨by simp [i1], fun j u hj => ?_⟩
    rcases Nat.lt_or_ge j l.length with hlt | hge
    · rw [List.getElem?_append_left hlt] at hj; exact i2 j u hj
    · rw [List.getElem?_append_right hge] at hj
      have : j - l.length = 0 := by
        rcases Nat.eq_zero_or_pos (j - l.length) with h0 | h0
        · exact h0
        · rw [List.getElem?_eq_none (by simp only [List.length_cons, List.length_nil]; omega)] at hj; cases hj
      rw [this] at hj
      simp at hj
      subst hj
      rw [show j = n by omega]
      exact hy
section
variable {H : Type} {enc : TypeId × Value → H} {P : Program} {w : World} {base : Nat} {spare : Nat → Bool} {held : Bool}
theorem opensL {m : Nat} (cs : List Value) (ih : ∀ f t s ds x, Sh.fits P f t s = true → DataW.trod enc P w base spare held m t ds = some x → s.Is w ds ∧ ds.length = s.size) :
    ∀ (f : Nat) (l : List Field) (s : Sh) (o : Nat) (ys : List (DataW H × List MemPlace)), Sh.fitsL P f l s o = true → (l.mapM fun fl => DataW.trod enc P w base spare held m fl.type ((cs.drop fl.offset).take (P.cellsOf fl.type))) = some ys → s.Is w ((cs.drop o).take s.size)
  | 0, _, _, _, _, hf, _ => by simp [Sh.fitsL] at hf
  | f + 1, [], s, o, ys, hf, hm => by
    cases s <;> simp [Sh.fitsL] at hf
    simp [Sh.Is, Sh.size]
  | f + 1, x :: xs, s, o, ys, hf, hm => by
    cases s with
    | cons a b =>
      simp only [Sh.fitsL, Bool.and_eq_true, beq_iff_eq] at hf
      obtain ⟨⟨ho, h1⟩, h2⟩ := hf
      simp only [List.mapM_cons, Option.bind_eq_bind, Option.bind_eq_some_iff, Option.pure_def] at hm
      obtain ⟨y, hy, ys', hys, _⟩ := hm
      have hb := opensL cs ih f xs b (o + a.size) ys' h2 hys
      rw [ho] at hy
      obtain ⟨i1, i2⟩ := ih f x.type a _ y h1 hy
      have hsz : P.cellsOf x.type = a.size := by
        cases f with
        | zero => simp [Sh.fits] at h1
        | succ f => simp only [Sh.fits, Bool.and_eq_true, beq_iff_eq] at h1; exact h1.1
      rw [hsz] at i1 i2
      refine ⟨_, _, ?_, i2, i1, hb⟩
      show (cs.drop o).take (a.size + b.size) = _
      rw [List.take_add, List.drop_drop]
    | _ => simp [Sh.fitsL] at hf
theorem trod_int {m : Nat} {t : TypeId} {k : IntKind} {cs : List Value} {x : DataW H × List MemPlace} (hu : P.underlying t = some (.int k)) (h : DataW.trod enc P w base spare held (m + 1) t cs = some x) : ∃ n, cs = [.int k n] ∧ (Lit.int k n).wf = true := by
  unfold DataW.trod at h
  rw [hu] at h
  split at h <;> try (rename_i he; simp at he; done)
  all_goals try (rename_i he _; simp at he; done)
  all_goals try (simp at h; done)
  all_goals try contradiction
  rename_i he
  injection he with he
  injection he with he
  subst he
  split at h
  · rename_i hc
    obtain ⟨rfl, hw⟩ := hc
    exact ⟨_, rfl, hw⟩
  · cases h
theorem trod_bool {m : Nat} {t : TypeId} {cs : List Value} {x : DataW H × List MemPlace} (hu : P.underlying t = some .bool) (h : DataW.trod enc P w base spare held (m + 1) t cs = some x) : ∃ b, cs = [.bool b] := by
  unfold DataW.trod at h
  rw [hu] at h
  split at h <;> try (rename_i he; simp at he; done)
  all_goals try (rename_i he _; simp at he; done)
  all_goals try (simp at h; done)
  all_goals try contradiction
  exact ⟨_, rfl⟩
theorem trod_struct {m : Nat} {t : TypeId} {fs : Array Field} {cs : List Value} {x : DataW H × List MemPlace} (hu : P.underlying t = some (.struct fs)) (h : DataW.trod enc P w base spare held (m + 1) t cs = some x) : cs.length = P.cellsOf t ∧ ∃ ys, (fs.toList.mapM fun fl => DataW.trod enc P w base spare held m fl.type ((cs.drop fl.offset).take (P.cellsOf fl.type))) = some ys := by
  unfold DataW.trod at h
  rw [hu] at h
  split at h <;> try (rename_i he; simp at he; done)
  all_goals try (rename_i he _; simp at he; done)
  all_goals try (simp at h; done)
  all_goals try contradiction
  all_goals try exact (‹∀ fs_1 : Array Field, some (TypeDesc.struct fs) = some (TypeDesc.struct fs_1) → False› fs rfl).elim
  rename_i he
  injection he with he
  injection he with he
  subst he
  split at h
  · rename_i hc
    obtain ⟨ys, hys, _⟩ := Option.map_eq_some_iff.1 h
    exact ⟨hc, ys, hys⟩
  · cases h
theorem trod_slice {m : Nat} {t e : TypeId} {cs : List Value} {x : DataW H × List MemPlace} (hu : P.underlying t = some (.slice e)) (h : DataW.trod enc P w base spare held (m + 1) t cs = some x) : cs = [.slice none 0 0] ∨ ∃ a len cap, cs = [.slice (some a) len cap] ∧ len ≤ cap ∧ cap ≤ maxLen ∧ ∀ i, i < len → ∃ l y, w.cells? base (a.add (i * P.cellsOf e)) (P.cellsOf e) = some l ∧ DataW.trod enc P w base spare held m e l = some y := by
  unfold DataW.trod at h
  rw [hu] at h
  split at h <;> try (rename_i he; simp at he; done)
  all_goals try (rename_i he _; simp at he; done)
  all_goals try (simp at h; done)
  all_goals try contradiction
  · exact .inl rfl
  · rename_i he
    injection he with he
    injection he with he
    subst he
    simp only at h
    split at h
    · rename_i hc
      obtain ⟨elems, hel, _⟩ := Option.bind_eq_some_iff.1 h
      refine .inr ⟨_, _, _, rfl, hc.2.1, hc.2.2, fun i hi => ?_⟩
      obtain ⟨y, hy⟩ := mapM_each hel i (List.mem_range.2 hi)
      obtain ⟨l, hl, hly⟩ := Option.bind_eq_some_iff.1 hy
      exact ⟨l, y, hl, hly⟩
    · cases h
theorem cells_at {a : Addr} {n : Nat} {l : List Value} (h : w.cells? base a n = some l) : l.length = n ∧ ∀ j u, l[j]? = some u → w.cell? (a.add j) = some u := by
  unfold World.cells? at h
  split at h
  · exact mapM_at h
  · cases h
theorem opens : ∀ (m f : Nat) (t : TypeId) (s : Sh) (cs : List Value) (x : DataW H × List MemPlace), Sh.fits P f t s = true → DataW.trod enc P w base spare held m t cs = some x → s.Is w cs ∧ cs.length = s.size
  | 0, _, _, _, _, _, _, h => by simp [DataW.trod] at h
  | m + 1, 0, _, _, _, _, hf, _ => by simp [Sh.fits] at hf
  | m + 1, f + 1, t, s, cs, x, hf, h => by
    simp only [Sh.fits, Bool.and_eq_true, beq_iff_eq] at hf
    obtain ⟨hsz, hf⟩ := hf
    split at hf
    · rename_i k k' hu
      have hk : k = k' := by simpa using hf
      subst hk
      obtain ⟨n, rfl, hw⟩ := trod_int hu h
      exact ⟨⟨n, rfl, hw⟩, rfl⟩
    · rename_i hu
      obtain ⟨b, rfl⟩ := trod_bool hu h
      exact ⟨⟨b, rfl⟩, rfl⟩
    · rename_i u e hu
      have hes : P.cellsOf u = e.size := by
        cases f with
        | zero => simp [Sh.fits] at hf
        | succ f => simp only [Sh.fits, Bool.and_eq_true, beq_iff_eq] at hf; exact hf.1
      rcases trod_slice hu h with rfl | ⟨a, len, cap, rfl, h1, h2, h3⟩
      · exact ⟨.inl rfl, rfl⟩
      · refine ⟨.inr ⟨a, len, cap, rfl, h1, h2, fun i hi => ?_⟩, rfl⟩
        obtain ⟨l, y, hl, hy⟩ := h3 i hi
        rw [hes] at hl
        obtain ⟨c1, c2⟩ := cells_at hl
        exact ⟨l, c2, c1, (opens m f u e l y hf hy).1⟩
    · rename_i fs a b hu
      obtain ⟨hc, ys, hys⟩ := trod_struct hu h
      rw [hsz] at hc
      have := opensL cs (opens m) f fs.toList (.cons a b) 0 ys hf hys
      rw [List.drop_zero, List.take_of_length_le (by omega)] at this
      exact ⟨this, hc⟩
    · cases hf
end
end Go.Proofs.Ytjghghbldifhaaa
set_option linter.unusedVariables false
set_option linter.unusedSimpArgs false
namespace Go.Proofs.Ytjghghbldifhaaa
open Go.RowKit Go.ChangeShapes

theorem choose_list {α : Type} {Q : Nat → α → Prop} : ∀ {n : Nat}, (∀ i, i < n → ∃ v, Q i v) → ∃ xs : List α, xs.length = n ∧ ∀ i v, xs[i]? = some v → Q i v
  | 0, _ => ⟨[], rfl, fun i v h => by simp at h⟩
  | n + 1, h => by
    obtain ⟨xs, h1, h2⟩ := choose_list (n := n) (fun i hi => h i (by omega))
    obtain ⟨v, hv⟩ := h n (by omega)
    refine ⟨xs ++ [v], by simp [h1], fun i u hu => ?_⟩
    rcases Nat.lt_trichotomy i n with hlt | heq | hgt
    · rw [List.getElem?_append_left (by omega)] at hu; exact h2 i u hu
    · subst heq
      rw [List.getElem?_append_right (by omega), h1] at hu
      simp at hu
      subst hu
      exact hv
    · rw [List.getElem?_eq_none (by simp [h1]; omega)] at hu; cases hu
/-- A slice of whole numbers that is handed in. -/
def IntsAt (k : IntKind) (w : World) (A : Option Addr) (n c : Nat) (xs : List Int) : Prop :=
  xs.length = n ∧ n ≤ maxLen ∧ Reads k w A xs ∧ ∀ v ∈ xs, (Lit.int k v).wf = true
theorem ints_at {k : IntKind} {w : World} {v : Value} (h : (Sh.slice (.int k)).Is w [v]) : ∃ A n c xs, v = .slice A n c ∧ IntsAt k w A n c xs := by
  rcases h with h | ⟨a, len, cap, h, h1, h2, h3⟩
  · injection h with h
    exact ⟨none, 0, 0, [], h, rfl, Nat.zero_le _, fun i hi => by simp at hi, fun v hv => by cases hv⟩
  · injection h with h
    have h4 : ∀ i, i < len → ∃ n : Int, w.cell? (a.add i) = some (.int k n) ∧ (Lit.int k n).wf = true := fun i hi => by
      obtain ⟨l, hl, _, n, rfl, hw⟩ := h3 i hi
      have := hl 0 (.int k n) rfl
      rw [show i * (Sh.int k).size = i by simp [Sh.size]] at this
      refine ⟨n, ?_, hw⟩
      rw [show (a.add i).add 0 = a.add i by simp [Addr.add]] at this
      exact this
    obtain ⟨xs, hl, hq⟩ := choose_list h4
    refine ⟨some a, len, cap, xs, h, hl, Nat.le_trans h1 h2, fun i hi => ?_, fun u hu => ?_⟩
    · have h0 : w.cell? a = some (.int k (xs.getD 0 0)) := by
        have := (hq 0 (xs.getD 0 0) (by simp [List.getD_eq_getElem?_getD, List.getElem?_eq_getElem (show 0 < xs.length by omega)])).1
        rwa [show a.add 0 = a by simp [Addr.add]] at this
      have hs : a.spot = none := by
        unfold World.cell? at h0
        split at h0
        · split at h0
          · cases h0
          · rename_i hn; simpa using hn
        · cases h0
      obtain ⟨b, o, s⟩ := a
      dsimp only at hs
      subst hs
      refine ⟨b, o, rfl, ?_⟩
      have := (hq i (xs.getD i 0) (by simp [List.getD_eq_getElem?_getD, List.getElem?_eq_getElem hi])).1
      have e : (⟨b, o, none⟩ : Addr).add i = ⟨b, o + i, none⟩ := by unfold Addr.add; split <;> simp_all
      rwa [e] at this
    · obtain ⟨i, hi, rfl⟩ := List.getElem_of_mem hu
      exact (hq i _ (List.getElem?_eq_getElem hi)).2
theorem IntsAt.u32 {w : World} {A : Option Addr} {n c : Nat} {xs : List Int} (h : IntsAt .u32 w A n c xs) : ∀ v ∈ xs, 0 ≤ v ∧ v ≤ 4294967295 := fun v hv => by
  have := h.2.2.2 v hv
  simp only [Lit.wf, Bool.and_eq_true, decide_eq_true_eq, show IntKind.u32.min = 0 from rfl, show IntKind.u32.max = 4294967295 from rfl] at this
  exact this
def shImage : Sh := .cons (.int .i64) (.cons (.int .i64) (.cons (.slice (.int .u32)) .nil))
def shRect : Sh := .cons (.int .i64) (.cons (.int .i64) (.cons (.int .i64) (.cons (.int .i64) .nil)))
theorem is_int {k : IntKind} {b : Sh} {w : World} {cs : List Value} (h : (Sh.cons (.int k) b).Is w cs) : ∃ n r, cs = .int k n :: r ∧ (Lit.int k n).wf = true ∧ b.Is w r := by
  obtain ⟨l, r, rfl, _, ⟨n, rfl, hw⟩, hb⟩ := h
  exact ⟨n, r, rfl, hw, hb⟩
theorem is_slice {e b : Sh} {w : World} {cs : List Value} (h : (Sh.cons (.slice e) b).Is w cs) : ∃ v r, cs = v :: r ∧ (Sh.slice e).Is w [v] ∧ b.Is w r := by
  obtain ⟨l, r, rfl, hl, hs, hb⟩ := h
  obtain ⟨v, rfl⟩ : ∃ v, l = [v] := List.length_eq_one_iff.1 hl
  exact ⟨v, r, rfl, hs, hb⟩
theorem agg_of {v : Value} {l : List Value} (h : v.cells.toList = l) (hl : l.length ≠ 1) : v = .agg l.toArray := by
  cases v <;> first | (simp [Value.cells] at h; subst h; simp at hl; done) | (simp [Value.cells] at h; rw [← h])
theorem image_of {w : World} {v : Value} (h : shImage.Is w v.cells.toList) : ∃ W H A n c xs, v = .agg #[.int .i64 W, .int .i64 H, .slice A n c] ∧ IntsAt .u32 w A n c xs := by
  obtain ⟨W, r, e1, _, h⟩ := is_int h
  obtain ⟨H, r, rfl, _, h⟩ := is_int h
  obtain ⟨s, r, rfl, hs, h⟩ := is_slice h
  obtain rfl : r = [] := h
  obtain ⟨A, n, c, xs, rfl, hi⟩ := ints_at hs
  exact ⟨W, H, A, n, c, xs, agg_of e1 (by simp), hi⟩
theorem rect_of {w : World} {v : Value} (h : shRect.Is w v.cells.toList) : ∃ x y a b, v = .agg #[.int .i64 x, .int .i64 y, .int .i64 a, .int .i64 b] := by
  obtain ⟨x, r, e1, _, h⟩ := is_int h
  obtain ⟨y, r, rfl, _, h⟩ := is_int h
  obtain ⟨a, r, rfl, _, h⟩ := is_int h
  obtain ⟨b, r, rfl, _, h⟩ := is_int h
  obtain rfl : r = [] := h
  exact ⟨x, y, a, b, agg_of e1 (by simp)⟩
end Go.Proofs.Ytjghghbldifhaaa
