/- The walks of package pixbuf, the seventh part: Blit. -/
import Derived.Test.YtilcggkbancniaaPixF
import Derived.Laws.IdiomCopy
set_option linter.unusedVariables false
set_option linter.unusedSimpArgs false
namespace Go.Proofs.Ytilcggkbancniaa
open Go.RowKit Go.Shelf
attribute [local go_sem] Oper.semAt_some

/-- Values put in place from f on. -/
def putL : Nat → List Int → List Int → List Int
  | _, [], px => px
  | f, v :: r, px => putL (f + 1) r (px.set f v)
theorem putL_length : ∀ (r : List Int) (f : Nat) (px : List Int), (putL f r px).length = px.length
  | [], _, _ => rfl
  | v :: r, f, px => by rw [putL, putL_length r, List.length_set]
theorem putL_get : ∀ (r : List Int) (f : Nat) (px : List Int) (k : Nat), f + r.length ≤ px.length → (putL f r px).getD k 0 = if f ≤ k ∧ k < f + r.length then r.getD (k - f) 0 else px.getD k 0
  | [], f, px, k, h => by rw [putL, if_neg (by simp)]
  | v :: r, f, px, k, h => by
    simp only [List.length_cons] at h ⊢
    rw [putL, putL_get r (f + 1) _ k (by rw [List.length_set]; omega)]
    by_cases h1 : f + 1 ≤ k ∧ k < f + 1 + r.length
    · rw [if_pos h1, if_pos (by omega), show k - f = (k - (f + 1)) + 1 by omega, List.getD_cons_succ]
    · rw [if_neg h1]
      by_cases h2 : k = f
      · subst h2
        rw [if_pos (by omega)]
        simp [List.getD_eq_getElem?_getD, List.getElem?_set, show k < px.length by omega]
      · rw [if_neg (by omega)]
        simp [List.getD_eq_getElem?_getD, List.getElem?_set, Ne.symm h2]
theorem BufAt.stores {T e : TypeId} {base bb bp cap : Nat} {W H : Int} : ∀ (vs : List Int) (f : Nat) {w : World} {px : List Int}, BufAt T e w base bb bp cap W H px → f + vs.length ≤ px.length → (∀ v ∈ vs, 0 ≤ v ∧ v ≤ 16777215) →
    BufAt T e (w.setCells bp f (nums .u32 vs)) base bb bp cap W H (putL f vs px) ∧ w.grownBy (w.setCells bp f (nums .u32 vs)) (some bp)
  | [], f, w, px, h, _, _ => ⟨h, World.grownBy.refl _ _⟩
  | v :: r, f, w, px, h, hl, hv => by
    simp only [List.length_cons] at hl
    have h1 := BufAt.store h (i := f) (by omega) (hv v (by simp))
    have h2 := BufAt.stores r (f + 1) h1.1 (by rw [List.length_set]; omega) (fun u hu => hv u (by simp [hu]))
    exact ⟨h2.1, h1.2.trans h2.2⟩
theorem wpList_copy {P : Program} {ops : Array Oper} {rest : List Oper} {o : Oper} {a : Act} {Q : Exit → Act → World → Prop} {w : World} (hgd : o.guard = none) (d s : Operand) (t e : TypeId)
    (ho : o.op = .call { callee := .builtin .copy, args := #[d, s], argTypes := #[t, t] }) (ht : P.underlying t = some (.slice e)) (hs : (P.info? e).map (·.size) = some 1)
    (b oo dl dc : Nat) (A : Addr) (sl sc : Nat) (cs : List Value) (hd : a.eval d = .slice (some ⟨b, oo, none⟩) dl dc) (hx : a.eval s = .slice (some A) sl sc) (hn : cs.length = Nat.min sl dl)
    (hsrc : ∀ j v, cs[j]? = some v → w.cell? (A.add j) = some v) (hc : ∀ j, j < cs.length → (w.cell? ⟨b, oo + j, none⟩).isSome = true) (hf : ∀ j, j < cs.length → w.frozen? ⟨b, oo + j, none⟩ = false) (h1 : ∀ v ∈ cs, v.oneCell' = true)
    (h : wpList P ops Q rest (a.put o.dst (goInt cs.length)) (w.setCells b oo cs)) : wpList P ops Q (o :: rest) a w := by
  have hr := run_copy_cells (P := P) w t t o.type e b oo dl dc A sl sc cs ht hs hn hsrc hc hf h1
  refine wpList_plain hgd fun K hK => ?_
  unfold Oper.wp
  simp only [execOp, ho, resolve, invoke, builtin, Sem.run_bind, Sem.run_pure, Result.andThen_ok, List.map_toArray, List.map_cons, List.map_nil, hd, hx, hr]
  exact hK _ _ h

/-- Where a picture that is laid over another one changes it. -/
def blitAt (W H p q x y : Int) (clip : Rect) : Rect := Rect.and clip (Rect.and ⟨0, 0, W, H⟩ (Rect.shift ⟨0, 0, p, q⟩ x y))
theorem blitAt_in {W H p q x y : Int} {clip R : Rect} (hR : blitAt W H p q x y clip = R) (h1 : 1 ≤ W) (h2 : W ≤ 256) (h3 : 1 ≤ H) (h4 : H ≤ 256) (g1 : 1 ≤ p) (g2 : p ≤ 256) (g3 : 1 ≤ q) (g4 : q ≤ 256) :
    (R = Rect.zero ∨ 0 ≤ R.x ∧ 1 ≤ R.w ∧ R.x + R.w ≤ W ∧ 0 ≤ R.y ∧ 1 ≤ R.h ∧ R.y + R.h ≤ H ∧ x ≤ R.x ∧ R.x + R.w ≤ x + p ∧ y ≤ R.y ∧ R.y + R.h ≤ y + q) ∧ Rect.and R ⟨0, 0, W, H⟩ = R := by
  have hz : Rect.and Rect.zero ⟨0, 0, W, H⟩ = Rect.zero := Rect.and_empty_l (by decide)
  unfold blitAt at hR
  cases e1 : clip.empty with
  | true => rw [Rect.and_empty_l e1] at hR; subst hR; exact ⟨.inl rfl, hz⟩
  | false =>
    obtain ⟨S, hS⟩ : ∃ S, Rect.shift ⟨0, 0, p, q⟩ x y = S := ⟨_, rfl⟩
    rw [hS] at hR
    cases e2 : S.empty with
    | true => rw [Rect.and_empty_r (a := ⟨0, 0, W, H⟩) e2, Rect.and_empty_r (by decide)] at hR; subst hR; exact ⟨.inl rfl, hz⟩
    | false =>
      have hS2 : S = ⟨x, y, p, q⟩ := by
        unfold Rect.shift at hS
        split at hS
        · rw [← hS]; simp [Rect.move]
        · subst hS; simp [Rect.zero, Rect.empty, Rect.area] at e2
      subst hS2
      have g := Rect.empty_iff.1 e2
      have gc := Rect.empty_iff.1 e1
      dsimp only at g
      have e3 : Rect.empty ⟨0, 0, W, H⟩ = false := Rect.empty_iff.2 (by dsimp only; omega)
      obtain ⟨M, hM⟩ : ∃ M, Rect.and ⟨0, 0, W, H⟩ ⟨x, y, p, q⟩ = M := ⟨_, rfl⟩
      rw [hM] at hR
      have hMx : M = Rect.zero ∨ M.empty = false ∧ 0 ≤ M.x ∧ 1 ≤ M.w ∧ M.x + M.w ≤ W ∧ 0 ≤ M.y ∧ 1 ≤ M.h ∧ M.y + M.h ≤ H ∧ x ≤ M.x ∧ M.x + M.w ≤ x + p ∧ y ≤ M.y ∧ M.y + M.h ≤ y + q := by
        by_cases f1 : (Rect.meet ⟨0, 0, W, H⟩ ⟨x, y, p, q⟩).w ≤ 0 ∨ (Rect.meet ⟨0, 0, W, H⟩ ⟨x, y, p, q⟩).h ≤ 0
        · rw [Rect.and_flat f1] at hM; exact .inl hM.symm
        · rw [Rect.and_meet e3 e2 (by omega) (by omega)] at hM
          subst hM
          refine .inr ⟨Rect.empty_iff.2 ?_, ?_⟩ <;> (simp only [Rect.meet, mx, mn] at f1 ⊢; (repeat' split at f1) <;> (repeat' split) <;> omega)
      rcases hMx with hMz | ⟨e4, m⟩
      · subst hMz; rw [Rect.and_empty_r (by decide)] at hR; subst hR; exact ⟨.inl rfl, hz⟩
      · by_cases f1 : (Rect.meet clip M).w ≤ 0 ∨ (Rect.meet clip M).h ≤ 0
        · rw [Rect.and_flat f1] at hR; subst hR; exact ⟨.inl rfl, hz⟩
        · rw [Rect.and_meet e1 e4 (by omega) (by omega)] at hR
          have hin : 0 ≤ R.x ∧ 1 ≤ R.w ∧ R.x + R.w ≤ W ∧ 0 ≤ R.y ∧ 1 ≤ R.h ∧ R.y + R.h ≤ H ∧ x ≤ R.x ∧ R.x + R.w ≤ x + p ∧ y ≤ R.y ∧ R.y + R.h ≤ y + q := by
            subst hR
            simp only [Rect.meet, mx, mn] at f1 ⊢
            (repeat' split at f1) <;> (repeat' split) <;> omega
          refine ⟨.inr hin, ?_⟩
          have e5 : R.empty = false := Rect.empty_iff.2 (by omega)
          have hm : Rect.meet R ⟨0, 0, W, H⟩ = R := by
            cases R
            simp only [Rect.meet, mx, mn] at hin ⊢
            simp only [Rect.mk.injEq]
            refine ⟨?_, ?_, ?_, ?_⟩ <;> (repeat' split) <;> omega
          rw [Rect.and_meet e5 e3 (by rw [hm]; omega) (by rw [hm]; omega), hm]
end Go.Proofs.Ytilcggkbancniaa
