/- The walks of package pixbuf, the seventh part: Blit. -/
/- The walks of package pixbuf, the eighth part: Blit. -/
/- The walks of package pixbuf, the ninth part: Copy. -/
/- The walks of package pixbuf, the tenth part: Copy, where it copies. -/
/- The reference's Same of two pictures. -/
/- What the laws of layer 3 call: great, wakes. -/
import Derived.Test.YtjghghbldifhaaaPixF
import Derived.Laws.IdiomCopy
set_option linter.unusedVariables false
set_option linter.unusedSimpArgs false
namespace Go.Proofs.Ytjghghbldifhaaa
open Go.RowKit Go.Shelf
attribute [local go_sem] Oper.semAt_some

/-- Values put in place from f on. -/
def putL : Nat → List Int → List Int → List Int
  | _, [], px => px
  | f, v :: r, px => putL (f + 1) r (px.set f v)
theorem putL_length : ∀ (r : List Int) (f : Nat) (px : List Int), (putL f r px).length = px.length
  | [], _, _ => rfl
  | v :: r, f, px => by rw [putL, putL_length r, List.length_set]
theorem putL_get : ∀ (r : List Int) (f : Nat) (px : List Int) (k : Nat), f + r.length ≤ px.length → (putL f r px).getD k 0 = if f ≤ k ∧ k < f + r.length then r.getD (k - f) 0 else px.getD k 0
  | [], f, px, k, h => by rw [putL, if_neg (by simp)]
  | v :: r, f, px, k, h => by
    simp only [List.length_cons] at h ⊢
    rw [putL, putL_get r (f + 1) _ k (by rw [List.length_set]; omega)]
    by_cases h1 : f + 1 ≤ k ∧ k < f + 1 + r.length
    · rw [if_pos h1, if_pos (by omega), show k - f = (k - (f + 1)) + 1 by omega, List.getD_cons_succ]
    · rw [if_neg h1]
      by_cases h2 : k = f
      · subst h2
        rw [if_pos (by omega)]
        simp [List.getD_eq_getElem?_getD, List.getElem?_set, show k < px.length by omega]
      · rw [if_neg (by omega)]
        simp [List.getD_eq_getElem?_getD, List.getElem?_set, Ne.symm h2]
theorem BufAt.stores {T e : TypeId} {base bb bp cap : Nat} {W H : Int} : ∀ (vs : List Int) (f : Nat) {w : World} {px : List Int}, BufAt T e w base bb bp cap W H px → f + vs.length ≤ px.length → (∀ v ∈ vs, 0 ≤ v ∧ v ≤ 16777215) →
    BufAt T e (w.setCells bp f (nums .u32 vs)) base bb bp cap W H (putL f vs px) ∧ w.grownBy (w.setCells bp f (nums .u32 vs)) (some bp)
  | [], f, w, px, h, _, _ => ⟨h, World.grownBy.refl _ _⟩
  | v :: r, f, w, px, h, hl, hv => by
    simp only [List.length_cons] at hl
    have h1 := BufAt.store h (i := f) (by omega) (hv v (by simp))
    have h2 := BufAt.stores r (f + 1) h1.1 (by rw [List.length_set]; omega) (fun u hu => hv u (by simp [hu]))
    exact ⟨h2.1, h1.2.trans h2.2⟩
theorem wpList_copy {P : Program} {ops : Array Oper} {rest : List Oper} {o : Oper} {a : Act} {Q : Exit → Act → World → Prop} {w : World} (hgd : o.guard = none) (d s : Operand) (t e : TypeId)
    (ho : o.op = .call { callee := .builtin .copy, args := #[d, s], argTypes := #[t, t] }) (ht : P.underlying t = some (.slice e)) (hs : (P.info? e).map (·.size) = some 1)
    (b oo dl dc : Nat) (A : Addr) (sl sc : Nat) (cs : List Value) (hd : a.eval d = .slice (some ⟨b, oo, none⟩) dl dc) (hx : a.eval s = .slice (some A) sl sc) (hn : cs.length = Nat.min sl dl)
    (hsrc : ∀ j v, cs[j]? = some v → w.cell? (A.add j) = some v) (hc : ∀ j, j < cs.length → (w.cell? ⟨b, oo + j, none⟩).isSome = true) (hf : ∀ j, j < cs.length → w.frozen? ⟨b, oo + j, none⟩ = false) (h1 : ∀ v ∈ cs, v.oneCell' = true)
    (h : wpList P ops Q rest (a.put o.dst (goInt cs.length)) (w.setCells b oo cs)) : wpList P ops Q (o :: rest) a w := by
  have hr := run_copy_cells (P := P) w t t o.type e b oo dl dc A sl sc cs ht hs hn hsrc hc hf h1
  refine wpList_plain hgd fun K hK => ?_
  unfold Oper.wp
  simp only [execOp, ho, resolve, invoke, builtin, Sem.run_bind, Sem.run_pure, Result.andThen_ok, List.map_toArray, List.map_cons, List.map_nil, hd, hx, hr]
  exact hK _ _ h

/-- Where a picture that is laid over another one changes it. -/
def blitAt (W H p q x y : Int) (clip : Rect) : Rect := Rect.and clip (Rect.and ⟨0, 0, W, H⟩ (Rect.shift ⟨0, 0, p, q⟩ x y))
theorem blitAt_in {W H p q x y : Int} {clip R : Rect} (hR : blitAt W H p q x y clip = R) (h1 : 1 ≤ W) (h2 : W ≤ 256) (h3 : 1 ≤ H) (h4 : H ≤ 256) (g1 : 1 ≤ p) (g2 : p ≤ 256) (g3 : 1 ≤ q) (g4 : q ≤ 256) :
    (R = Rect.zero ∨ 0 ≤ R.x ∧ 1 ≤ R.w ∧ R.x + R.w ≤ W ∧ 0 ≤ R.y ∧ 1 ≤ R.h ∧ R.y + R.h ≤ H ∧ x ≤ R.x ∧ R.x + R.w ≤ x + p ∧ y ≤ R.y ∧ R.y + R.h ≤ y + q) ∧ Rect.and R ⟨0, 0, W, H⟩ = R := by
  have hz : Rect.and Rect.zero ⟨0, 0, W, H⟩ = Rect.zero := Rect.and_empty_l (by decide)
  unfold blitAt at hR
  cases e1 : clip.empty with
  | true => rw [Rect.and_empty_l e1] at hR; subst hR; exact ⟨.inl rfl, hz⟩
  | false =>
    obtain ⟨S, hS⟩ : ∃ S, Rect.shift ⟨0, 0, p, q⟩ x y = S := ⟨_, rfl⟩
    rw [hS] at hR
    cases e2 : S.empty with
    | true => rw [Rect.and_empty_r (a := ⟨0, 0, W, H⟩) e2, Rect.and_empty_r (by decide)] at hR; subst hR; exact ⟨.inl rfl, hz⟩
    | false =>
      have hS2 : S = ⟨x, y, p, q⟩ := by
        unfold Rect.shift at hS
        split at hS
        · rw [← hS]; simp [Rect.move]
        · subst hS; simp [Rect.zero, Rect.empty, Rect.area] at e2
      subst hS2
      have g := Rect.empty_iff.1 e2
      have gc := Rect.empty_iff.1 e1
      dsimp only at g
      have e3 : Rect.empty ⟨0, 0, W, H⟩ = false := Rect.empty_iff.2 (by dsimp only; omega)
      obtain ⟨M, hM⟩ : ∃ M, Rect.and ⟨0, 0, W, H⟩ ⟨x, y, p, q⟩ = M := ⟨_, rfl⟩
      rw [hM] at hR
      have hMx : M = Rect.zero ∨ M.empty = false ∧ 0 ≤ M.x ∧ 1 ≤ M.w ∧ M.x + M.w ≤ W ∧ 0 ≤ M.y ∧ 1 ≤ M.h ∧ M.y + M.h ≤ H ∧ x ≤ M.x ∧ M.x + M.w ≤ x + p ∧ y ≤ M.y ∧ M.y + M.h ≤ y + q := by
        by_cases f1 : (Rect.meet ⟨0, 0, W, H⟩ ⟨x, y, p, q⟩).w ≤ 0 ∨ (Rect.meet ⟨0, 0, W, H⟩ ⟨x, y, p, q⟩).h ≤ 0
        · rw [Rect.and_flat f1] at hM; exact .inl hM.symm
        · rw [Rect.and_meet e3 e2 (by omega) (by omega)] at hM
          subst hM
          refine .inr ⟨Rect.empty_iff.2 ?_, ?_⟩ <;> (simp only [Rect.meet, mx, mn] at f1 ⊢; (repeat' split at f1) <;> (repeat' split) <;> omega)
      rcases hMx with hMz | ⟨e4, m⟩
      · subst hMz; rw [Rect.and_empty_r (by decide)] at hR; subst hR; exact ⟨.inl rfl, hz⟩
      · by_cases f1 : (Rect.meet clip M).w ≤ 0 ∨ (Rect.meet clip M).h ≤ 0
        · rw [Rect.and_flat f1] at hR; subst hR; exact ⟨.inl rfl, hz⟩
        · rw [Rect.and_meet e1 e4 (by omega) (by omega)] at hR
          have hin : 0 ≤ R.x ∧ 1 ≤ R.w ∧ R.x + R.w ≤ W ∧ 0 ≤ R.y ∧ 1 ≤ R.h ∧ R.y + R.h ≤ H ∧ x ≤ R.x ∧ R.x + R.w ≤ x + p ∧ y ≤ R.y ∧ R.y + R.h ≤ y + q := by
            subst hR
            simp only [Rect.meet, mx, mn] at f1 ⊢
            (repeat' split at f1) <;> (repeat' split) <;> omega
          refine ⟨.inr hin, ?_⟩
          have e5 : R.empty = false := Rect.empty_iff.2 (by omega)
          have hm : Rect.meet R ⟨0, 0, W, H⟩ = R := by
            cases R
            simp only [Rect.meet, mx, mn] at hin ⊢
            simp only [Rect.mk.injEq]
            refine ⟨?_, ?_, ?_, ?_⟩ <;> (repeat' split) <;> omega
          rw [Rect.and_meet e5 e3 (by rw [hm]; omega) (by rw [hm]; omega), hm]
end Go.Proofs.Ytjghghbldifhaaa
set_option linter.unusedVariables false
set_option linter.unusedSimpArgs false
namespace Go.Proofs.Ytjghghbldifhaaa
open Go.RowKit Go.Shelf
attribute [local go_sem] Oper.semAt_some

set_option maxHeartbeats 1000000 in
theorem blit_bad {w : World} {p : Option Addr} (x y W H : Int) (A : Option Addr) (c : Nat) (xs : List Int) (a b d e : Int) (h : isPic W H xs.length = false) :
    Calls Try.prog 74 #[.pointer p, .int .i64 x, .int .i64 y, .agg #[.int .i64 W, .int .i64 H, .slice A xs.length c], .agg #[.int .i64 a, .int .i64 b, .int .i64 d, .int .i64 e]] w fun e w' => e = .returned (.tuple #[]) ∧ Ext w w' := by
  have hE := ((((Ext.refl w).alloc (.cells #[.int .i64 x] 3)).alloc (.cells #[.int .i64 y] 3)).alloc (.cells #[.int .i64 W, .int .i64 H, .slice A xs.length c] 43)).alloc (.cells #[.int .i64 a, .int .i64 b, .int .i64 d, .int .i64 e] 26)
  go_enter Try.func74, Try.ntmps74
  go_wp2_with fail
  refine (from_bad _ _ _ _ _ _ h).mono ?_
  rintro e w1 ⟨rfl, hb⟩
  have hE1 := hE.trans hb
  go_wp2
  refine bodyPost_ret (results_none rfl _ _ _) rfl ⟨rfl, ?_⟩
  repeat' (first | exact hE1 | refine Ext.alloc ?_ _ | refine Ext.set ?_ ?_ _ | exact hE1.size)
theorem own_base {k : IntKind} {e : TypeId} {W : World} {base g n c : Nat} {xs : List Int} (h : Own k e W base (.slice (some ⟨g, 0, none⟩) n c) xs) : base ≤ g := (own_block_type h (by simp [Value.ownBlock])).1
theorem BufAt.base_le {T e : TypeId} {w : World} {base base' bb bp cap : Nat} {W H : Int} {px : List Int} (h : BufAt T e w base bb bp cap W H px) (hb : base' ≤ base) : BufAt T e w base' bb bp cap W H px :=
  ⟨h.head, World.ownsRow.base_le h.row hb, h.ne, Nat.le_trans hb h.hb, h.w1, h.w2, h.h1, h.h2, h.len, h.pix⟩
/-- Where row i of what is laid over begins in the other picture. -/
def srcAt (p x y : Int) (R : Rect) (i : Nat) : Nat := ((R.y + i - y) * p + R.x - x).toNat
def blitRows (W p x y : Int) (R : Rect) (src : List Int) (l : List Nat) (px : List Int) : List Int := l.foldl (fun P i => putL (rowAt W R i) ((src.drop (srcAt p x y R i)).take R.w.toNat) P) px
theorem blitRows_snoc (W p x y : Int) (R : Rect) (src : List Int) (l : List Nat) (i : Nat) (px : List Int) : blitRows W p x y R src (l ++ [i]) px = putL (rowAt W R i) ((src.drop (srcAt p x y R i)).take R.w.toNat) (blitRows W p x y R src l px) := by
  simp [blitRows, List.foldl_append]
theorem blitRows_length (W p x y : Int) (R : Rect) (src : List Int) (l : List Nat) (px : List Int) : (blitRows W p x y R src l px).length = px.length := by
  induction l generalizing px with
  | nil => rfl
  | cons i l ih => simp only [blitRows, List.foldl_cons] at ih ⊢; rw [ih, putL_length]
theorem and_as (x y a b p q c d : Int) (w : World) {R : Rect} (h : Rect.and ⟨x, y, a, b⟩ ⟨p, q, c, d⟩ = R) :
    Calls Try.prog 95 #[.agg #[.int .i64 x, .int .i64 y, .int .i64 a, .int .i64 b], .agg #[.int .i64 p, .int .i64 q, .int .i64 c, .int .i64 d]] w fun e w' =>
      e = .returned (.agg #[.int .i64 R.x, .int .i64 R.y, .int .i64 R.w, .int .i64 R.h]) ∧ Ext w w' := by
  subst h
  exact and_any _ _ _ _ _ _ _ _ _
set_option maxRecDepth 100000 in
set_option maxHeartbeats 4000000 in
theorem blit_good {w : World} {base bb bp cap : Nat} {W H : Int} {px : List Int} (hB : BufAt 117 58 w base bb bp cap W H px) (x y p q : Int) (A : Option Addr) (c : Nat) (xs : List Int) (a b d e : Int) (h : isPic p q xs.length = true) (hr : Reads .u32 w A xs) (hx : ∀ x ∈ xs, 0 ≤ x ∧ x ≤ 4294967295) :
    Calls Try.prog 74 #[.pointer (some ⟨bb, 0, none⟩), .int .i64 x, .int .i64 y, .agg #[.int .i64 p, .int .i64 q, .slice A xs.length c], .agg #[.int .i64 a, .int .i64 b, .int .i64 d, .int .i64 e]] w fun e' w' => e' = .returned (.tuple #[]) ∧ BufAt 117 58 w' base bb bp cap W H (blitRows W p x y (blitAt W H p q x y ⟨a, b, d, e⟩) (xs.map cut24) (List.range (blitAt W H p q x y ⟨a, b, d, e⟩).h.toNat) px) ∧ w.grownBy w' (some bp) := by
  have hbpl : bp < w.heap.size := (World.ownsRow.lt hB.row bp (by simp [Value.ownBlock])).2
  have hE := ((((Ext.refl w).alloc (.cells #[.int .i64 x] 3)).alloc (.cells #[.int .i64 y] 3)).alloc (.cells #[.int .i64 p, .int .i64 q, .slice A xs.length c] 43)).alloc (.cells #[.int .i64 a, .int .i64 b, .int .i64 d, .int .i64 e] 26)
  refine (callsIn_wide (n := 5)).1 ?_
  refine callsIn_of_wp_marks Try.func74 rfl trivial ?_ rfl
  simp only [Try.ntmps74, List.size_toArray, List.length_cons, List.length_nil, Nat.reduceAdd, Nat.reduceSub, Array.replicate_succ, Array.replicate_zero, List.push_toArray, List.append_toArray, List.nil_append, List.cons_append]
  gi_wp2_with (refine ⟨trivial, ?_⟩; gi_at_call 54; refine (callsIn_wide.2 (from_good _ _ _ _ _ _ h (hr.ext hE) hx)).mono ?_; rintro e' w1 ⟨b2, p2, cap2, rfl, hO, hb⟩; obtain ⟨k0, k1, k2, k3, _⟩ := ext4 hb; have hE1 := hE.trans hb)
  obtain ⟨w2, hw2⟩ : ∃ w2, w1.alloc (.cells #[.pointer (some ⟨b2, 0, none⟩)] 60) = w2 := ⟨_, rfl⟩
  have hE2 : Ext w1 w2 := by rw [← hw2]; exact (Ext.refl _).alloc _
  have k4 : w2.heap[w1.heap.size]? = some (.cells #[.pointer (some ⟨b2, 0, none⟩)] 60 (0, 0)) := by rw [← hw2]; exact blk_new _ _
  have hs1 := hE1.size
  replace hO := hO.base_le (base' := w.heap.size) (by simp only [World.size_alloc]; omega)
  rw [hw2]
  clear hw2 hb hE
  replace k0 := hE2.keep k0
  replace k1 := hE2.keep k1
  replace k2 := hE2.keep k2
  replace k3 := hE2.keep k3
  replace hO := hO.ext hE2
  have hE := hE1.trans hE2
  replace hB := hB.ext hE
  clear hE1 hE2 hr hx
  obtain ⟨S, hS⟩ : ∃ S, Rect.shift ⟨0, 0, p, q⟩ x y = S := ⟨_, rfl⟩
  obtain ⟨M, hM⟩ : ∃ M, Rect.and ⟨0, 0, W, H⟩ S = M := ⟨_, rfl⟩
  obtain ⟨R, hR⟩ : ∃ R, Rect.and ⟨a, b, d, e⟩ M = R := ⟨_, rfl⟩
  have cS := fun w => shift_any 0 0 p q x y w
  simp only [hS] at cS
  refine wpIn_mono (Q := fun e' a' w' => e' = .normal ∧ ∃ B, a' = { tmps := #[.pointer (some ⟨bb, 0, none⟩), .int .i64 x, .int .i64 y, .agg #[.int .i64 p, .int .i64 q, .slice A xs.length c], .agg #[.int .i64 a, .int .i64 b, .int .i64 d, .int .i64 e], undef, .pointer (some ⟨w.heap.size, 0, none⟩), .pointer (some ⟨w.heap.size + 1, 0, none⟩), .pointer (some ⟨w.heap.size + 1 + 1, 0, none⟩), .pointer (some ⟨w.heap.size + 1 + 1 + 1, 0, none⟩), .pointer (some ⟨w1.heap.size, 0, none⟩), .int .i64 0, .pointer (some ⟨B, 0, none⟩), undef, undef, .tuple #[.pointer (some ⟨b2, 0, none⟩), .int .i64 0], .agg #[.int .i64 p, .int .i64 q, .slice A xs.length c], .tuple #[.pointer (some ⟨b2, 0, none⟩), .int .i64 0], .pointer (some ⟨b2, 0, none⟩), .int .i64 0, .int .i64 0, .bool false, .agg #[.int .i64 a, .int .i64 b, .int .i64 d, .int .i64 e], .pointer (some ⟨bb, 0, none⟩), .agg #[.int .i64 0, .int .i64 0, .int .i64 W, .int .i64 H], .pointer (some ⟨b2, 0, none⟩), .agg #[.int .i64 0, .int .i64 0, .int .i64 p, .int .i64 q], .int .i64 x, .int .i64 y, .agg #[.int .i64 S.x, .int .i64 S.y, .int .i64 S.w, .int .i64 S.h], .agg #[.int .i64 M.x, .int .i64 M.y, .int .i64 M.w, .int .i64 M.h], .agg #[.int .i64 R.x, .int .i64 R.y, .int .i64 R.w, .int .i64 R.h], undef, undef, undef, undef, undef, undef, undef, undef, undef, undef, undef, undef, undef, undef, undef, undef, undef, undef, undef, undef, undef, undef, undef, undef, undef], defers := [] } ∧ w'.heap[B]? = some (.cells #[.int .i64 R.x, .int .i64 R.y, .int .i64 R.w, .int .i64 R.h] 26 (0, 0)) ∧ Ext w2 w' ∧ w2.heap.size ≤ B) (wpIn_wide.2 ?_) ?_
  · replace hM : Rect.and ⟨0, 0, W, H⟩ ⟨S.x, S.y, S.w, S.h⟩ = M := hM
    replace hR : Rect.and ⟨a, b, d, e⟩ ⟨M.x, M.y, M.w, M.h⟩ = R := hR
    clear hS
    obtain ⟨c0, f0⟩ := blk_rules k0
    obtain ⟨c1, f1⟩ := blk_rules k1
    obtain ⟨c3, f3⟩ := blk_rules k3
    obtain ⟨c4, f4⟩ := blk_rules k4
    have sx : ∀ w', Ext w2 w' → Ext w2 w' ∧ w'.cell? ⟨w.heap.size, 0, none⟩ = some (.int .i64 x) ∧ w'.cell? ⟨w.heap.size + 1, 0, none⟩ = some (.int .i64 y) ∧ w'.cell? ⟨w.heap.size + 1 + 1 + 1, 0, none⟩ = some (.int .i64 a) ∧ w'.cell? ⟨w.heap.size + 1 + 1 + 1, 1, none⟩ = some (.int .i64 b) ∧ w'.cell? ⟨w.heap.size + 1 + 1 + 1, 2, none⟩ = some (.int .i64 d) ∧ w'.cell? ⟨w.heap.size + 1 + 1 + 1, 3, none⟩ = some (.int .i64 e) ∧ w'.cell? ⟨w1.heap.size, 0, none⟩ = some (.pointer (some ⟨b2, 0, none⟩)) := fun w' h => ⟨h, h.cellOf (c0 0), h.cellOf (c1 0), h.cellOf (c3 0), h.cellOf (c3 1), h.cellOf (c3 2), h.cellOf (c3 3), h.cellOf (c4 0)⟩
    go_region_held3 (fun w' => Ext w2 w' ∧ w'.cell? ⟨w.heap.size, 0, none⟩ = some (.int .i64 x) ∧ w'.cell? ⟨w.heap.size + 1, 0, none⟩ = some (.int .i64 y) ∧ w'.cell? ⟨w.heap.size + 1 + 1 + 1, 0, none⟩ = some (.int .i64 a) ∧ w'.cell? ⟨w.heap.size + 1 + 1 + 1, 1, none⟩ = some (.int .i64 b) ∧ w'.cell? ⟨w.heap.size + 1 + 1 + 1, 2, none⟩ = some (.int .i64 d) ∧ w'.cell? ⟨w.heap.size + 1 + 1 + 1, 3, none⟩ = some (.int .i64 e) ∧ w'.cell? ⟨w1.heap.size, 0, none⟩ = some (.pointer (some ⟨b2, 0, none⟩))) ((refine sx _ ?_; (repeat' (first | exact And.left (by assumption) | assumption | refine Ext.alloc ?_ _ | refine Ext.set ?_ ?_ _ | refine Ext.drew ?_ | exact Ext.refl w2 | exact Nat.le_refl _ | exact Below.size (by assumption) | (simp; done))))) (first | (go_at_call 106; refine (all_any (by first | with_reducible exact hB.ext (And.left (by assumption)) | with_reducible exact hO.ext (And.left (by assumption)))).mono ?_; rintro e w1 ⟨rfl, hb⟩; have hE1 : Ext w2 w1 := Ext.trans (And.left (by assumption)) hb; (first | (have kB := hb.keep kB; obtain ⟨d2, g2⟩ := blk_rules kB) | (have kB := hb.keep (blk_new _ _); obtain ⟨d2, g2⟩ := blk_rules kB) | skip)) | (go_at_call 95; refine (and_as _ _ _ _ _ _ _ _ _ (by first | with_reducible exact hM | with_reducible exact hR)).mono ?_; rintro e w1 ⟨rfl, hb⟩; have hE1 : Ext w2 w1 := Ext.trans (And.left (by assumption)) hb; (first | (have kB := hb.keep kB; obtain ⟨d2, g2⟩ := blk_rules kB) | (have kB := hb.keep (blk_new _ _); obtain ⟨d2, g2⟩ := blk_rules kB) | skip)) | (go_at_call 17; refine (cS _).mono ?_; rintro e w1 ⟨rfl, hb⟩; have hE1 : Ext w2 w1 := Ext.trans (And.left (by assumption)) hb; (first | (have kB := hb.keep kB; obtain ⟨d2, g2⟩ := blk_rules kB) | (have kB := hb.keep (blk_new _ _); obtain ⟨d2, g2⟩ := blk_rules kB) | skip)))
    all_goals
      refine ⟨rfl, _, rfl, ?_, ?_, ?_⟩
      · first
          | simpa using blk_set (blk_set (blk_set (blk_set kB 0 (.int .i64 R.x)) 1 (.int .i64 R.y)) 2 (.int .i64 R.w)) 3 (.int .i64 R.h)
          | exact blk_new _ _
      · repeat' (first | assumption | refine Ext.alloc ?_ _ | refine Ext.set ?_ ?_ _ | refine Ext.drew ?_ | exact Nat.le_refl _ | exact Below.size (by assumption))
      · first | exact Nat.le_refl _ | exact Below.size (by assumption)
  · clear cS
    rintro e' a' w3 ⟨rfl, B, rfl, kB, hE3, hBlt⟩
    have hp : 1 ≤ p ∧ p ≤ 256 ∧ 1 ≤ q ∧ q ≤ 256 ∧ (xs.length : Int) = p * q := by simpa [isPic, and_assoc] using h
    obtain ⟨g1, g2, g3, g4, g5⟩ := hp
    have hRb : blitAt W H p q x y ⟨a, b, d, e⟩ = R := by unfold blitAt; rw [hS, hM, hR]
    obtain ⟨hin, hidem⟩ := blitAt_in hRb hB.w1 hB.w2 hB.h1 hB.h2 g1 g2 g3 g4
    replace k0 := hE3.keep k0
    replace k1 := hE3.keep k1
    replace k4 := hE3.keep k4
    replace hB := hB.ext hE3
    replace hO := hO.ext hE3
    obtain ⟨cB, fB⟩ := blk_rules kB
    gi_wp2_with (refine ⟨trivial, ?_⟩; gi_at_call 105; refine (callsIn_wide.2 (rows_any _ _ _ _ _ _)).mono ?_; rintro e' w4 ⟨rfl, rfl⟩)
    have hs2 := hE.size
    have hs3 := hE3.size
    have hOb := own_base hO.row
    have hne2 : p2 ≠ bp := by omega
    have hne3 : b2 ≠ bp := by have := hO.hb; omega
    clear hS hM hR cB fB
    obtain ⟨N, hN⟩ : ∃ N : Nat, (N : Int) = R.h := ⟨R.h.toNat, by rcases hin with hz | hz; (rw [hz]; simp [Rect.zero]); omega⟩
    generalize hw5 : (w3.alloc (.cells #[.pointer (some ⟨bb, 0, none⟩)] 60)).alloc (.cells #[.int .i64 R.x, .int .i64 R.y, .int .i64 R.w, .int .i64 R.h] 26) = w5
    have hE5 : Ext w3 w5 := by rw [← hw5]; exact ((Ext.refl w3).alloc _).alloc _
    have kb : w5.heap[w3.heap.size]? = some (.cells #[.pointer (some ⟨bb, 0, none⟩)] 60 (0, 0)) := by rw [← hw5]; exact blk_old (blk_new _ _) _
    have kr : w5.heap[w3.heap.size + 1]? = some (.cells #[.int .i64 R.x, .int .i64 R.y, .int .i64 R.w, .int .i64 R.h] 26 (0, 0)) := by rw [← hw5]; exact blk_new1 _ _ _
    have hs5 := hE5.size
    have HS := Lib.hid hs5
    clear hw5 hs5
    refine wpIn_rangeFunc_ownF (F := Fence.wide) (n := 5) (α := Fin N) rfl (by decide) (gf := 127) (lb := #[.pointer (some ⟨w3.heap.size + 1, 0, none⟩), .pointer (some ⟨w3.heap.size, 0, none⟩)]) rfl trivial (enters_of Try.func127 (by kernel_rfl) rfl)
      (encs := fun i => rowArgs bp W R i.val) (Kp := KeptT (· ≠ 58)) (S := fun ys => ys.map Fin.val = List.range N) (Sp := fun _ => True) (N := N) (w0 := w5) ?seq KeptT.trans (fun W l o o' _ h ho _ => keptT_b _ W l o o' h ho) (Below.refl _ _) (fun _ => rfl)
      (fun pre W1 => BufAt 117 58 W1 base bb bp cap W H (blitRows W p x y R (xs.map cut24) (pre.map Fin.val) px) ∧ BufAt 117 58 W1 w.heap.size b2 p2 cap2 p q (xs.map cut24) ∧ (W1.heap[w.heap.size]? = some (.cells #[.int .i64 x] 3 (0, 0)) ∧ W1.heap[w.heap.size + 1]? = some (.cells #[.int .i64 y] 3 (0, 0)) ∧ W1.heap[w1.heap.size]? = some (.cells #[.pointer (some ⟨b2, 0, none⟩)] 60 (0, 0)) ∧ W1.heap[B]? = some (.cells #[.int .i64 R.x, .int .i64 R.y, .int .i64 R.w, .int .i64 R.h] 26 (0, 0))) ∧ w.grownBy W1 (some bp))
      (fun _ _ _ => False)
      (fun s A' B' row hs hg hr => ⟨hs.1.turn hg (fun r e => (hr r e).2), hs.2.1.turn hg (fun r e => (hr r e).2), ⟨heap_turn hg (fun r e => (hr r e).2) hs.2.2.1.1, heap_turn hg (fun r e => (hr r e).2) hs.2.2.1.2.1, heap_turn hg (fun r e => (hr r e).2) hs.2.2.1.2.2.1, heap_turn hg (fun r e => (hr r e).2) hs.2.2.1.2.2.2⟩, grown_turn hs.2.2.2 hg (Nat.le_trans hs2 (Nat.le_trans hs3 HS.out)) (fun r e => (hr r e).1)⟩)
      (fun _ _ _ _ _ hs _ _ => hs)
      ⟨by simpa [blitRows] using hB.ext hE5, hO.ext hE5, ⟨hE5.keep k0, hE5.keep k1, hE5.keep k4, hE5.keep kB⟩, Ext.grow ((hE.trans hE3).trans hE5) _⟩
      (fun i => { tmps := #[.pointer (some ⟨bb, 0, none⟩), .int .i64 x, .int .i64 y, .agg #[.int .i64 p, .int .i64 q, .slice A xs.length c], .agg #[.int .i64 a, .int .i64 b, .int .i64 d, .int .i64 e], undef, .pointer (some ⟨w.heap.size, 0, none⟩), .pointer (some ⟨w.heap.size + 1, 0, none⟩), .pointer (some ⟨w.heap.size + 1 + 1, 0, none⟩), .pointer (some ⟨w.heap.size + 1 + 1 + 1, 0, none⟩), .pointer (some ⟨w1.heap.size, 0, none⟩), .int .i64 0, .pointer (some ⟨B, 0, none⟩), .int .i64 (R.y + i.val), .slice (some ⟨bp, rowAt W R i.val, none⟩) R.w.toNat R.w.toNat, .tuple #[.pointer (some ⟨b2, 0, none⟩), .int .i64 0], .agg #[.int .i64 p, .int .i64 q, .slice A xs.length c], .tuple #[.pointer (some ⟨b2, 0, none⟩), .int .i64 0], .pointer (some ⟨b2, 0, none⟩), .int .i64 0, .int .i64 0, .bool false, .agg #[.int .i64 a, .int .i64 b, .int .i64 d, .int .i64 e], .pointer (some ⟨bb, 0, none⟩), .agg #[.int .i64 0, .int .i64 0, .int .i64 W, .int .i64 H], .pointer (some ⟨b2, 0, none⟩), .agg #[.int .i64 0, .int .i64 0, .int .i64 p, .int .i64 q], .int .i64 x, .int .i64 y, .agg #[.int .i64 S.x, .int .i64 S.y, .int .i64 S.w, .int .i64 S.h], .agg #[.int .i64 M.x, .int .i64 M.y, .int .i64 M.w, .int .i64 M.h], .agg #[.int .i64 R.x, .int .i64 R.y, .int .i64 R.w, .int .i64 R.h], .pointer (some ⟨bb, 0, none⟩), .agg #[.int .i64 R.x, .int .i64 R.y, .int .i64 R.w, .int .i64 R.h], .func (.func 127) #[] #[.pointer (some ⟨w3.heap.size + 1, 0, none⟩), .pointer (some ⟨w3.heap.size, 0, none⟩)], .int .i64 (R.y + i.val), .slice (some ⟨bp, rowAt W R i.val, none⟩) R.w.toNat R.w.toNat, undef, undef, undef, undef, undef, undef, undef, undef, undef, undef, undef, undef, undef, undef, undef, undef, undef, undef, undef, undef], defers := [] }) ?assign ?body ?done ?stop
    case seq =>
      intro l J Jx W1 hW hJ _ hY h0
      refine (rows1_in 4 (by decide) l _ _ base bb bp cap W H px R.x R.y R.w R.h N (by rw [show Rect.and ⟨R.x, R.y, R.w, R.h⟩ ⟨0, 0, W, H⟩ = R from hidem]; exact hN) J Jx W1 (· ≠ 58) (by decide) (by decide) (by decide) hJ (by rw [show Rect.and ⟨R.x, R.y, R.w, R.h⟩ ⟨0, 0, W, H⟩ = R from hidem]; exact hY) ((hB.ext hE5).ext hW) (Ext.keep hW kb) (Ext.keep hW kr) h0).mono ?_
      rintro e' W' ⟨he, ⟨ys, h1, h2⟩ | ⟨pre, h2⟩⟩
      · exact ⟨he, .inl ⟨ys, h1, h2⟩⟩
      · exact ⟨he, .inr ⟨pre, trivial, h2⟩⟩
    case assign =>
      intro l i W1 K hK
      dsimp only [rowArgs]
      gi_wp2
      exact hK
    case done =>
      rintro D ys W1 hD hys ⟨h1, h2, h4, h3⟩ hK
      gi_wp2
      refine ⟨by simp, .inl ⟨_, _, rfl, run_takeDeferred hK, ?_⟩⟩
      have hD' := HS.out
      have hNn : R.h.toNat = N := by omega
      rw [hRb, hNn, ← hys]
      have hg := grownBy_putObj' W1 D (.deferred none)
      have hr : ∀ r, some D = some r → ∃ o : Obj, W1.heap[r]? = some o ∧ o.isCells = false := fun r e => by cases e; exact ⟨_, hK, rfl⟩
      refine ⟨_, results_none rfl _ _ _, rfl, h1.turn hg hr, grown_turn h3 hg (Nat.le_refl _) (fun r e => by cases e; omega)⟩
    case stop =>
      rintro D c pre W1 _ _ h _
      exact h.elim
    case body =>
      rintro l pre i W1 ⟨h1, h2, ⟨h3, h4, h5, h6⟩, h7⟩ hpre
      have hi := i.isLt
      rcases hin with hz | hin
      · subst hz; simp [Rect.zero] at hN; omega
      obtain ⟨r1, r2, r3, r4, r5, r6, r7, r8, r9, r10⟩ := hin
      obtain ⟨m1, m2, m3⟩ := place_bd hB.w1 hB.w2 hB.h1 hB.h2 (x := R.x) (y := R.y + i.val) (by omega) (by omega) (by omega) (by omega)
      obtain ⟨m4, m5, m6⟩ := place_bd hB.w1 hB.w2 hB.h1 hB.h2 (x := R.x + R.w - 1) (y := R.y + i.val) (by omega) (by omega) (by omega) (by omega)
      obtain ⟨n1, n2, n3⟩ := place_bd g1 g2 g3 g4 (x := R.x - x) (y := R.y + i.val - y) (by omega) (by omega) (by omega) (by omega)
      obtain ⟨n4, n5, n6⟩ := place_bd g1 g2 g3 g4 (x := R.x + R.w - 1 - x) (y := R.y + i.val - y) (by omega) (by omega) (by omega) (by omega)
      have hlen := hB.len
      have hw256 := hB.w2
      have hh256 := hB.h2
      have hOl : (xs.map cut24).length = xs.length := by simp
      have hcap : (xs.length : Int) ≤ cap2 ∧ cap2 ≤ 9223372036854775807 := by
        obtain ⟨A', c', hv, _, e1, e2⟩ := hO.row.reads
        injection hv with _ _ e3
        subst e3
        simp only [maxLen] at e2
        omega
      obtain ⟨hcap1, hcap2⟩ := hcap
      have q4 : IntKind.i64.wrap ((R.y + (i.val : Int) - y) * p + R.x - x) = (R.y + (i.val : Int) - y) * p + R.x - x := IntWalk.i64_in _ (by omega)
      have q3 : IntKind.i64.wrap ((R.y + (i.val : Int) - y) * p + R.x) = (R.y + (i.val : Int) - y) * p + R.x := IntWalk.i64_in _ (by omega)
      have q2 : IntKind.i64.wrap ((R.y + (i.val : Int) - y) * p) = (R.y + (i.val : Int) - y) * p := IntWalk.i64_in _ (by omega)
      have q1 : IntKind.i64.wrap (R.y + (i.val : Int) - y) = R.y + (i.val : Int) - y := IntWalk.i64_in _ (by omega)
      have q5 : 0 ≤ (R.y + (i.val : Int) - y) * p + R.x - x := by omega
      have q6 : (R.y + (i.val : Int) - y) * p + R.x - x < xs.length := by omega
      have hg : ((R.y + (i.val : Int) - y) * p + R.x - x).toNat + R.w.toNat ≤ xs.length := by omega
      have hf : rowAt W R i.val + R.w.toNat ≤ px.length := by unfold rowAt; omega
      obtain ⟨f, hff⟩ : ∃ f, rowAt W R i.val = f := ⟨_, rfl⟩
      obtain ⟨m, hm⟩ : ∃ m, R.w.toNat = m := ⟨_, rfl⟩
      have hm256 : m ≤ 256 := by omega
      obtain ⟨Q, hQ⟩ : ∃ Q, blitRows W p x y R (xs.map cut24) (pre.map Fin.val) px = Q := ⟨_, rfl⟩
      have hql : Q.length = px.length := by rw [← hQ, blitRows_length]
      have hfin : blitRows W p x y R (xs.map cut24) ((pre ++ [i]).map Fin.val) px = putL f (((xs.map cut24).drop (((R.y + (i.val : Int) - y) * p + R.x - x).toNat)).take m) Q := by
        rw [List.map_append, List.map_cons, List.map_nil, blitRows_snoc, hQ, hff, hm]
        rfl
      simp only [hff, hm, hQ] at h1 hf hg ⊢
      have Hfin := Lib.hid hfin
      obtain ⟨c0, f0⟩ := blk_rules h3
      obtain ⟨c1, f1⟩ := blk_rules h4
      obtain ⟨c4, f4⟩ := blk_rules h5
      obtain ⟨cB, fB⟩ := blk_rules h6
      obtain ⟨cO, fO⟩ := blk_rules h2.head
      rw [hOl] at cO
      clear m1 m2 m3 m4 m5 m6 n1 n2 n3 n4 n5 n6 hlen hff hm hQ hfin hB hO kb kr kB k0 k1 k4 k2 k3 hN r1 r2 r3 r4 r5 r6 r7 r8 r9 r10
      have q9 : x ≤ (R.y + (i.val : Int) - y) * p + R.x := by omega
      have q10 : (R.y + (i.val : Int) - y) * p + R.x - x ≤ xs.length := by omega
      have q8 : ¬ (cap2 = ((R.y + (i.val : Int) - y) * p + R.x - x).toNat) := by omega
      clear g5 q6
      gi_wp2
      refine round_tail 19 (by kernel_rfl) (by kernel_rfl) (by kernel_rfl) ?_
      simp only [List.take_succ_cons, List.take_zero, List.drop_succ_cons, List.drop_zero]
      repeat still_step
      refine wpStill_nil ?_
      clear q1 q2 q3 q4 q8 q9 q10 c0 c1 c4 cB cO f0 f1 f4 fB fO
      obtain ⟨g, hgg⟩ : ∃ g, ((R.y + (i.val : Int) - y) * p + R.x - x).toNat = g := ⟨_, rfl⟩
      rw [hgg] at hg Hfin
      simp only [hgg]
      have h2' := h2.shows (f := g) (m := m) (by rw [hOl]; exact hg)
      have hln : (((xs.map cut24).drop g).take m).length = m := by simp; omega
      refine wpList_copy rfl (.tmp 37) (.tmp 55) 41 58 rfl (by kernel_rfl) (by kernel_rfl) bp f m m ⟨p2, g, none⟩ (xs.length - g) (cap2 - g) (nums .u32 (((xs.map cut24).drop g).take m)) rfl rfl ?_ ?_ ?_ ?_ nums_one ?_
      · rw [nums_length, hln]
        exact (Nat.min_eq_right (by omega)).symm
      · intro j v hv
        obtain ⟨ad, e1, hh⟩ := (h2.drew.shows (f := g) (m := m) (by rw [hOl]; exact hg)) (fun hz => by rw [hz] at hv; simp at hv)
        injection e1 with e1
        subst e1
        exact hh j v hv
      · intro j hj
        rw [nums_length, hln] at hj
        have hrc := h1.drew.row.cellAt (f + j) (by omega)
        rw [nums_get (by omega)] at hrc
        exact (congrArg Option.isSome hrc).trans rfl
      · intro j hj
        exact h1.drew.row.frozenAt (f + j)
      · have hst := BufAt.stores (((xs.map cut24).drop g).take m) f h1.drew (by rw [hln]; omega) (fun v hv => by
          obtain ⟨u, _, rfl⟩ := List.mem_map.1 (List.mem_of_mem_drop (List.mem_of_mem_take hv))
          exact cut24_bd u)
        obtain ⟨s1, s2⟩ := hst
        have s3 : W1.grownBy _ (some bp) := (grown_drew (World.grownBy.refl W1 (some bp))).trans s2
        obtain ⟨cur, hty⟩ := own_type h1.row
        have s4 := KeptT.of_grown (p := (· ≠ 58)) s3 (fun cs t fr hc => by rw [hty] at hc; injection hc with hc; injection hc with _ e2 _; subst e2; simp)
        have s5 : KeepsOthers W1 _ := KeepsOthers.of_grownBy s3 (fun j o hj ho => by cases hj; rw [hty] at ho; injection ho with ho; subst ho; rfl)
        have hne4 : some bp ≠ some b2 := fun e1 => hne3 (by injection e1 with e1; exact e1.symm)
        have hne5 : some bp ≠ some p2 := fun e1 => hne2 (by injection e1 with e1; exact e1.symm)
        refine ⟨s5, s4, ?_, h2.keptT s3 hne4 hne5, ⟨s4 _ _ _ _ (by decide) h3, s4 _ _ _ _ (by decide) h4, s4 _ _ _ _ (by decide) h5, s4 _ _ _ _ (by decide) h6⟩, h7.trans s3⟩
        rw [Hfin.out]
        exact s1
end Go.Proofs.Ytjghghbldifhaaa
set_option linter.unusedVariables false
set_option linter.unusedSimpArgs false
namespace Go.Proofs.Ytjghghbldifhaaa
open Go.RowKit Go.Shelf

/-- Is a step far off? -/
def farB (n : Int) : Bool := decide (n < -4194304) || decide (4194304 < n)
theorem farB_iff {n : Int} : farB n = false ↔ -4194304 ≤ n ∧ n ≤ 4194304 := by simp [farB]
set_option maxHeartbeats 1000000 in
theorem far_any (n : Int) (w : World) : Calls Try.prog 109 #[.int .i64 n] w fun e w' => e = .returned (.bool (farB n)) ∧ w = w' := by
  by_cases h1 : n < -4194304
  · go_enter Try.func109, Try.ntmps109
    go_wp2
    go_ret
    exact ⟨by simp [farB, h1], rfl⟩
  · go_enter Try.func109, Try.ntmps109
    go_wp2
    go_ret
    exact ⟨by have h2 : decide (n < -4194304) = false := by simp; omega
              simp [farB, h2], rfl⟩
set_option maxHeartbeats 1000000 in
theorem copy_empty {w : World} {p : Addr} (x y a b dx dy : Int) (h1 : Rect.empty ⟨x, y, a, b⟩ = true) :
    Calls Try.prog 71 #[.pointer (some p), .agg #[.int .i64 x, .int .i64 y, .int .i64 a, .int .i64 b, .int .i64 dx, .int .i64 dy]] w fun e w' => e = .returned (.int .i64 0) ∧ Ext w w' := by
  have he := fun w => empty_any x y a b w
  simp only [h1] at he
  go_enter Try.func71, Try.ntmps71
  go_wp2_with fail
  refine (he _).mono ?_
  rintro e w1 ⟨rfl, hb⟩
  go_wp2
  go_ret
  exact ⟨rfl, ((Ext.refl _).alloc _).trans hb⟩
set_option maxRecDepth 100000 in
set_option maxHeartbeats 2000000 in
theorem copy_far {w : World} {base bb bp cap : Nat} {W H : Int} {px : List Int} (hB : BufAt 117 58 w base bb bp cap W H px) (x y a b dx dy : Int) (h1 : Rect.empty ⟨x, y, a, b⟩ = false)
    (h2 : farB dx = true ∨ farB dx = false ∧ farB dy = true ∨ farB dx = false ∧ farB dy = false ∧ Rect.within ⟨x, y, a, b⟩ ⟨0, 0, W, H⟩ = false) :
    Calls Try.prog 71 #[.pointer (some ⟨bb, 0, none⟩), .agg #[.int .i64 x, .int .i64 y, .int .i64 a, .int .i64 b, .int .i64 dx, .int .i64 dy]] w fun e w' => e = .returned (.int .i64 5) ∧ Ext w w' := by
  have he := fun w => empty_any x y a b w
  simp only [h1] at he
  have hfx := far_any dx
  have hfy := far_any dy
  have hi := fun w => in_any x y a b 0 0 W H w
  rcases h2 with h2 | ⟨h2, h3⟩ | ⟨h2, h3, h4⟩
  · simp only [h2] at hfx
    go_enter Try.func71, Try.ntmps71
    go_wp2_with fail
    refine (he _).mono ?_
    rintro e w1 ⟨rfl, hb⟩
    obtain ⟨k0, hE⟩ := ext1 hb
    obtain ⟨c0, f0⟩ := blk_rules k0
    have j0 := After.blk k0
    have hB1 := hB.ext hE
    clear hb he
    go_wp2_with fail
    refine wp_region_after (by kernel_rfl) (by kernel_rfl) ?_
    repeat (go_big_quiet_step (first | with_reducible exact Calls.after_same (hfx _) | with_reducible exact Calls.after_same (hfy _) | with_reducible exact Calls.after (hi _) | exact Calls.after (all_any (hB1.ext (After.ext _)))))
    refine wpQuiet_nil ?_
    intro _ hw'
    obtain ⟨q, rfl⟩ := hw'
    have hE2 := Ext.trans hE q.ext
    go_wp2
    go_ret
    exact ⟨rfl, hE2⟩
  · simp only [h2] at hfx
    simp only [h3] at hfy
    go_enter Try.func71, Try.ntmps71
    go_wp2_with fail
    refine (he _).mono ?_
    rintro e w1 ⟨rfl, hb⟩
    obtain ⟨k0, hE⟩ := ext1 hb
    obtain ⟨c0, f0⟩ := blk_rules k0
    have j0 := After.blk k0
    have hB1 := hB.ext hE
    clear hb he
    go_wp2_with fail
    refine wp_region_after (by kernel_rfl) (by kernel_rfl) ?_
    repeat (go_big_quiet_step (first | with_reducible exact Calls.after_same (hfx _) | with_reducible exact Calls.after_same (hfy _) | with_reducible exact Calls.after (hi _) | exact Calls.after (all_any (hB1.ext (After.ext _)))))
    refine wpQuiet_nil ?_
    intro _ hw'
    obtain ⟨q, rfl⟩ := hw'
    have hE2 := Ext.trans hE q.ext
    go_wp2
    go_ret
    exact ⟨rfl, hE2⟩
  · simp only [h2] at hfx
    simp only [h3] at hfy
    simp only [h4] at hi
    go_enter Try.func71, Try.ntmps71
    go_wp2_with fail
    refine (he _).mono ?_
    rintro e w1 ⟨rfl, hb⟩
    obtain ⟨k0, hE⟩ := ext1 hb
    obtain ⟨c0, f0⟩ := blk_rules k0
    have j0 := After.blk k0
    have hB1 := hB.ext hE
    clear hb he
    go_wp2_with fail
    refine wp_region_after (by kernel_rfl) (by kernel_rfl) ?_
    repeat (go_big_quiet_step (first | with_reducible exact Calls.after_same (hfx _) | with_reducible exact Calls.after_same (hfy _) | with_reducible exact Calls.after (hi _) | exact Calls.after (all_any (hB1.ext (After.ext _)))))
    refine wpQuiet_nil ?_
    intro _ hw'
    obtain ⟨q, rfl⟩ := hw'
    have hE2 := Ext.trans hE q.ext
    go_wp2
    go_ret
    exact ⟨rfl, hE2⟩
set_option maxRecDepth 100000 in
set_option maxHeartbeats 2000000 in
theorem copy_bad {w : World} {base bb bp cap : Nat} {W H : Int} {px : List Int} (hB : BufAt 117 58 w base bb bp cap W H px) (x y a b dx dy : Int) (h1 : Rect.empty ⟨x, y, a, b⟩ = false) (h2 : farB dx = false) (h3 : farB dy = false) (h4 : Rect.within ⟨x, y, a, b⟩ ⟨0, 0, W, H⟩ = true) {F : Rect} (hF : Rect.shift ⟨x, y, a, b⟩ (-dx) (-dy) = F) (h5 : Rect.empty F = true ∨ Rect.empty F = false ∧ Rect.within F ⟨0, 0, W, H⟩ = false) :
    Calls Try.prog 71 #[.pointer (some ⟨bb, 0, none⟩), .agg #[.int .i64 x, .int .i64 y, .int .i64 a, .int .i64 b, .int .i64 dx, .int .i64 dy]] w fun e w' => e = .returned (.int .i64 5) ∧ Ext w w' := by
  have he := fun w => empty_any x y a b w
  simp only [h1] at he
  have hfx := far_any dx
  have hfy := far_any dy
  have hi := fun w => in_any x y a b 0 0 W H w
  simp only [h2] at hfx
  simp only [h3] at hfy
  simp only [h4] at hi
  go_enter Try.func71, Try.ntmps71
  go_wp2_with fail
  refine (he _).mono ?_
  rintro e w1 ⟨rfl, hb⟩
  obtain ⟨k0, hE⟩ := ext1 hb
  obtain ⟨c0, f0⟩ := blk_rules k0
  have j0 := After.blk k0
  have hB1 := hB.ext hE
  clear hb he
  go_wp2_with fail
  refine wp_region_after (by kernel_rfl) (by kernel_rfl) ?_
  repeat (go_big_quiet_step (first | with_reducible exact Calls.after_same (hfx _) | with_reducible exact Calls.after_same (hfy _) | with_reducible exact Calls.after (hi _) | exact Calls.after (all_any (hB1.ext (After.ext _)))))
  refine wpQuiet_nil ?_
  intro _ hw'
  obtain ⟨q, rfl⟩ := hw'
  have hE2 := Ext.trans hE q.ext
  clear c0 f0 j0 hfx hfy hi
  replace k0 := q.ext.keep k0
  obtain ⟨c0, f0⟩ := blk_rules k0
  replace hB1 := hB.ext hE2
  obtain ⟨hx1, hx2⟩ := farB_iff.1 h2
  obtain ⟨hy1, hy2⟩ := farB_iff.1 h3
  have nx : IntKind.i64.wrap (-dx) = -dx := IntWalk.i64_in _ (by omega)
  have ny : IntKind.i64.wrap (-dy) = -dy := IntWalk.i64_in _ (by omega)
  have cF := fun w => shift_any x y a b (-dx) (-dy) w
  simp only [hF] at cF
  generalize q.now = w2 at *
  go_wp2_with fail
  refine (cF _).mono ?_
  rintro e w3 ⟨rfl, hb⟩
  clear c0 f0
  have kF := blk_new w3 (.cells #[.int .i64 F.x, .int .i64 F.y, .int .i64 F.w, .int .i64 F.h] 26)
  replace k0 := hb.keep k0
  have k0' := blk_old k0 (.cells #[.int .i64 F.x, .int .i64 F.y, .int .i64 F.w, .int .i64 F.h] 26)
  obtain ⟨c0, f0⟩ := blk_rules k0
  have hE3 := (hE2.trans hb).alloc (.cells #[.int .i64 F.x, .int .i64 F.y, .int .i64 F.w, .int .i64 F.h] 26)
  have hB3 := hB.ext hE3
  clear hb hB1
  go_wp2_with fail
  refine (part_bad hB3 F.x F.y F.w F.h h5).mono ?_
  rintro e w4 ⟨rfl, hb⟩
  have hE4 := hE3.trans hb
  go_wp2
  go_ret
  exact ⟨rfl, by repeat' (first | exact hE4 | refine Ext.alloc ?_ _ | refine Ext.set ?_ ?_ _ | exact hE4.size)⟩
end Go.Proofs.Ytjghghbldifhaaa
set_option linter.unusedVariables false
set_option linter.unusedSimpArgs false
namespace Go.Proofs.Ytjghghbldifhaaa
open Go.RowKit Go.Shelf

theorem Own.readsAt {k : IntKind} {e : TypeId} {w : World} {base g n c : Nat} {xs : List Int} (h : Own k e w base (.slice (some ⟨g, 0, none⟩) n c) xs) : Reads k w (some ⟨g, 0, none⟩) xs := fun i hi => by
  refine ⟨g, 0, rfl, ?_⟩
  obtain ⟨A, c', hv, hr, _⟩ := h.reads
  injection hv with e1 e2 e3
  obtain ⟨b, off, e4, hc⟩ := hr i hi
  rw [← e1] at e4
  injection e4 with e4
  injection e4 with e5 e6
  subst e5; subst e6
  exact hc
theorem Rect.inside {F : Rect} {W H : Int} (h1 : F.empty = false) (h2 : Rect.within F ⟨0, 0, W, H⟩ = true) (w1 : 1 ≤ W) (w2 : W ≤ 256) (w3 : 1 ≤ H) (w4 : H ≤ 256) : 0 ≤ F.x ∧ 1 ≤ F.w ∧ F.x + F.w ≤ W ∧ 0 ≤ F.y ∧ 1 ≤ F.h ∧ F.y + F.h ≤ H := by
  have hand : Rect.and F ⟨0, 0, W, H⟩ = F := Rect.and_whole (x := F.x) (y := F.y) (a := F.w) (b := F.h) h1 h2
  rcases (Rect.and_in w1 w2 w3 w4 hand).1 with hz | hz
  · rw [hz] at h1; simp [Rect.zero, Rect.empty, Rect.area] at h1
  · exact hz
theorem partRows_pic {W H : Int} {F : Rect} {px : List Int} (w1 : 1 ≤ W) (w2 : W ≤ 256) (w3 : 1 ≤ H) (w4 : H ≤ 256) (hl : (px.length : Int) = W * H) (h1 : F.empty = false) (h2 : Rect.within F ⟨0, 0, W, H⟩ = true) : isPic F.w F.h (partRows W F (List.range F.h.toNat) px).length = true := by
  obtain ⟨r1, r2, r3, r4, r5, r6⟩ := Rect.inside h1 h2 w1 w2 w3 w4
  rw [partRows_length (fun j hj => by
    have := List.mem_range.1 hj
    exact rowAt_fits w1 w2 w3 w4 hl r1 r2 r3 r4 r6 (by omega)), List.length_range]
  have e : ((F.h.toNat * F.w.toNat : Nat) : Int) = F.w * F.h := by
    rw [Int.natCast_mul, Int.toNat_of_nonneg (by omega), Int.toNat_of_nonneg (by omega), Int.mul_comm]
  simp only [isPic, e, Bool.and_eq_true, decide_eq_true_eq]
  exact ⟨⟨⟨⟨r2, by omega⟩, r5⟩, by omega⟩, trivial⟩
theorem partRows_mem {W : Int} {F : Rect} {l : List Nat} {px : List Int} {v : Int} (h : v ∈ partRows W F l px) : v ∈ px := by
  unfold partRows at h
  obtain ⟨i, _, hi⟩ := List.mem_flatMap.1 h
  exact List.mem_of_mem_drop (List.mem_of_mem_take hi)
set_option maxRecDepth 100000 in
set_option maxHeartbeats 2000000 in
theorem copy_good {w : World} {base bb bp cap : Nat} {W H : Int} {px : List Int} (hB : BufAt 117 58 w base bb bp cap W H px) (x y a b dx dy : Int) (h1 : Rect.empty ⟨x, y, a, b⟩ = false) (h2 : farB dx = false) (h3 : farB dy = false) (h4 : Rect.within ⟨x, y, a, b⟩ ⟨0, 0, W, H⟩ = true) {F : Rect} (hF : Rect.shift ⟨x, y, a, b⟩ (-dx) (-dy) = F) (h5 : Rect.empty F = false) (h6 : Rect.within F ⟨0, 0, W, H⟩ = true) :
    Calls Try.prog 71 #[.pointer (some ⟨bb, 0, none⟩), .agg #[.int .i64 x, .int .i64 y, .int .i64 a, .int .i64 b, .int .i64 dx, .int .i64 dy]] w fun e w' => e = .returned (.int .i64 0) ∧ BufAt 117 58 w' base bb bp cap W H (blitRows W F.w x y (blitAt W H F.w F.h x y ⟨x, y, a, b⟩) ((partRows W F (List.range F.h.toNat) px).map cut24) (List.range (blitAt W H F.w F.h x y ⟨x, y, a, b⟩).h.toNat) px) ∧ w.grownBy w' (some bp) := by
  have he := fun w => empty_any x y a b w
  simp only [h1] at he
  have hfx := far_any dx
  have hfy := far_any dy
  have hi := fun w => in_any x y a b 0 0 W H w
  simp only [h2] at hfx
  simp only [h3] at hfy
  simp only [h4] at hi
  go_enter Try.func71, Try.ntmps71
  go_wp2_with fail
  refine (he _).mono ?_
  rintro e w1 ⟨rfl, hb⟩
  obtain ⟨k0, hE⟩ := ext1 hb
  obtain ⟨c0, f0⟩ := blk_rules k0
  have j0 := After.blk k0
  have hB1 := hB.ext hE
  clear hb he
  go_wp2_with fail
  refine wp_region_after (by kernel_rfl) (by kernel_rfl) ?_
  repeat (go_big_quiet_step (first | with_reducible exact Calls.after_same (hfx _) | with_reducible exact Calls.after_same (hfy _) | with_reducible exact Calls.after (hi _) | exact Calls.after (all_any (hB1.ext (After.ext _)))))
  refine wpQuiet_nil ?_
  intro _ hw'
  obtain ⟨q, rfl⟩ := hw'
  have hE2 := Ext.trans hE q.ext
  clear c0 f0 j0 hfx hfy hi
  replace k0 := q.ext.keep k0
  obtain ⟨c0, f0⟩ := blk_rules k0
  replace hB1 := hB.ext hE2
  obtain ⟨hx1, hx2⟩ := farB_iff.1 h2
  obtain ⟨hy1, hy2⟩ := farB_iff.1 h3
  have nx : IntKind.i64.wrap (-dx) = -dx := IntWalk.i64_in _ (by omega)
  have ny : IntKind.i64.wrap (-dy) = -dy := IntWalk.i64_in _ (by omega)
  have cF := fun w => shift_any x y a b (-dx) (-dy) w
  simp only [hF] at cF
  generalize q.now = w2 at *
  go_wp2_with fail
  refine (cF _).mono ?_
  rintro e w3 ⟨rfl, hb⟩
  clear c0 f0
  have kF := blk_new w3 (.cells #[.int .i64 F.x, .int .i64 F.y, .int .i64 F.w, .int .i64 F.h] 26)
  replace k0 := hb.keep k0
  have k0' := blk_old k0 (.cells #[.int .i64 F.x, .int .i64 F.y, .int .i64 F.w, .int .i64 F.h] 26)
  obtain ⟨c0, f0⟩ := blk_rules k0
  have hE3 := (hE2.trans hb).alloc (.cells #[.int .i64 F.x, .int .i64 F.y, .int .i64 F.w, .int .i64 F.h] 26)
  have hB3 := hB.ext hE3
  clear hb hB1
  go_wp2_with fail
  refine (part_good hB3 F.x F.y F.w F.h h5 h6).mono ?_
  rintro e w4 ⟨g, c, rfl, ho, hb⟩
  have hE4 := hE3.trans hb
  replace k0 := hb.keep k0'
  have hB4 := hB.ext hE4
  clear c0 f0
  obtain ⟨c0, f0⟩ := blk_rules (blk_old k0 (.cells #[.int .i64 F.w, .int .i64 F.h, .slice (some ⟨g, 0, none⟩) (partRows W F (List.range F.h.toNat) px).length c] 43))
  have hE5 := hE4.alloc (.cells #[.int .i64 F.w, .int .i64 F.h, .slice (some ⟨g, 0, none⟩) (partRows W F (List.range F.h.toNat) px).length c] 43)
  have hB5 := hB.ext hE5
  have ho5 : Own .u32 58 _ _ _ _ := ho.ext ((Ext.refl w4).alloc (.cells #[.int .i64 F.w, .int .i64 F.h, .slice (some ⟨g, 0, none⟩) (partRows W F (List.range F.h.toNat) px).length c] 43))
  clear hb
  go_wp2_with fail
  refine (blit_good hB5 x y F.w F.h _ c (partRows W F (List.range F.h.toNat) px) x y a b (partRows_pic hB.w1 hB.w2 hB.h1 hB.h2 hB.len h5 h6) ho5.readsAt (fun v hv => by have := hB.pix v (partRows_mem hv); omega)).mono ?_
  rintro e w5 ⟨rfl, hB6, hg⟩
  go_wp2
  go_ret
  exact ⟨rfl, hB6, (Ext.grow hE5 _).trans hg⟩
end Go.Proofs.Ytjghghbldifhaaa
set_option linter.unusedVariables false
set_option linter.unusedSimpArgs false
namespace Go.Proofs.Ytjghghbldifhaaa
open Go.RowKit

def picEq (W H : Int) (xs : List Int) (W' H' : Int) (ys : List Int) : Bool := W == W' && (H == H' && eqL xs ys)
set_option maxHeartbeats 2000000 in
theorem rsame_any (W H W' H' : Int) (A B : Option Addr) (c d : Nat) (xs ys : List Int) (w : World) (hx : Reads .u32 w A xs) (hy : Reads .u32 w B ys) (hn : xs.length ≤ 65536) (hm : ys.length ≤ 65536) :
    Calls Try.prog 61 #[.agg #[.int .i64 W, .int .i64 H, .slice A xs.length c], .agg #[.int .i64 W', .int .i64 H', .slice B ys.length d]] w fun e w' => e = .returned (.bool (picEq W H xs W' H' ys)) ∧ Ext w w' := by
  have hE0 := ((Ext.refl w).alloc (.cells #[.int .i64 W, .int .i64 H, .slice A xs.length c] 43)).alloc (.cells #[.int .i64 W', .int .i64 H', .slice B ys.length d] 43)
  have k0 := blk_old (blk_new w (.cells #[.int .i64 W, .int .i64 H, .slice A xs.length c] 43)) (.cells #[.int .i64 W', .int .i64 H', .slice B ys.length d] 43)
  have k1 := blk_new1 w (.cells #[.int .i64 W, .int .i64 H, .slice A xs.length c] 43) (.cells #[.int .i64 W', .int .i64 H', .slice B ys.length d] 43)
  by_cases hW : W = W'
  · by_cases hH : H = H'
    · by_cases hl : xs.length = ys.length
      · have hl1 : ((xs.length : Nat) != ys.length) = false := by simp [hl]
        subst hW; subst hH
        have hpe : picEq W H xs W H ys = eqL xs ys := by simp [picEq]
        rw [hpe]
        go_enter Try.func61, Try.ntmps61
        have Hl := Lib.hid hl
        clear hl
        go_wp2_with fail
        replace hx := hx.ext hE0
        replace hy := hy.ext hE0
        generalize (w.alloc (.cells #[.int .i64 W, .int .i64 H, .slice A xs.length c] 43)).alloc (.cells #[.int .i64 W, .int .i64 H, .slice B ys.length d] 43) = w2 at *
        go_loopw [5] (fun i wr => ∃ k : Nat, k ≤ xs.length ∧ i = .int .i64 k ∧ xs.take k = ys.take k ∧ Ext w2 wr) (fun i _ => xs.length - (intOf i).toNat)
        case atStart => exact ⟨0, Nat.zero_le _, rfl, by simp, Ext.refl _⟩
        case round =>
          obtain ⟨k, hk, rfl, ht, hE⟩ := hrel
          have Ht := Lib.hid ht
          clear ht
          obtain ⟨c0, f0⟩ := blk_rules (hE.keep k0)
          obtain ⟨c1, f1⟩ := blk_rules (hE.keep k1)
          by_cases hlt : k < xs.length
          · have hlt2 : k < ys.length := by have := Hl.out; omega
            obtain ⟨b1, o1, rfl, h1⟩ := (hx.ext hE).form (by omega)
            obtain ⟨b2, o2, rfl, h2⟩ := (hy.ext hE).form (by omega)
            have h1 := h1 k hlt
            have h2 := h2 k hlt2
            have t1 := List.take_succ_eq_append_getElem hlt
            have t2 := List.take_succ_eq_append_getElem hlt2
            have Ht2 : Hid (xs[k] = ys[k] → xs.take (k + 1) = ys.take (k + 1)) := fun e => by rw [t1, t2, Ht.out, e]
            have Ht3 : Hid (xs[k] ≠ ys[k] → eqL xs ys = false) := fun e => by
              simp only [eqL, decide_eq_false_iff_not]
              intro e2
              subst e2
              exact e rfl
            simp only [List.getD_eq_getElem?_getD, List.getElem?_eq_getElem hlt, List.getElem?_eq_getElem hlt2, Option.getD_some] at h1 h2
            clear t1 t2
            generalize xs[k] = p at *
            generalize ys[k] = q at *
            go_wp2_with fail
            go_quiet (fail)
            go_wp2_with fail
            · go_ret
              have hne : p ≠ q := by first | assumption | (intro e; simp_all)
              exact ⟨by rw [Ht3.out hne]; rfl, hE0.trans (hE.drewN _)⟩
            · have he : p = q := by first | assumption | (simp_all; done)
              exact ⟨⟨k + 1, by omega, by go_num, Ht2.out he, hE.drewN _⟩, by simp [intOf]; omega⟩
          · have he : eqL xs ys = true := by
              have := Ht.out
              have h2 := Hl.out
              rw [List.take_of_length_le (by omega), List.take_of_length_le (by omega)] at this
              simpa [eqL] using this
            have He := Lib.hid he
            clear he
            go_wp2_with fail
            go_ret
            exact ⟨by rw [He.out]; rfl, hE0.trans hE⟩
      · subst hW; subst hH
        have hl1 : ((xs.length : Nat) != ys.length) = true := by simpa using hl
        have hpe : picEq W H xs W H ys = false := by
          have : eqL xs ys = false := by simp only [eqL, decide_eq_false_iff_not]; intro e; exact hl (by rw [e])
          simp [picEq, this]
        rw [hpe]
        clear hpe
        go_enter Try.func61, Try.ntmps61
        go_wp2_with fail
        go_ret
        exact ⟨rfl, hE0⟩
    · subst hW
      have hH1 : (H != H') = true := by simpa using hH
      have hpe : picEq W H xs W H' ys = false := by simp [picEq, hH]
      rw [hpe]
      clear hpe
      go_enter Try.func61, Try.ntmps61
      go_wp2_with fail
      go_ret
      exact ⟨rfl, hE0⟩
  · have hW1 : (W != W') = true := by simpa using hW
    have hpe : picEq W H xs W' H' ys = false := by simp [picEq, hW]
    rw [hpe]
    clear hpe
    go_enter Try.func61, Try.ntmps61
    go_wp2_with fail
    go_ret
    exact ⟨rfl, hE0⟩
end Go.Proofs.Ytjghghbldifhaaa
set_option linter.unusedVariables false
set_option linter.unusedSimpArgs false
namespace Go.Proofs.Ytjghghbldifhaaa
open Go.RowKit

set_option maxHeartbeats 1000000 in
theorem great_nil (W H : Int) (A : Option Addr) (c n : Nat) (w : World) (hn : n ≤ 9223372036854775807) :
    Calls Try.prog 57 #[.agg #[.int .i64 W, .int .i64 H, .slice A n c], .slice none 0 0] w fun e w' => e = .returned (.bool (decide (1000 < n))) ∧ Ext w w' := by
  by_cases h : 1000 < n
  · go_enter Try.func57, Try.ntmps57
    go_wp2_with fail
    go_ret
    exact ⟨by simp [h], (Ext.refl _).alloc _⟩
  · go_enter Try.func57, Try.ntmps57
    go_wp2_with fail
    go_loopw [5] (fun i wr => i = .int .i64 0 ∧ Ext w wr) (fun i _ => 0)
    case atStart => exact ⟨rfl, (Ext.refl _).alloc _⟩
    case round =>
      obtain ⟨rfl, hE⟩ := hrel
      go_wp2_with fail
      go_ret
      exact ⟨by simp [h], hE⟩

theorem Ext.grownRow {w a b : World} {g : Nat} (h : Ext w a) (hg : a.grownBy b (some g)) (hl : w.heap.size ≤ g) : Ext w b := Below.grown h hg h.size (fun r e => by cases e; exact hl)
theorem reads_blk {k : IntKind} {w : World} {g : Nat} {xs : List Int} {t : TypeId} {fr : Nat × Nat} (h : w.heap[g]? = some (.cells (nums k xs).toArray t fr)) : Reads k w (some ⟨g, 0, none⟩) xs := fun i hi => by
  refine ⟨g, 0, rfl, ?_⟩
  rw [Nat.zero_add, blk_cell h i]
  simp only [List.getElem?_toArray]
  exact nums_get hi
set_option maxRecDepth 100000 in
set_option maxHeartbeats 2000000 in
theorem wakes3_any (w : World) : Calls Try.prog 58 #[] w fun e w' => e = .returned (.bool true) ∧ Ext w w' := by
  go_enter Try.func58, Try.ntmps58
  go_wp2_with fail
  have r0 : Reads .u32 (w.alloc (.cells #[.int .u32 1, .int .u32 2, .int .u32 3, .int .u32 4, .int .u32 5, .int .u32 6] 58)) (some ⟨w.heap.size, 0, none⟩) [1, 2, 3, 4, 5, 6] := reads_blk (blk_new w _)
  refine (from_good 3 2 _ 6 [1, 2, 3, 4, 5, 6] _ (by decide) r0 (by decide)).mono ?_
  rintro e w1 ⟨bb, bp, cap, rfl, hB, hb⟩
  have hE := ((Ext.refl w).alloc _).trans hb
  clear r0
  rw [show [1, 2, 3, 4, 5, 6].map cut24 = [1, 2, 3, 4, 5, 6] by decide] at hB
  have hB0 := hB.base_le (base' := w.heap.size) (by simp)
  clear hB hb
  go_wp2_with fail
  refine (copy_good hB0 1 0 2 2 1 0 (by decide) (by decide) (by decide) (by decide) (F := ⟨0, 0, 2, 2⟩) (by decide) (by decide) (by decide)).mono ?_
  rintro e w2 ⟨rfl, hB, hg⟩
  have hpx : (blitRows 3 (Rect.w ⟨0, 0, 2, 2⟩) 1 0 (blitAt 3 2 (Rect.w ⟨0, 0, 2, 2⟩) (Rect.h ⟨0, 0, 2, 2⟩) 1 0 ⟨1, 0, 2, 2⟩) ((partRows 3 ⟨0, 0, 2, 2⟩ (List.range (Rect.h ⟨0, 0, 2, 2⟩).toNat) [1, 2, 3, 4, 5, 6]).map cut24) (List.range (blitAt 3 2 (Rect.w ⟨0, 0, 2, 2⟩) (Rect.h ⟨0, 0, 2, 2⟩) 1 0 ⟨1, 0, 2, 2⟩).h.toNat) [1, 2, 3, 4, 5, 6]) = [1, 1, 2, 4, 4, 5] := by decide
  rw [hpx] at hB
  clear hpx
  have ha := at_any hB 2 1
  simp only [show hasPx 3 2 2 1 = true by decide, show pxAt 3 [1, 1, 2, 4, 4, 5] 2 1 = 5 by decide, if_true] at ha
  go_wp2_with fail
  refine ha.mono ?_
  rintro e w3 ⟨rfl, hb3⟩
  have hB3 := hB.ext hb3
  clear ha
  go_wp2_with fail
  refine (image_any hB3).mono ?_
  rintro e w4 ⟨g, c, rfl, ho, hgb, hb4⟩
  have hE4 : Ext w w4 := Ext.trans (Ext.trans (Ext.grownRow hE hg (own_base hB0.row)) hb3) hb4
  clear hB0
  go_wp2_with fail
  have r1 : Reads .u32 (w4.alloc (.cells #[.int .u32 1, .int .u32 1, .int .u32 2, .int .u32 4, .int .u32 4, .int .u32 5] 58)) (some ⟨w4.heap.size, 0, none⟩) [1, 1, 2, 4, 4, 5] := reads_blk (blk_new w4 _)
  have ho' := ho.readsAt.ext ((Ext.refl w4).alloc (.cells #[.int .u32 1, .int .u32 1, .int .u32 2, .int .u32 4, .int .u32 4, .int .u32 5] 58))
  have hs := rsame_any 3 2 3 2 _ _ c 6 [1, 1, 2, 4, 4, 5] [1, 1, 2, 4, 4, 5] _ ho' r1 (by decide) (by decide)
  rw [show picEq 3 2 [1, 1, 2, 4, 4, 5] 3 2 [1, 1, 2, 4, 4, 5] = true by decide] at hs
  refine hs.mono ?_
  rintro e w5 ⟨rfl, hb5⟩
  go_wp2
  go_ret
  exact ⟨rfl, (hE4.alloc _).trans hb5⟩
end Go.Proofs.Ytjghghbldifhaaa
