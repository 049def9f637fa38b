/- The walks of package pixbuf, the sixth part: Part. -/
import Derived.Test.YtilcggkbancniaaPixE
set_option linter.unusedVariables false
set_option linter.unusedSimpArgs false
namespace Go.Proofs.Ytilcggkbancniaa
open Go.RowKit Go.Shelf
attribute [local go_sem] Oper.semAt_some

set_option maxHeartbeats 1000000 in
theorem part_bad {w : World} {base bb bp cap : Nat} {W H : Int} {px : List Int} (hB : BufAt 90 35 w base bb bp cap W H px) (x y a b : Int) (h : Rect.empty ⟨x, y, a, b⟩ = true ∨ Rect.empty ⟨x, y, a, b⟩ = false ∧ Rect.within ⟨x, y, a, b⟩ ⟨0, 0, W, H⟩ = false) :
    Calls Try.prog 31 #[.pointer (some ⟨bb, 0, none⟩), .agg #[.int .i64 x, .int .i64 y, .int .i64 a, .int .i64 b]] w fun e w' => e = .returned (.tuple #[.agg #[.int .i64 0, .int .i64 0, .slice none 0 0], .int .i64 5]) ∧ Ext w w' := by
  have hE := ((Ext.refl w).alloc (.cells #[.int .i64 x, .int .i64 y, .int .i64 a, .int .i64 b] 38)).alloc (.cells #[.int .i64 0, .int .i64 0, .slice none 0 0] 24)
  have kR := blk_new1 w (.cells #[.int .i64 x, .int .i64 y, .int .i64 a, .int .i64 b] 38) (.cells #[.int .i64 0, .int .i64 0, .slice none 0 0] 24)
  have j0 := After.blk (blk_old (blk_new w (.cells #[.int .i64 x, .int .i64 y, .int .i64 a, .int .i64 b] 38)) (.cells #[.int .i64 0, .int .i64 0, .slice none 0 0] 24))
  have hB1 := hB.ext hE
  rcases h with h1 | ⟨h1, h2⟩
  all_goals
    have he := fun w => empty_any x y a b w
    simp only [h1] at he
    have hi : ∀ w, Rect.empty ⟨x, y, a, b⟩ = false → Calls Try.prog 37 #[.agg #[.int .i64 x, .int .i64 y, .int .i64 a, .int .i64 b], .agg #[.int .i64 0, .int .i64 0, .int .i64 W, .int .i64 H]] w fun e w' => e = .returned (.bool false) ∧ Ext w w' := fun w hne => by
      first
        | exact absurd hne (by rw [h1]; decide)
        | (have := in_any x y a b 0 0 W H w; rwa [h2] at this)
    go_enter Try.func31, Try.ntmps31
    go_wp2_with fail
    refine wp_region_after (by kernel_rfl) (by kernel_rfl) ?_
    repeat (go_big_quiet_step (first | exact Calls.after (he _) | exact Calls.after (all_any (hB1.ext (After.ext _))) | exact Calls.after (hi _ h1)))
    refine wpQuiet_nil ?_
    intro _ hw'
    obtain ⟨q, rfl⟩ := hw'
    obtain ⟨d1, g1⟩ := blk_rules (q.ext.keep kR)
    have hE2 := Ext.trans hE q.ext
    go_wp2
    refine bodyPost_ret (v := .tuple #[.agg #[.int .i64 0, .int .i64 0, .slice none 0 0], .int .i64 5]) (by simp only [results, Try.results31]; go_simp; done) rfl ⟨rfl, ?_⟩
    repeat' (first | exact hE2 | refine Ext.set ?_ ?_ _ | exact Nat.le_succ _)

/-- The pixels of rows of a part. -/
def partRows (W : Int) (R : Rect) (l : List Nat) (px : List Int) : List Int := l.flatMap fun i => (px.drop (rowAt W R i)).take R.w.toNat
theorem partRows_snoc (W : Int) (R : Rect) (l : List Nat) (i : Nat) (px : List Int) : partRows W R (l ++ [i]) px = partRows W R l px ++ (px.drop (rowAt W R i)).take R.w.toNat := by
  simp [partRows, List.flatMap_append]

theorem partRows_length {W : Int} {R : Rect} {l : List Nat} {px : List Int} (h : ∀ i ∈ l, rowAt W R i + R.w.toNat ≤ px.length) : (partRows W R l px).length = l.length * R.w.toNat := by
  induction l with
  | nil => simp [partRows]
  | cons i l ih =>
    have h1 := h i (by simp)
    have h2 := ih (fun j hj => h j (by simp [hj]))
    simp only [partRows, List.flatMap_cons, List.length_append, List.length_take, List.length_drop] at h2 ⊢
    rw [h2, List.length_cons, Nat.succ_mul]
    omega
theorem rowAt_fits {W H : Int} {R : Rect} {n : Nat} (h1 : 1 ≤ W) (h2 : W ≤ 256) (h3 : 1 ≤ H) (h4 : H ≤ 256) (hn : (n : Int) = W * H) (r1 : 0 ≤ R.x) (r2 : 1 ≤ R.w) (r3 : R.x + R.w ≤ W) (r4 : 0 ≤ R.y) (r6 : R.y + R.h ≤ H) {i : Nat} (hi : (i : Int) < R.h) : rowAt W R i + R.w.toNat ≤ n := by
  obtain ⟨m1, m2, m3⟩ := place_bd h1 h2 h3 h4 (x := R.x) (y := R.y + i) (by omega) (by omega) (by omega) (by omega)
  obtain ⟨m4, m5, m6⟩ := place_bd h1 h2 h3 h4 (x := R.x + R.w - 1) (y := R.y + i) (by omega) (by omega) (by omega) (by omega)
  unfold rowAt
  omega
theorem BufAt.shows {T e : TypeId} {w : World} {base bb bp cap : Nat} {W H : Int} {px : List Int} (h : BufAt T e w base bb bp cap W H px) {f m : Nat} (hf : f + m ≤ px.length) : Shows w (some ⟨bp, f, none⟩) (nums .u32 ((px.drop f).take m)) := by
  intro _
  refine ⟨_, rfl, fun j u hu => ?_⟩
  have hl : ((px.drop f).take m).length = m := by simp; omega
  have hj : j < m := by
    rcases Nat.lt_or_ge j m with h1 | h1
    · exact h1
    · rw [List.getElem?_eq_none (by rw [nums_length, hl]; exact h1)] at hu; cases hu
  rw [nums_get (by rw [hl]; exact hj)] at hu
  injection hu with hu
  rw [add_plain, World.ownsRow.cellAt h.row (f + j) (by omega), nums_get (by omega), ← hu]
  simp [List.getD_eq_getElem?_getD, List.getElem?_take, hj, List.getElem?_drop]
theorem Rect.and_whole {x y a b W H : Int} (h1 : Rect.empty ⟨x, y, a, b⟩ = false) (h2 : Rect.within ⟨x, y, a, b⟩ ⟨0, 0, W, H⟩ = true) : Rect.and ⟨x, y, a, b⟩ ⟨0, 0, W, H⟩ = ⟨x, y, a, b⟩ := by
  unfold Rect.within at h2
  rw [h1, Bool.false_or] at h2
  exact Rect.eqB_iff.1 h2

theorem own_block_type {k : IntKind} {e : TypeId} {W : World} {base : Nat} {v : Value} {xs : List Int} (h : Own k e W base v xs) {g : Nat} (hg : v.ownBlock = some g) : base ≤ g ∧ ∃ cur, W.heap[g]? = some (.cells cur e (0, 0)) := by
  rcases h.2 with ⟨h1, _⟩ | ⟨g', cap, cur, e1, e2, e3, _⟩
  · rw [h1] at hg; simp [Value.ownBlock] at hg
  · rw [e1] at hg
    have : g' = g := by simpa [Value.ownBlock] using hg
    subst this
    exact ⟨e2, cur, e3⟩
theorem keptT_own {k : IntKind} {e : TypeId} {W W' : World} {base : Nat} {v : Value} {xs : List Int} {p : TypeId → Prop} (h : Own k e W base v xs) (hg : W.grownBy W' v.ownBlock) (hp : ¬ p e) : KeptT p W W' := fun j cs t fr hk hc => by
  refine (hg.block j (Array.getElem?_eq_some_iff.1 hc).1 (fun e1 => ?_)).trans hc
  obtain ⟨_, cur, h2⟩ := own_block_type h e1.symm
  rw [hc] at h2; injection h2 with h2; injection h2 with _ h3 _; subst h3; exact hp hk
theorem keepsOthers_own {k : IntKind} {e : TypeId} {W W' : World} {base : Nat} {v : Value} {xs : List Int} (h : Own k e W base v xs) (hg : W.grownBy W' v.ownBlock) : KeepsOthers W W' :=
  KeepsOthers.of_grownBy hg fun j o hj ho => by
    obtain ⟨_, cur, h2⟩ := own_block_type h hj
    rw [ho] at h2; injection h2 with h2; subst h2; rfl
theorem BufAt.keptT {T e : TypeId} {W W' : World} {base bb bp cap : Nat} {p q : Int} {px : List Int} (h : BufAt T e W base bb bp cap p q px) {row : Option Nat} (hg : W.grownBy W' row) (h1 : row ≠ some bb) (h2 : row ≠ some bp) : BufAt T e W' base bb bp cap p q px :=
  ⟨(hg.block bb (blk_lt h.head) (Ne.symm h1)).trans h.head, World.ownsRow.kept h.row hg (.inr (Ne.symm h2)), h.ne, h.hb, h.w1, h.w2, h.h1, h.h2, h.len, h.pix⟩
theorem Ext.grown_own {k : IntKind} {e : TypeId} {w W W' : World} {v : Value} {xs : List Int} (h : Own k e W w.heap.size v xs) (hE : Ext w W) (hg : W.grownBy W' v.ownBlock) : Ext w W' :=
  Below.grown hE hg hE.size (fun r e1 => (own_block_type h e1).1)

set_option maxHeartbeats 1000000 in
theorem part_good {w : World} {base bb bp cap : Nat} {W H : Int} {px : List Int} (hB : BufAt 90 35 w base bb bp cap W H px) (x y a b : Int) (h1 : Rect.empty ⟨x, y, a, b⟩ = false) (h2 : Rect.within ⟨x, y, a, b⟩ ⟨0, 0, W, H⟩ = true) :
    Calls Try.prog 31 #[.pointer (some ⟨bb, 0, none⟩), .agg #[.int .i64 x, .int .i64 y, .int .i64 a, .int .i64 b]] w fun e w' => ∃ g c, e = .returned (.tuple #[.agg #[.int .i64 a, .int .i64 b, .slice (some ⟨g, 0, none⟩) (partRows W ⟨x, y, a, b⟩ (List.range b.toNat) px).length c], .int .i64 0]) ∧ Own .u32 35 w' w.heap.size (.slice (some ⟨g, 0, none⟩) (partRows W ⟨x, y, a, b⟩ (List.range b.toNat) px).length c) (partRows W ⟨x, y, a, b⟩ (List.range b.toNat) px) ∧ Ext w w' := by
  have hE := ((Ext.refl w).alloc (.cells #[.int .i64 x, .int .i64 y, .int .i64 a, .int .i64 b] 38)).alloc (.cells #[.int .i64 0, .int .i64 0, .slice none 0 0] 24)
  have kR := blk_new1 w (.cells #[.int .i64 x, .int .i64 y, .int .i64 a, .int .i64 b] 38) (.cells #[.int .i64 0, .int .i64 0, .slice none 0 0] 24)
  have k0 := blk_old (blk_new w (.cells #[.int .i64 x, .int .i64 y, .int .i64 a, .int .i64 b] 38)) (.cells #[.int .i64 0, .int .i64 0, .slice none 0 0] 24)
  have j0 := After.blk k0
  have hB1 := hB.ext hE
  have he := fun w => empty_any x y a b w
  simp only [h1] at he
  have hi := fun w => in_any x y a b 0 0 W H w
  simp only [h2] at hi
  refine (callsIn_wide (n := 5)).1 ?_
  refine callsIn_of_wp_marks Try.func31 rfl trivial ?_ rfl
  simp only [Try.ntmps31, List.size_toArray, List.length_cons, List.length_nil, Nat.reduceAdd, Nat.reduceSub, Array.replicate_succ, Array.replicate_zero, List.push_toArray, List.append_toArray, List.nil_append, List.cons_append]
  gi_wp2
  refine wpIn_wide.2 ?_
  refine wp_region_after (by kernel_rfl) (by kernel_rfl) ?_
  repeat (go_big_quiet_step (first | exact Calls.after (he _) | exact Calls.after (all_any (hB1.ext (After.ext _))) | exact Calls.after (hi _)))
  refine wpQuiet_nil ?_
  intro _ hw'
  obtain ⟨q, rfl⟩ := hw'
  clear j0 he hi
  have kR' := q.ext.keep kR
  have k0' := q.ext.keep k0
  have hE2 := Ext.trans hE q.ext
  obtain ⟨c0, f0⟩ := blk_rules k0'
  have z0 := blk_lt k0'
  have z1 := blk_lt kR'
  have hB2 := hB.ext hE2
  clear kR k0 hB1 hE
  generalize q.now = w2 at *
  have hand := Rect.and_whole h1 h2
  gi_wp2_with (refine ⟨trivial, ?_⟩; gi_at_call 74; refine (callsIn_wide.2 (rows_any _ _ _ _ _ _)).mono ?_; rintro e w1 ⟨rfl, rfl⟩)
  obtain ⟨hRx, _⟩ := Rect.and_in hB.w1 hB.w2 hB.h1 hB.h2 hand
  have hne := Rect.empty_iff.1 h1
  dsimp only at hne hRx
  have hb4 : 0 ≤ x ∧ 1 ≤ a ∧ x + a ≤ W ∧ 0 ≤ y ∧ 1 ≤ b ∧ y + b ≤ H := by
    rcases hRx with hz | hz
    · injection hz with _ _ e3 _; omega
    · exact hz
  obtain ⟨r1, r2, r3, r4, r5, r6⟩ := hb4
  obtain ⟨N, hN⟩ : ∃ N : Nat, (N : Int) = b := ⟨b.toNat, by omega⟩
  have hfits : ∀ i, i < N → rowAt W ⟨x, y, a, b⟩ i + a.toNat ≤ px.length := fun i hi => rowAt_fits (R := ⟨x, y, a, b⟩) hB.w1 hB.w2 hB.h1 hB.h2 hB.len r1 r2 r3 r4 r6 (by dsimp only; omega)
  have hw256 := hB.w2
  have hh256 := hB.h2
  generalize hw3 : ((w2.alloc (.cells #[.int .i64 a, .int .i64 b, .slice none 0 0] 24)).alloc (.cells #[.pointer (some ⟨bb, 0, none⟩)] 28)).alloc (.cells #[.int .i64 x, .int .i64 y, .int .i64 a, .int .i64 b] 38) = w3
  have hE3 : Ext w2 w3 := by rw [← hw3]; exact (((Ext.refl w2).alloc _).alloc _).alloc _
  have km : w3.heap[w2.heap.size]? = some (.cells #[.int .i64 a, .int .i64 b, .slice none 0 0] 24 (0, 0)) := by rw [← hw3]; exact blk_old (blk_old (blk_new _ _) _) _
  have kb : w3.heap[w2.heap.size + 1]? = some (.cells #[.pointer (some ⟨bb, 0, none⟩)] 28 (0, 0)) := by rw [← hw3]; exact blk_old (blk_new1 _ _ _) _
  have kr : w3.heap[w2.heap.size + 1 + 1]? = some (.cells #[.int .i64 x, .int .i64 y, .int .i64 a, .int .i64 b] 38 (0, 0)) := by rw [← hw3]; exact blk_new2 _ _ _ _
  have hE4 := Ext.trans hE2 hE3
  clear hw3
  refine wpIn_rangeFunc_ownF (F := Fence.wide) (n := 5) (α := Fin N) rfl (by decide) (gf := 104) (lb := #[.pointer (some ⟨w2.heap.size + 1 + 1, 0, none⟩), .pointer (some ⟨w2.heap.size + 1, 0, none⟩)]) rfl trivial (enters_of Try.func104 (by kernel_rfl) rfl)
    (encs := fun i => rowArgs bp W ⟨x, y, a, b⟩ i.val) (Kp := KeptT (fun t => t ≠ 35 ∧ t ≠ 24)) (S := fun ys => ys.map Fin.val = List.range N) (Sp := fun _ => True) (N := N) (w0 := w3) ?seq KeptT.trans (fun W l o o' _ h ho _ => keptT_b _ W l o o' h ho) (Below.refl _ _) (fun _ => rfl)
    (fun pre W1 => (∃ v, W1.heap[w2.heap.size]? = some (.cells #[.int .i64 a, .int .i64 b, v] 24 (0, 0)) ∧ Own .u32 35 W1 w.heap.size v (partRows W ⟨x, y, a, b⟩ (pre.map Fin.val) px)) ∧ BufAt 90 35 W1 base bb bp cap W H px ∧ W1.heap[w.heap.size + 1]? = some (.cells #[.int .i64 0, .int .i64 0, .slice none 0 0] 24 (0, 0)) ∧ Ext w W1)
    (fun _ _ _ => False)
    (fun s A B row hs hg hr => ⟨(by obtain ⟨v, h1, h2⟩ := hs.1; exact ⟨v, heap_turn hg (fun r e => (hr r e).2) h1, own_turn hg (fun r e => (hr r e).2) h2⟩), hs.2.1.turn hg (fun r e => (hr r e).2), heap_turn hg (fun r e => (hr r e).2) hs.2.2.1, Below.grown hs.2.2.2 hg hs.2.2.2.size (fun r e => Nat.le_trans hE4.size (hr r e).1)⟩)
    (fun _ _ _ _ _ hs _ _ => hs)
    ⟨⟨_, km, World.ownsRow_nil _ _ _ _⟩, hB2.ext hE3, hE3.keep kR', hE4⟩
    (fun i => { tmps := #[.pointer (some ⟨bb, 0, none⟩), .agg #[.int .i64 x, .int .i64 y, .int .i64 a, .int .i64 b], undef, .pointer (some ⟨w.heap.size, 0, none⟩), .pointer (some ⟨w.heap.size + 1, 0, none⟩), .int .i64 0, .pointer (some ⟨w2.heap.size, 0, none⟩), undef, .slice (some ⟨bp, rowAt W ⟨x, y, a, b⟩ i.val, none⟩) a.toNat a.toNat, .bool false, .pointer (some ⟨bb, 0, none⟩), .bool false, undef, .bool false, .agg #[.int .i64 x, .int .i64 y, .int .i64 a, .int .i64 b], .bool false, .bool false, .agg #[.int .i64 x, .int .i64 y, .int .i64 a, .int .i64 b], .pointer (some ⟨bb, 0, none⟩), .agg #[.int .i64 0, .int .i64 0, .int .i64 W, .int .i64 H], .bool true, .bool false, .bool false, undef, .pointer (some ⟨w.heap.size, 2, none⟩), .int .i64 a, .pointer (some ⟨w.heap.size, 3, none⟩), .int .i64 b, .agg #[.int .i64 a, .int .i64 b, .slice none 0 0], .pointer (some ⟨bb, 0, none⟩), .agg #[.int .i64 x, .int .i64 y, .int .i64 a, .int .i64 b], .func (.func 104) #[] #[.pointer (some ⟨w2.heap.size + 1 + 1, 0, none⟩), .pointer (some ⟨w2.heap.size + 1, 0, none⟩)], .int .i64 (y + i.val), .slice (some ⟨bp, rowAt W ⟨x, y, a, b⟩ i.val, none⟩) a.toNat a.toNat, undef, undef, undef, undef, undef, undef], defers := [] }) ?assign ?body ?done ?stop
  case seq =>
    intro l J Jx W1 hW hJ _ hY h0
    refine (rows1_in 4 (by decide) l _ _ base bb bp cap W H px x y a b N (by rw [hand]; exact hN) J Jx W1 (fun t => t ≠ 35 ∧ t ≠ 24) (by decide) (by decide) (by decide) hJ (by rw [hand]; exact hY) ((hB2.ext hE3).ext hW) (Ext.keep hW kb) (Ext.keep hW kr) h0).mono ?_
    rintro e W' ⟨he, ⟨ys, h1, h2⟩ | ⟨pre, h2⟩⟩
    · exact ⟨he, .inl ⟨ys, h1, h2⟩⟩
    · exact ⟨he, .inr ⟨pre, trivial, h2⟩⟩
  case assign =>
    intro l i W1 K hK
    dsimp only [rowArgs]
    gi_wp2
    exact hK
  case done =>
    rintro D ys W1 hD hys ⟨⟨v, h1, h2⟩, h3, h4, h5⟩ hK
    have hNn : b.toNat = N := by omega
    rw [hys] at h2
    obtain ⟨Q, hQ⟩ : ∃ Q, partRows W ⟨x, y, a, b⟩ (List.range N) px = Q := ⟨_, rfl⟩
    rw [hQ] at h2
    have hQ0 : 0 < Q.length := by
      rw [← hQ, partRows_length (fun j hj => hfits j (List.mem_range.1 hj)), List.length_range]
      exact Nat.mul_pos (by omega) (by dsimp only; omega)
    obtain ⟨g', c', rfl, hgb, hgl⟩ := World.ownsRow.form h2 hQ0
    obtain ⟨c1, f1⟩ := blk_rules h1
    obtain ⟨c2, f2⟩ := blk_rules h4
    have hne1 : g' ≠ w.heap.size + 1 := fun e => by
      obtain ⟨cur, hh⟩ := own_type h2
      rw [e, h4] at hh; injection hh with hh; injection hh with _ hh _; exact absurd hh (by decide)
    gi_wp2
    have hDn : D ≠ w.heap.size + 1 := fun e => by
      rw [e, h4] at hK; injection hK with hK; cases hK
    have hK' := blk_set_ne (blk_set_ne (blk_set_ne hK hDn 0 (.int .i64 a)) hDn 1 (.int .i64 b)) hDn 2 (.slice (some ⟨g', 0, none⟩) Q.length c')
    have o1 := own_set_ne (own_set_ne (own_set_ne h2 hne1 0 (.int .i64 a)) hne1 1 (.int .i64 b)) hne1 2 (.slice (some ⟨g', 0, none⟩) Q.length c')
    have o2 := ((h5.set (p := ⟨w.heap.size + 1, 0, none⟩) (Nat.le_succ _) (.int .i64 a)).set (p := ⟨w.heap.size + 1, 1, none⟩) (Nat.le_succ _) (.int .i64 b)).set (p := ⟨w.heap.size + 1, 2, none⟩) (Nat.le_succ _) (.slice (some ⟨g', 0, none⟩) Q.length c')
    have o3 := blk_set (blk_set (blk_set h4 0 (.int .i64 a)) 1 (.int .i64 b)) 2 (.slice (some ⟨g', 0, none⟩) Q.length c')
    refine ⟨by simp, .inl ⟨_, _, rfl, run_takeDeferred hK', ?_⟩⟩
    have hg := grownBy_putObj' (((W1.setCell ⟨w.heap.size + 1, 0, none⟩ (.int .i64 a)).setCell ⟨w.heap.size + 1, 1, none⟩ (.int .i64 b)).setCell ⟨w.heap.size + 1, 2, none⟩ (.slice (some ⟨g', 0, none⟩) Q.length c')) D (.deferred none)
    have hr : ∀ r, some D = some r → ∃ o : Obj, (((W1.setCell ⟨w.heap.size + 1, 0, none⟩ (.int .i64 a)).setCell ⟨w.heap.size + 1, 1, none⟩ (.int .i64 b)).setCell ⟨w.heap.size + 1, 2, none⟩ (.slice (some ⟨g', 0, none⟩) Q.length c')).heap[r]? = some o ∧ o.isCells = false := fun r e => by cases e; exact ⟨_, hK', rfl⟩
    obtain ⟨c3, f3⟩ := blk_rules (heap_turn hg hr o3)
    refine ⟨.tuple #[.agg #[.int .i64 a, .int .i64 b, .slice (some ⟨g', 0, none⟩) Q.length c'], .int .i64 0], by simp only [results, Try.results31]; go_simp; done, ⟨g', c', rfl, own_turn hg hr o1, Below.grown o2 hg o2.size (fun r e => by cases e; exact Nat.le_trans hE4.size hD)⟩⟩
  case stop =>
    rintro D c pre W1 _ _ h _
    exact h.elim
  case body =>
    rintro l pre i W1 ⟨⟨v, h1, h2⟩, h3, h4, h5⟩ hpre
    have hi := i.isLt
    have hrow := hfits i.val hi
    have hpl : pre.length ≤ N := Nat.le_of_lt hpre
    have hrows : (partRows W ⟨x, y, a, b⟩ (pre.map Fin.val) px).length ≤ 65536 := by
      rw [partRows_length (fun j hj => by
        obtain ⟨q, _, rfl⟩ := List.mem_map.1 hj
        exact hfits q.val q.isLt), List.length_map]
      have : pre.length * a.toNat ≤ 256 * 256 := Nat.mul_le_mul (by omega) (by omega)
      exact this
    have hsnoc : partRows W ⟨x, y, a, b⟩ ((pre ++ [i]).map Fin.val) px = partRows W ⟨x, y, a, b⟩ (pre.map Fin.val) px ++ (px.drop (rowAt W ⟨x, y, a, b⟩ i.val)).take a.toNat := by
      rw [List.map_append, List.map_cons, List.map_nil, partRows_snoc]
    have hlt : ((px.drop (rowAt W ⟨x, y, a, b⟩ i.val)).take a.toNat).length = a.toNat := by simp; omega
    have hne4 : v.ownBlock ≠ some w2.heap.size := fun e => by
      obtain ⟨_, cur, hh⟩ := own_block_type h2 e
      rw [h1] at hh; injection hh with hh; injection hh with _ hh _; exact absurd hh (by decide)
    have hne5 : v.ownBlock ≠ some (w.heap.size + 1) := fun e => by
      obtain ⟨_, cur, hh⟩ := own_block_type h2 e
      rw [h4] at hh; injection hh with hh; injection hh with _ hh _; exact absurd hh (by decide)
    have hne6 : v.ownBlock ≠ some bb := fun e => by
      obtain ⟨_, cur, hh⟩ := own_block_type h2 e
      rw [h3.head] at hh; injection hh with hh; injection hh with _ hh _; exact absurd hh (by decide)
    have hne7 : v.ownBlock ≠ some bp := fun e => by
      have := (own_block_type h2 e).1
      have hbpl : bp < w.heap.size := (World.ownsRow.lt hB.row bp (by simp [Value.ownBlock])).2
      omega
    obtain ⟨Q, hQ⟩ : ∃ Q, partRows W ⟨x, y, a, b⟩ (pre.map Fin.val) px = Q := ⟨_, rfl⟩
    rw [hQ] at hsnoc h2 hrows
    obtain ⟨Q', hQ'⟩ : ∃ Q', partRows W ⟨x, y, a, b⟩ ((pre ++ [i]).map Fin.val) px = Q' := ⟨_, rfl⟩
    rw [hQ'] at hsnoc
    obtain ⟨f, hf⟩ : ∃ f, rowAt W ⟨x, y, a, b⟩ i.val = f := ⟨_, rfl⟩
    simp only [hf, hQ'] at hrow hsnoc hlt ⊢
    obtain ⟨c1, f1⟩ := blk_rules h1
    have hsz := h5.size
    have HQ := Lib.hid hQ'
    clear hpre hQ hQ' hf
    gi_wp2_with (gi_at_builtin; (refine wpListIn_app w.heap.size rfl (.tmp 35) (.tmp 36) 22 35 (.int .u32 0) 1 4 rfl (by kernel_rfl) info_u32 rfl (by decide) (by decide) v _ _ rfl h2 _ a.toNat _ (nums .u32 ((px.drop f).take a.toNat)) rfl (fun h => by cases h) (by rw [nums_length, hlt, Nat.mul_one]) (h3.shows (by omega)) nums_one (by omega) (by omega) ?_; intro v' W2 hown hg; obtain ⟨g', c', rfl, hgb, hgl⟩ := World.ownsRow.form hown (by omega); obtain ⟨c2, f2⟩ := blk_rules ((hg.block w2.heap.size (blk_lt h1) (Ne.symm hne4)).trans h1)))
    have hm2 := (hg.block w2.heap.size (blk_lt h1) (Ne.symm hne4)).trans h1
    have hown' : Own .u32 35 W2 w.heap.size (.slice (some ⟨g', 0, none⟩) Q'.length c') Q' := by
      unfold Own
      rw [hsnoc, List.length_append, hlt]
      have : nums .u32 (Q ++ (px.drop f).take a.toNat) = nums .u32 Q ++ nums .u32 ((px.drop f).take a.toNat) := by simp [nums]
      rw [this]
      exact hown
    have hgm : g' ≠ w2.heap.size := fun e => by
      obtain ⟨cur, hh⟩ := own_type hown'
      rw [e, hm2] at hh; injection hh with hh; injection hh with _ hh _; exact absurd hh (by decide)
    have hbp2 : bp ≠ w2.heap.size := fun e => by
      obtain ⟨cur, hh⟩ := own_type h3.row
      rw [e, h1] at hh; injection hh with hh; injection hh with _ hh _; exact absurd hh (by decide)
    have hbb2 : bb ≠ w2.heap.size := fun e => by
      have hh := h3.head
      rw [e, h1] at hh; injection hh with hh; injection hh with _ hh _; exact absurd hh (by decide)
    have hlq : Q.length + a.toNat = Q'.length := by rw [hsnoc, List.length_append, hlt]
    have hB3 := h3.keptT hg hne6 hne7
    have hE5 := Ext.grown_own h2 h5 hg
    have hc4 := (hg.block (w.heap.size + 1) (blk_lt h4) (Ne.symm hne5)).trans h4
    refine ⟨(keepsOthers_own h2 hg).trans (KeepsOthers.setCell _ _ _), (keptT_own h2 hg (by simp)).trans (KeptT.set hm2 (by simp) _ _), ⟨_, blk_set hm2 2 _, ?_⟩, ?_, blk_set_ne hc4 ?_ _ _, hE5.set ?_ _⟩
    · rw [hlq, HQ.out]
      exact own_set_ne hown' hgm _ _
    · exact ⟨blk_set_ne hB3.head hbb2 _ _, own_set_ne hB3.row hbp2 _ _, hB3.ne, hB3.hb, hB3.w1, hB3.w2, hB3.h1, hB3.h2, hB3.len, hB3.pix⟩
    · intro e
      rw [e] at z1
      omega
    · show w.heap.size ≤ w2.heap.size
      exact hE2.size
end Go.Proofs.Ytilcggkbancniaa
