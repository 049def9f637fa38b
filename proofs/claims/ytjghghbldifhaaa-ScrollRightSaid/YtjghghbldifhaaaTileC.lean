/- Lists cut along the tiles: how many pieces, and tiles.Split. -/
import Derived.Test.YtjghghbldifhaaaTileB
import Derived.Test.YtjghghbldifhaaaRegZ
set_option linter.unusedVariables false
set_option linter.unusedSimpArgs false
namespace Go.Proofs.Ytjghghbldifhaaa

theorem isum_mono {lo : Int} {f g : Int → Int} : ∀ {n : Nat}, (∀ z, lo ≤ z → z < lo + n → f z ≤ g z) → isum lo n f ≤ isum lo n g
  | 0, _ => Int.le_refl _
  | n + 1, h => by
    have ih := isum_mono (n := n) fun z h1 h2 => h z h1 (by omega)
    have h1 := h (lo + n) (by omega) (by omega)
    show isum lo n f + f (lo + n) ≤ isum lo n g + g (lo + n)
    omega
theorem cnt_mono {F G : Int → Int → Bool} (h : ∀ x y, F x y = true → G x y = true) : cnt F ≤ cnt G := by
  unfold cnt
  refine isum_mono fun y _ _ => isum_mono fun x _ _ => ?_
  have := h x y
  cases hf : F x y
  · cases G x y <;> simp [bit]
  · rw [this hf]; exact Int.le_refl _
/-- Bands in form with the pixels that are meant are the list that is meant. -/
theorem listOf_flat {how : Int} {a b : List Rect} {V : List (Run (List (Run Bool)))} (hok : bandsOk V) (h : ∀ x y, pixB V x y = meant how (hasL a x y) (hasL b x y)) : listOf how a b = flat V := by
  unfold listOf
  rw [bands_unique (bandsOf_ok how a b) hok fun x y => by rw [bandsOf_pix, h]]
theorem form_one {t : Rect} (ht : t.empty = false) : listOf 0 [t] [] = [t] := by
  have hg := Rect.empty_iff.1 ht
  rw [listOf_flat (V := [⟨t.y, t.y + t.h, [⟨t.x, t.x + t.w, true⟩]⟩])]
  · show [(⟨t.x, t.y, t.x + t.w - t.x, t.y + t.h - t.y⟩ : Rect)] = [t]
    rw [show t.x + t.w - t.x = t.w by omega, show t.y + t.h - t.y = t.h by omega]
  · refine ⟨⟨by dsimp only; omega, by simp, by simp, trivial⟩, fun y => ?_⟩
    show runsOk false (if t.y ≤ y ∧ y < t.y + t.h then [⟨t.x, t.x + t.w, true⟩] else [])
    split
    · exact ⟨by dsimp only; omega, by simp, by simp, trivial⟩
    · trivial
  · intro x y
    rw [show hasL [] x y = false from rfl, meant0, Bool.eq_iff_iff, hasL_iff]
    show runsAt false (if t.y ≤ y ∧ y < t.y + t.h then [⟨t.x, t.x + t.w, true⟩] else []) x = true ↔ _
    by_cases hy : t.y ≤ y ∧ y < t.y + t.h
    · rw [if_pos hy]
      show (if t.x ≤ x ∧ x < t.x + t.w then true else false) = true ↔ _
      by_cases hx : t.x ≤ x ∧ x < t.x + t.w
      · rw [if_pos hx]
        exact ⟨fun _ => ⟨t, by simp, ht, hx.1, hx.2, hy.1, hy.2⟩, fun _ => rfl⟩
      · rw [if_neg hx]
        constructor
        · intro h; cases h
        · rintro ⟨r, hr, _, h1, h2, _⟩
          obtain rfl : r = t := by simpa using hr
          exact absurd ⟨h1, h2⟩ hx
    · rw [if_neg hy]
      constructor
      · intro h; cases h
      · rintro ⟨r, hr, _, _, _, h1, h2⟩
        obtain rfl : r = t := by simpa using hr
        exact absurd ⟨h1, h2⟩ hy
theorem form_none {t : Rect} (ht : t.empty = true) : listOf 0 [t] [] = [] := by
  have key : listOf 0 [t] [] = listOf 0 [] [] := listOf_eq fun x y => by
   rw [show hasL [t] x y = false from by
    cases hh : hasL [t] x y
    · rfl
    · obtain ⟨r, hr, he, _⟩ := hasL_iff.1 hh
      obtain rfl : r = t := by simpa using hr
      rw [ht] at he; cases he]
   rfl
  rw [key]
  rfl
theorem areaL_one (t : Rect) : areaL [t] = t.area := by
  unfold areaL
  cases ht : t.empty
  · rw [form_one ht]
    show t.area + 0 = _
    omega
  · rw [form_none ht]
    unfold Rect.empty at ht
    simp at ht
    rw [ht]
    rfl
theorem len_areaSum : ∀ {l : List Rect}, (∀ q ∈ l, q.empty = false) → (l.length : Int) ≤ areaSum l
  | [], _ => Int.le_refl _
  | q :: l, h => by
    have ih := len_areaSum (l := l) fun p hp => h p (by simp [hp])
    have h1 := area_good (h q (by simp))
    have h2 := Rect.empty_iff.1 (h q (by simp))
    have h3 : 0 < q.w * q.h := Int.mul_pos (by omega) (by omega)
    have h4 : areaSum (q :: l) = q.area + areaSum l := rfl
    simp only [List.length_cons]
    omega
theorem cut_length (l : List Rect) (t : Rect) : ((listOf 2 l [t]).length : Int) ≤ t.area := by
  have h1 := len_areaSum (l := listOf 2 l [t]) fun q hq => (listOf_good hq).1
  rw [listOf_area] at h1
  have h2 := cnt_mono (F := fun x y => meant 2 (hasL l x y) (hasL [t] x y)) (G := hasL [t]) fun x y h => by
    cases hasL l x y <;> cases hh : hasL [t] x y <;> simp_all [meant]
  rw [← areaL_cnt, areaL_one] at h2
  omega
theorem tileR_small {w h : Int} (i : Nat) : (tileR w h i).area ≤ 256 := by
  unfold tileR Rect.and
  split
  · decide
  · rename_i hc
    simp only [Bool.or_eq_true, not_or, Bool.not_eq_true, decide_eq_false_iff_not] at hc
    obtain ⟨⟨⟨h1, h2⟩, h3⟩, h4⟩ := hc
    unfold Rect.area
    split
    · have hw : ((tileRaw w i).meet ⟨0, 0, w, h⟩).w ≤ 16 := by
        simp only [Rect.meet, tileRaw, mx_eq, mn_eq]
        omega
      have hh : ((tileRaw w i).meet ⟨0, 0, w, h⟩).h ≤ 16 := by
        simp only [Rect.meet, tileRaw, mx_eq, mn_eq]
        omega
      calc _ ≤ (16 : Int) * 16 := Int.mul_le_mul hw hh (by omega) (by omega)
        _ = 256 := rfl
    · decide
/-- A list cut along the tiles i. -/
def cutL (l : List Rect) (w h : Int) (is : List Nat) : List Rect := is.flatMap fun i => listOf 2 l [tileR w h i]
def splitOf (l : List Rect) (w h : Int) : List Rect := cutL l w h (List.range (tileN w h))
theorem cutL_snoc (l : List Rect) (w h : Int) (is : List Nat) (i : Nat) : cutL l w h (is ++ [i]) = cutL l w h is ++ listOf 2 l [tileR w h i] := by simp [cutL]
theorem cutL_length (l : List Rect) (w h : Int) : ∀ (is : List Nat), (cutL l w h is).length ≤ is.length * 256
  | [] => by simp [cutL]
  | i :: is => by
    have ih := cutL_length l w h is
    have h1 := cut_length l (tileR w h i)
    have h2 := tileR_small (w := w) (h := h) i
    show (listOf 2 l [tileR w h i] ++ cutL l w h is).length ≤ _
    rw [List.length_append, List.length_cons]
    omega
end Go.Proofs.Ytjghghbldifhaaa
set_option linter.unusedVariables false
set_option linter.unusedSimpArgs false
namespace Go.Proofs.Ytjghghbldifhaaa
open Go.RowKit Go.Shelf
attribute [local go_sem] Oper.semAt_some

section
variable {P : Program} {ops : Array Oper} {md : Region.Mode} {C : World → Prop}
/-- Two operations may come up. -/
theorem held_two {k1 k2 : Nat} {o1 o2 : Oper} {listed : Array Bool} {a : Act} {w : World} {fuel : Nat} {Post : Act → World → Prop} (hk1 : ops[k1]? = some o1) (hk2 : ops[k2]? = some o2) (hr : Region.ready md ops listed = [k1, k2])
    (h1 : wpList P ops (NormalOnly (fun a' w' => C w' ∧ wpAnyH P md ops (NormalOnly Post) C fuel (listed.setIfInBounds k1 true) a' w')) [o1] a w)
    (h2 : wpList P ops (NormalOnly (fun a' w' => C w' ∧ wpAnyH P md ops (NormalOnly Post) C fuel (listed.setIfInBounds k2 true) a' w')) [o2] a w) : wpAnyH P md ops (NormalOnly Post) C (fuel + 1) listed a w := by
  have key : ∀ (k : Nat) (o : Oper), ops[k]? = some o → wpList P ops (NormalOnly (fun a' w' => C w' ∧ wpAnyH P md ops (NormalOnly Post) C fuel (listed.setIfInBounds k true) a' w')) [o] a w →
      wpOp P ops (NormalOnly Post) k (fun a' w' => C w' ∧ wpAnyH P md ops (NormalOnly Post) C fuel (listed.setIfInBounds k true) a' w') a w := by
    intro k o hk h
    unfold wpOp
    simp only [hk]
    simp only [wpList] at h
    by_cases hw : Region.wanted o (yielded ops a.tmps) = true
    · rw [if_pos hw] at h ⊢
      rcases h with h | h
      · left
        unfold Oper.wp at h ⊢
        generalize (execOp a.eval o).run P w = r at h ⊢
        cases r with
        | ok x w' =>
          cases x <;> simp only [Oper.upon] at h ⊢
          case enter f args =>
            refine Calls.mono h ?_
            intro e w'' he
            cases e with
            | returned v => exact he
            | panicked c => exact he.elim
            | outgrown => exact absurd he NormalOnly.shut
          all_goals exact h
        | halt x w' => cases x <;> simp only [Oper.upon] at h ⊢ <;> exact h.elim
      · exact absurd h.2 NormalOnly.shut
    · rw [if_neg hw] at h ⊢
      exact h
  refine wpAnyH_all hr (by simp) fun i hi => ?_
  rcases (by simpa using hi : i = k1 ∨ i = k2) with rfl | rfl
  · exact key _ _ hk1 h1
  · exact key _ _ hk2 h2
end
/-- Two boxes hold what they held. -/
def TwoBoxes (b : Nat) (v : Value) (t : TypeId) (Bx : Nat) (q : Rect) (W : World) : Prop := W.heap[b]? = some (.cells #[v] t (0, 0)) ∧ W.heap[Bx]? = some (.cells #[.int .i64 q.x, .int .i64 q.y, .int .i64 q.w, .int .i64 q.h] 26 (0, 0))
theorem TwoBoxes.ext {b : Nat} {v : Value} {t : TypeId} {Bx : Nat} {q : Rect} {W W' : World} (h : TwoBoxes b v t Bx q W) (hE : Ext W W') : TwoBoxes b v t Bx q W' := ⟨hE.keep h.1, hE.keep h.2⟩
theorem OutAt.below {w W W2 W3 : World} {s bs d : Nat} {L : List Rect} {B : Option Addr} (h : OutAt w W s bs L B d) (hE : Ext W W2) (hg : W2.grownBy W3 (Value.slice B L.length d).ownBlock) {k : Nat} {o : Obj} (hk : k < bs) (ho : W.heap[k]? = some o) : W3.heap[k]? = some o :=
  (hg.block k (blk_lt (hE.keep ho)) (fun e => by have := (World.ownsRow.lt h.own k e.symm).1; omega)).trans (hE.keep ho)

set_option maxRecDepth 100000 in
set_option maxHeartbeats 16000000 in
theorem split_any (aA : Option Addr) (ca : Nat) (l : List Rect) (wd ht : Int) (w : World) (hl : RectsAt w aA l) (hal : l.length ≤ 2199023255552) : Calls Try.prog 44 #[.slice aA l.length ca, .int .i64 wd, .int .i64 ht] w (GivesR (splitOf l wd ht) w) := by
  refine (callsIn_wide (n := 5)).1 ?_
  refine callsIn_of_wp_marks Try.func44 rfl trivial ?_ rfl
  simp only [Try.ntmps44, List.size_toArray, List.length_cons, List.length_nil, Nat.reduceAdd, Nat.reduceSub, Array.replicate_succ, Array.replicate_zero, List.push_toArray, List.append_toArray, List.nil_append, List.cons_append]
  gi_wp2
  refine ⟨trivial, (callsIn_wide.2 (each_any wd ht _)).mono ?_⟩
  rintro e w1 ⟨rfl, rfl⟩
  gi_wp2
  generalize hw0 : (((w.alloc (.cells #[.slice aA l.length ca] 22)).alloc (.cells #[.slice none 0 0] 22)).alloc (.cells #[.int .i64 wd] 3)).alloc (.cells #[.int .i64 ht] 3) = w0
  have kl : w0.heap[w.heap.size]? = some (.cells #[.slice aA l.length ca] 22 (0, 0)) := by rw [← hw0]; exact blk_old (blk_old (blk_old (blk_newL w [] (.cells #[.slice aA l.length ca] 22)) _) _) _
  have k0 : w0.heap[w.heap.size + 1]? = some (.cells #[.slice none 0 0] 22 (0, 0)) := by rw [← hw0]; exact blk_old (blk_old (blk_newL w [(.cells #[.slice aA l.length ca] 22)] (.cells #[.slice none 0 0] 22)) _) _
  have k1 : w0.heap[w.heap.size + 1 + 1]? = some (.cells #[.int .i64 wd] 3 (0, 0)) := by rw [← hw0]; exact blk_old (blk_newL w [(.cells #[.slice aA l.length ca] 22), (.cells #[.slice none 0 0] 22)] (.cells #[.int .i64 wd] 3)) _
  have k2 : w0.heap[w.heap.size + 1 + 1 + 1]? = some (.cells #[.int .i64 ht] 3 (0, 0)) := by rw [← hw0]; exact blk_newL w [(.cells #[.slice aA l.length ca] 22), (.cells #[.slice none 0 0] 22), (.cells #[.int .i64 wd] 3)] (.cells #[.int .i64 ht] 3)
  have hs0 : w0.heap.size = w.heap.size + 4 := by rw [← hw0]; simp
  have hE0 : Ext w w0 := by rw [← hw0]; exact ((((Ext.refl w).alloc _).alloc _).alloc _).alloc _
  have hO0 : OutAt w w0 (w.heap.size + 1) w0.heap.size [] none 0 := ⟨k0, World.ownsRow_nil _ _ _ _, by omega, by omega, hE0, Nat.le_refl _⟩
  have hNb := tileN_bd wd ht
  clear hw0
  refine wpIn_rangeFunc_ownH (F := Fence.wide) (n := 5) (α := Fin (tileN wd ht)) rfl (by decide) (gf := 121) (lb := #[.pointer (some ⟨w.heap.size + 1 + 1, 0, none⟩), .pointer (some ⟨w.heap.size + 1 + 1 + 1, 0, none⟩)]) rfl trivial (enters_of Try.func121 (by kernel_rfl) rfl)
    (each_stops 4 (by decide) _ _ wd ht w0 (fun k => w.heap.size + 1 < k ∧ k < w0.heap.size) (by omega) (by omega) k1 k2) KeptP.trans (fun W l o o' _ h ho _ => keptP_b _ W l o o' h ho) (Below.refl _ _) (fun _ => rfl)
    (fun pre W1 => W1.heap[w.heap.size]? = some (.cells #[.slice aA l.length ca] 22 (0, 0)) ∧ ∃ B d, OutAt w W1 (w.heap.size + 1) w0.heap.size (cutL l wd ht (pre.map Fin.val)) B d)
    (fun _ _ _ => False)
    (fun s A' B' row hs hg hr => by
      obtain ⟨hk, B, d, hs⟩ := hs
      exact ⟨heap_turn hg (fun r e => (hr r e).2) hk, B, d, hs.turn hg (fun r e => (hr r e).2) (fun r e => Nat.le_trans (by omega) (hr r e).1)⟩)
    (fun _ _ _ _ _ hs _ _ => hs)
    ⟨kl, none, 0, hO0⟩
    (fun i a' W => ∃ Bx v, w0.heap.size ≤ Bx ∧ W.heap[Bx]? = some (.cells #[.int .i64 (tileR wd ht i.val).x, .int .i64 (tileR wd ht i.val).y, .int .i64 (tileR wd ht i.val).w, .int .i64 (tileR wd ht i.val).h] 26 (0, 0)) ∧ W.heap[w.heap.size + 1]? = some (.cells #[v] 22 (0, 0)) ∧ v.ownBlock ≠ some Bx ∧ a' = { tmps := #[.slice aA l.length ca, .int .i64 wd, .int .i64 ht, .pointer (some ⟨w.heap.size, 0, none⟩), undef, undef, .slice none 0 0, .pointer (some ⟨w.heap.size + 1, 0, none⟩), undef, .pointer (some ⟨Bx, 0, none⟩), .int .i64 wd, .int .i64 ht, .func (.func 121) #[] #[.pointer (some ⟨w.heap.size + 1 + 1, 0, none⟩), .pointer (some ⟨w.heap.size + 1 + 1 + 1, 0, none⟩)], .int .i64 i.val, .agg #[.int .i64 (tileR wd ht i.val).x, .int .i64 (tileR wd ht i.val).y, .int .i64 (tileR wd ht i.val).w, .int .i64 (tileR wd ht i.val).h], undef, undef, undef, undef, undef, undef, undef], defers := [] })
    (fun i a' => fun _ W W' row hs hg hr => by
      obtain ⟨Bx, v, h1, h2, h3, h4, h5⟩ := hs
      exact ⟨Bx, v, h1, heap_turn hg (fun r e => (hr r e).2) h2, heap_turn hg (fun r e => (hr r e).2) h3, h4, h5⟩)
    ?assign ?body ?done ?stop
  case assign =>
    rintro m pre x W K ⟨hk, B, d, hO⟩ hK
    dsimp only [tileArgs]
    gi_wp2
    refine hK _ _ ((KeepsOthers.alloc _ _).from _) (KeptP.of_ext ((Ext.refl W).alloc _)) ⟨((Ext.refl W).alloc _).keep hk, B, d, hO.keep ((Ext.refl W).alloc _)⟩ ⟨W.heap.size, _, hO.size, blk_new W _, ((Ext.refl W).alloc _).keep hO.kout, fun e => ?_, rfl⟩
    have := (World.ownsRow.lt hO.own _ e).2
    omega
  case body =>
    rintro m pre x a' W hl0 ⟨r0, hr0⟩ ⟨hk, B, d, hO⟩ ⟨Bx, v, hBx, kX, kv, hvn, rfl⟩ hlt
    obtain rfl : v = .slice B (cutL l wd ht (pre.map Fin.val)).length d := by
      have := kv.symm.trans hO.kout
      injection this with this
      injection this with this _ _
      injection this with this
      injection this with this _
    have hLn := cutL_length l wd ht (pre.map Fin.val)
    rw [List.length_map] at hLn
    have hsn := cutL_snoc l wd ht (pre.map Fin.val) x.val
    rw [show pre.map Fin.val ++ [x.val] = (pre ++ [x]).map Fin.val by simp] at hsn
    obtain ⟨L, hL⟩ : ∃ L, cutL l wd ht (pre.map Fin.val) = L := ⟨_, rfl⟩
    rw [hL] at hO hLn hsn hvn
    obtain ⟨q, hq⟩ : ∃ q, tileR wd ht x.val = q := ⟨_, rfl⟩
    have hql := cut_length l q
    have hqs : q.area ≤ 256 := hq ▸ tileR_small x.val
    rw [hq] at hsn
    simp only [hq] at kX ⊢
    obtain ⟨M, hM⟩ : ∃ M, listOf 2 l [q] = M := ⟨_, rfl⟩
    rw [hM] at hsn hql
    have HO := Lib.hid hO
    have HS := Lib.hid hsn
    have HMM := Lib.hid hM
    have HV := Lib.hid hvn
    have hcon := fun (W1 : World) (hE : Ext W W1) (bq : Nat) (kq : W1.heap[bq]? = some (.cells #[.int .i64 q.x, .int .i64 q.y, .int .i64 q.w, .int .i64 q.h] 26 (0, 0))) => and_list aA (some ⟨bq, 0, none⟩) ca 1 l [q] W1 (hl.ext (hO.ext.trans hE)) (rects_block kq rfl) (by omega) (by simp)
    rw [hM] at hcon
    obtain ⟨c3, f3⟩ := blk_rules hO.kout
    have z3 := blk_lt hO.kout
    have hbox : TwoBoxes w.heap.size (.slice aA l.length ca) 22 Bx q W := ⟨hk, kX⟩
    have HBOX := Lib.hid hbox
    have hne : Nonempty (Keeping (TwoBoxes w.heap.size (.slice aA l.length ca) 22 Bx q)) := ⟨⟨W, hbox⟩⟩
    have j1 := fun y : Keeping (TwoBoxes w.heap.size (.slice aA l.length ca) 22 Bx q) => (blk_rules y.ok.1).1
    have j2 := fun y : Keeping (TwoBoxes w.heap.size (.slice aA l.length ca) 22 Bx q) => (blk_rules y.ok.2).1
    clear hO hsn hL hq hM hvn kv hk kX hbox
    gi_wp2
    refine round_region_sched (fun w' => ∃ x : Keeping (TwoBoxes w.heap.size (.slice aA l.length ca) 22 Bx q), w' = x.now) (by kernel_rfl) (by kernel_rfl) ?_
    refine held_take [1, 2] _ _ 5 rfl (by kernel_rfl) rfl (by kernel_rfl) ⟨⟨W.drew, HBOX.out.ext (Ext.refl W).drew⟩, rfl⟩ ?_
    simp only [List.filterMap_cons, List.filterMap_nil, List.getElem?_toArray, List.getElem?_cons_succ, List.getElem?_cons_zero]
    repeat (quiet_step (fail))
    refine wpQuiet_nil ?_
    clear j1 j2 hne
    refine held_two (k1 := 0) (k2 := 3) rfl rfl (by kernel_rfl) ?_ ?_
    · go_wp2_with fail
      refine ⟨⟨⟨W.drew, HBOX.out.ext (Ext.refl W).drew⟩, rfl⟩, ?_⟩
      refine held_step (k := 3) rfl (by kernel_rfl) ?_
      go_wp2_with fail
      refine ⟨⟨⟨_, HBOX.out.ext ((Ext.refl W).drew.alloc _)⟩, rfl⟩, ?_⟩
      refine held_step (k := 4) rfl (by kernel_rfl) ?_
      go_wp2_with fail
      refine (hcon _ ((Ext.refl W).drew.alloc _) _ (blk_new _ _)).mono ?_
      rintro e w2 ⟨Bm, dm, rfl, hM, nM, E⟩
      have hE2 : Ext W w2 := ((Ext.refl W).drew.alloc _).trans E
      clear E
      go_wp2_with fail
      refine ⟨⟨⟨w2, HBOX.out.ext hE2⟩, rfl⟩, ?_⟩
      refine held_step (k := 5) rfl (by kernel_rfl) ?_
      have hown7 := row_keep HO.out.own hE2
      have hsh7 := (OwnR.at hM).shows
      have hsz7 := Nat.le_trans HO.out.size hE2.size
      have kX2 := hE2.keep HBOX.out.2
      go_wp2_with (first | (refine wpList_app w0.heap.size rfl (.tmp 15) (.tmp 19) 22 26 (.agg #[.int .i64 0, .int .i64 0, .int .i64 0, .int .i64 0]) 4 32 rfl Try.underlying22 info_rect rfl (by decide) (by decide) (.slice B L.length d) L.length (rcells L) rfl hown7 Bm M.length dm (rcells M) rfl nM (rcells_length _) hsh7 rcells_one (by omega) hsz7 (fun v' w5 hr5 hg5 => ?_); obtain ⟨B6, d6, rfl⟩ := row_slice hr5))
      have hr6 : OwnR w5 w0.heap.size (.slice B6 (L ++ M).length d6) (L ++ M) := by
        unfold OwnR
        rw [List.length_append, show rcells (L ++ M) = rcells L ++ rcells M by simp [rcells]]
        exact hr5
      have hX5 := (hg5.block Bx (blk_lt kX2) (fun e => HV.out e.symm)).trans kX2
      have hl5 := HO.out.below hE2 hg5 (by omega) HBOX.out.1
      have k5 := HO.out.below hE2 hg5 HO.out.sb HO.out.kout
      obtain ⟨c8, f8⟩ := blk_rules k5
      have z5 := blk_lt k5
      refine ⟨⟨⟨w5, hl5, hX5⟩, rfl⟩, ?_⟩
      refine held_step (k := 6) rfl (by kernel_rfl) ?_
      go_wp2_with fail
      have hO6 := HO.out.row hE2 hg5 hr6
      obtain ⟨hk6, hk7⟩ := HO.out.kept hE2 hg5 (.slice B6 (L ++ M).length d6)
      rw [List.length_append] at hk6 hk7 hO6
      refine ⟨⟨⟨_, blk_set_ne hl5 (by omega) _ _, blk_set_ne hX5 (by omega) _ _⟩, rfl⟩, ?_⟩
      refine held_done (by kernel_rfl) ?_
      refine ⟨hk6.from _, hk7, blk_set_ne hl5 (by omega) _ _, B6, d6, ?_⟩
      rw [HS.out]
      exact hO6
    · go_wp2_with fail
      refine ⟨⟨⟨_, HBOX.out.ext ((Ext.refl W).drew.alloc _)⟩, rfl⟩, ?_⟩
      refine held_two (k1 := 0) (k2 := 4) rfl rfl (by kernel_rfl) ?_ ?_
      · go_wp2_with fail
        refine ⟨⟨⟨_, HBOX.out.ext ((Ext.refl W).drew.alloc _)⟩, rfl⟩, ?_⟩
        refine held_step (k := 4) rfl (by kernel_rfl) ?_
        go_wp2_with fail
        refine (hcon _ ((Ext.refl W).drew.alloc _) _ (blk_new _ _)).mono ?_
        rintro e w2 ⟨Bm, dm, rfl, hM, nM, E⟩
        have hE2 : Ext W w2 := ((Ext.refl W).drew.alloc _).trans E
        clear E
        go_wp2_with fail
        refine ⟨⟨⟨w2, HBOX.out.ext hE2⟩, rfl⟩, ?_⟩
        refine held_step (k := 5) rfl (by kernel_rfl) ?_
        have hown7 := row_keep HO.out.own hE2
        have hsh7 := (OwnR.at hM).shows
        have hsz7 := Nat.le_trans HO.out.size hE2.size
        have kX2 := hE2.keep HBOX.out.2
        go_wp2_with (first | (refine wpList_app w0.heap.size rfl (.tmp 15) (.tmp 19) 22 26 (.agg #[.int .i64 0, .int .i64 0, .int .i64 0, .int .i64 0]) 4 32 rfl Try.underlying22 info_rect rfl (by decide) (by decide) (.slice B L.length d) L.length (rcells L) rfl hown7 Bm M.length dm (rcells M) rfl nM (rcells_length _) hsh7 rcells_one (by omega) hsz7 (fun v' w5 hr5 hg5 => ?_); obtain ⟨B6, d6, rfl⟩ := row_slice hr5))
        have hr6 : OwnR w5 w0.heap.size (.slice B6 (L ++ M).length d6) (L ++ M) := by
          unfold OwnR
          rw [List.length_append, show rcells (L ++ M) = rcells L ++ rcells M by simp [rcells]]
          exact hr5
        have hX5 := (hg5.block Bx (blk_lt kX2) (fun e => HV.out e.symm)).trans kX2
        have hl5 := HO.out.below hE2 hg5 (by omega) HBOX.out.1
        have k5 := HO.out.below hE2 hg5 HO.out.sb HO.out.kout
        obtain ⟨c8, f8⟩ := blk_rules k5
        have z5 := blk_lt k5
        refine ⟨⟨⟨w5, hl5, hX5⟩, rfl⟩, ?_⟩
        refine held_step (k := 6) rfl (by kernel_rfl) ?_
        go_wp2_with fail
        have hO6 := HO.out.row hE2 hg5 hr6
        obtain ⟨hk6, hk7⟩ := HO.out.kept hE2 hg5 (.slice B6 (L ++ M).length d6)
        rw [List.length_append] at hk6 hk7 hO6
        refine ⟨⟨⟨_, blk_set_ne hl5 (by omega) _ _, blk_set_ne hX5 (by omega) _ _⟩, rfl⟩, ?_⟩
        refine held_done (by kernel_rfl) ?_
        refine ⟨hk6.from _, hk7, blk_set_ne hl5 (by omega) _ _, B6, d6, ?_⟩
        rw [HS.out]
        exact hO6
      · go_wp2_with fail
        refine (hcon _ ((Ext.refl W).drew.alloc _) _ (blk_new _ _)).mono ?_
        rintro e w2 ⟨Bm, dm, rfl, hM, nM, E⟩
        have hE2 : Ext W w2 := ((Ext.refl W).drew.alloc _).trans E
        clear E
        go_wp2_with fail
        refine ⟨⟨⟨w2, HBOX.out.ext hE2⟩, rfl⟩, ?_⟩
        refine held_step (k := 0) rfl (by kernel_rfl) ?_
        obtain ⟨c9, f9⟩ := blk_rules (hE2.keep HO.out.kout)
        go_wp2_with fail
        refine ⟨⟨⟨w2, HBOX.out.ext hE2⟩, rfl⟩, ?_⟩
        refine held_step (k := 5) rfl (by kernel_rfl) ?_
        have hown7 := row_keep HO.out.own hE2
        have hsh7 := (OwnR.at hM).shows
        have hsz7 := Nat.le_trans HO.out.size hE2.size
        have kX2 := hE2.keep HBOX.out.2
        go_wp2_with (first | (refine wpList_app w0.heap.size rfl (.tmp 15) (.tmp 19) 22 26 (.agg #[.int .i64 0, .int .i64 0, .int .i64 0, .int .i64 0]) 4 32 rfl Try.underlying22 info_rect rfl (by decide) (by decide) (.slice B L.length d) L.length (rcells L) rfl hown7 Bm M.length dm (rcells M) rfl nM (rcells_length _) hsh7 rcells_one (by omega) hsz7 (fun v' w5 hr5 hg5 => ?_); obtain ⟨B6, d6, rfl⟩ := row_slice hr5))
        have hr6 : OwnR w5 w0.heap.size (.slice B6 (L ++ M).length d6) (L ++ M) := by
          unfold OwnR
          rw [List.length_append, show rcells (L ++ M) = rcells L ++ rcells M by simp [rcells]]
          exact hr5
        have hX5 := (hg5.block Bx (blk_lt kX2) (fun e => HV.out e.symm)).trans kX2
        have hl5 := HO.out.below hE2 hg5 (by omega) HBOX.out.1
        have k5 := HO.out.below hE2 hg5 HO.out.sb HO.out.kout
        obtain ⟨c8, f8⟩ := blk_rules k5
        have z5 := blk_lt k5
        refine ⟨⟨⟨w5, hl5, hX5⟩, rfl⟩, ?_⟩
        refine held_step (k := 6) rfl (by kernel_rfl) ?_
        go_wp2_with fail
        have hO6 := HO.out.row hE2 hg5 hr6
        obtain ⟨hk6, hk7⟩ := HO.out.kept hE2 hg5 (.slice B6 (L ++ M).length d6)
        rw [List.length_append] at hk6 hk7 hO6
        refine ⟨⟨⟨_, blk_set_ne hl5 (by omega) _ _, blk_set_ne hX5 (by omega) _ _⟩, rfl⟩, ?_⟩
        refine held_done (by kernel_rfl) ?_
        refine ⟨hk6.from _, hk7, blk_set_ne hl5 (by omega) _ _, B6, d6, ?_⟩
        rw [HS.out]
        exact hO6
  case done =>
    rintro D zs W1 hD hzs ⟨hk, B, d, hO⟩ hK
    obtain ⟨c3, f3⟩ := blk_rules hO.kout
    have hst : cutL l wd ht (zs.map Fin.val) = splitOf l wd ht := by rw [hzs]; rfl
    have hown := hO.own
    rw [hst] at c3 hown
    have HOW := Lib.hid hown
    have HOO := Lib.hid hO
    clear hst hown hO
    gi_wp2
    refine ⟨by simp, .inl ⟨_, _, rfl, run_takeDeferred hK, ?_⟩⟩
    have hg := grownBy_putObj' W1 D (.deferred none)
    have hr : ∀ r, some D = some r → ∃ o : Obj, W1.heap[r]? = some o ∧ o.isCells = false := fun r e => by cases e; exact ⟨_, hK, rfl⟩
    have hO2 := HOO.out.turn hg hr (fun r e => by cases e; omega)
    have hown2 := row_turn hg hr HOW.out
    exact ⟨_, results_tmp rfl _ _ _, B, d, rfl, World.ownsRow.base_le hown2 (by omega), fun e => (row_nil_of hown2 e).1, hO2.ext⟩
  case stop =>
    rintro D c pre W1 _ _ h _
    exact h.elim
end Go.Proofs.Ytjghghbldifhaaa
