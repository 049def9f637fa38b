/- tiles.Sums. -/
import Derived.Test.YtjghghbldifhaaaTileC
set_option linter.unusedVariables false
set_option linter.unusedSimpArgs false
namespace Go.Proofs.Ytjghghbldifhaaa
open Go.RowKit Go.Shelf
attribute [local go_sem] Oper.semAt_some

set_option maxRecDepth 100000 in
theorem idx0 (w : World) : (Instr.index 108 (.agg #[.int .i64 16, .int .i64 8, .int .i64 0]) (.int .i64 0)).run Try.prog w = .ok (.int .i64 16) w := by rfl
set_option maxRecDepth 100000 in
theorem idx1 (w : World) : (Instr.index 108 (.agg #[.int .i64 16, .int .i64 8, .int .i64 0]) (.int .i64 1)).run Try.prog w = .ok (.int .i64 8) w := by rfl
set_option maxRecDepth 100000 in
theorem idx2 (w : World) : (Instr.index 108 (.agg #[.int .i64 16, .int .i64 8, .int .i64 0]) (.int .i64 2)).run Try.prog w = .ok (.int .i64 0) w := by rfl
attribute [local go_sem ↓] idx0 idx1 idx2
/-- A byte is eaten; a colour is. -/
def eatS (h b : Int) : Int := IntKind.u32.wrap (bits BinOp.xor IntKind.u32 h b * 16777619)
def eatK (h c : Int) : Nat → Int
  | 0 => h
  | 1 => eatS h (c / 65536 % 256)
  | 2 => eatS (eatS h (c / 65536 % 256)) (c / 256 % 256)
  | _ => eatS (eatS (eatS h (c / 65536 % 256)) (c / 256 % 256)) (c % 256)
def eat3 (h c : Int) : Int := eatK h c 3
theorem u32_wrap_bd (x : Int) : 0 ≤ IntKind.u32.wrap x ∧ IntKind.u32.wrap x ≤ 4294967295 := by
  have : IntKind.u32.wrap x = x % 4294967296 := rfl
  omega
theorem byte_wrap (x : Int) : IntKind.u32.wrap (IntKind.u8.wrap x) = x % 256 := by
  have h1 : IntKind.u8.wrap x = x % 256 := rfl
  have h2 : ∀ y, IntKind.u32.wrap y = y % 4294967296 := fun _ => rfl
  rw [h1, h2]
  omega
set_option maxRecDepth 100000 in
set_option maxHeartbeats 1000000 in
theorem eat_any (c h : Int) (G : Nat) (w : World) (hG : w.heap[G]? = some (.cells #[.int .u32 h] 58 (0, 0))) :
    Calls Try.prog 99 #[.int .u32 c, .pointer (some ⟨G, 0, none⟩)] w fun e w' => (∃ v, e = .returned v) ∧ w'.heap[G]? = some (.cells #[.int .u32 (eat3 h c)] 58 (0, 0)) ∧ w.grownBy w' (some G) := by
  obtain ⟨cG, fG⟩ := blk_rules hG
  go_enter Try.func99, Try.ntmps99
  go_wp2_with fail
  go_loopw [6] (fun iv wr => ∃ k : Nat, k ≤ 3 ∧ iv = .int .i64 k ∧ wr.heap[G]? = some (.cells #[.int .u32 (eatK h c k)] 58 (0, 0)) ∧ w.grownBy wr (some G)) (fun iv _ => 3 - (intOf iv).toNat)
  case atStart => exact ⟨0, by omega, rfl, hG, World.grownBy.refl w _⟩
  case round =>
    clear cG fG hG
    obtain ⟨k, hk, rfl, hG, hg⟩ := hrel
    obtain ⟨H, hH⟩ : ∃ H, eatK h c k = H := ⟨_, rfl⟩
    rw [hH] at hG
    obtain ⟨cG, fG⟩ := blk_rules hG
    have HH := Lib.hid hH
    clear hH
    by_cases hlt : k < 3
    · have hset : ∀ v : Value, (wr.drew.setCell ⟨G, 0, none⟩ v).heap[G]? = some (.cells #[v] 58 (0, 0)) := fun v => by simpa using blk_set (w := wr.drew) hG 0 v
      have hgr : ∀ v : Value, w.grownBy (wr.drew.setCell ⟨G, 0, none⟩ v) (some G) := fun v => by
        have h2 := grown_set wr.drew G 0 v
        exact ⟨h2.os.trans hg.os, h2.tape.trans hg.tape, h2.output.trans hg.output, Nat.le_trans hg.size h2.size, fun k hk hne => (h2.block k (Nat.lt_of_lt_of_le hk hg.size) hne).trans (hg.block k hk hne)⟩
      have e1 := byte_wrap (c / 65536)
      have e2 := byte_wrap (c / 256)
      have e3 := byte_wrap c
      have HSET := Lib.hid hset
      have HGR := Lib.hid hgr
      clear hset hgr
      obtain rfl | rfl | rfl : k = 0 ∨ k = 1 ∨ k = 2 := by omega
      · go_wp2_with fail
        go_still_tail 8, (by kernel_rfl)
        change wpList _ _ _ _ _ wr.drew
        go_wp2_with fail
        exact ⟨⟨1, by omega, by go_num, by rw [show eatK h c 1 = eatS H (c / 65536 % 256) by rw [← HH.out]; rfl]; exact HSET.out _, HGR.out _⟩, by simp [intOf]⟩
      · go_wp2_with fail
        go_still_tail 8, (by kernel_rfl)
        change wpList _ _ _ _ _ wr.drew
        go_wp2_with fail
        exact ⟨⟨2, by omega, by go_num, by rw [show eatK h c 2 = eatS H (c / 256 % 256) by rw [← HH.out]; rfl]; exact HSET.out _, HGR.out _⟩, by simp [intOf]⟩
      · go_wp2_with fail
        go_still_tail 8, (by kernel_rfl)
        change wpList _ _ _ _ _ wr.drew
        go_wp2_with fail
        exact ⟨⟨3, by omega, by go_num, by rw [show eatK h c 3 = eatS H (c % 256) by rw [← HH.out]; rfl]; exact HSET.out _, HGR.out _⟩, by simp [intOf]⟩
    · obtain rfl : k = 3 := by omega
      go_wp2_with fail
      go_end0
      exact ⟨⟨_, rfl⟩, by rw [show eat3 h c = H from HH.out]; exact hG, hg⟩

theorem tileR_spec {w h : Int} (hok : sizeOk w h = true) {i : Nat} (hi : i < tileN w h) : ∃ P Q : Nat, P = i % tilesIn w ∧ Q = i / tilesIn w ∧ (P : Int) * 16 < w ∧ (Q : Int) * 16 < h ∧ tileR w h i = ⟨(P : Int) * 16, (Q : Int) * 16, min 16 (w - (P : Int) * 16), min 16 (h - (Q : Int) * 16)⟩ := by
  obtain ⟨⟨w1, w2⟩, w3, w4⟩ := sizeOk_iff.1 hok
  have a1 := tilesIn_bd w1 w2
  have b1 := tilesIn_bd w3 w4
  have hN : tileN w h = tilesIn w * tilesIn h := by unfold tileN; rw [hok]; rfl
  rw [hN] at hi
  have hm := Nat.mod_lt i (show 0 < tilesIn w by omega)
  have hd := Nat.div_lt_of_lt_mul hi
  obtain ⟨P, hP⟩ : ∃ P, i % tilesIn w = P := ⟨_, rfl⟩
  obtain ⟨Q, hQ⟩ : ∃ Q, i / tilesIn w = Q := ⟨_, rfl⟩
  rw [hP] at hm
  rw [hQ] at hd
  have ha : (tilesIn w : Int) = (w + 15) / 16 := by unfold tilesIn; omega
  have hb : (tilesIn h : Int) = (h + 15) / 16 := by unfold tilesIn; omega
  have p1 : (P : Int) * 16 < w := by omega
  have q1 : (Q : Int) * 16 < h := by omega
  refine ⟨P, Q, hP.symm, hQ.symm, p1, q1, ?_⟩
  unfold tileR tileRaw
  rw [hP, hQ]
  have e1 : Rect.empty ⟨(P : Int) * 16, (Q : Int) * 16, 16, 16⟩ = false := Rect.empty_iff.2 (by dsimp only; omega)
  have e2 : Rect.empty ⟨0, 0, w, h⟩ = false := Rect.empty_iff.2 (by dsimp only; omega)
  have hm : Rect.meet ⟨(P : Int) * 16, (Q : Int) * 16, 16, 16⟩ ⟨0, 0, w, h⟩ = ⟨(P : Int) * 16, (Q : Int) * 16, min 16 (w - (P : Int) * 16), min 16 (h - (Q : Int) * 16)⟩ := by
    unfold Rect.meet
    simp only [mx_eq, mn_eq]
    congr 1 <;> omega
  unfold Rect.and
  rw [e1, e2, hm, if_neg]
  simp
  omega
/-- A tile's sum. -/
def rowEat (px : List Int) (W : Nat) (t : Rect) (h : Int) (j : Nat) : Int := ((px.drop ((t.y.toNat + j) * W + t.x.toNat)).take t.w.toNat).foldl eat3 h
def tileSum (px : List Int) (W : Nat) (t : Rect) : Int := (List.range t.h.toNat).foldl (rowEat px W t) 2166136261
def sumsOk (W H : Int) (px : List Int) : Bool := sizeOk W H && decide ((px.length : Int) = W * H)
def sumsOf (W H : Int) (px : List Int) (is : List Nat) : List Int := is.map fun i => tileSum px W.toNat (tileR W H i)
def sumsL (W H : Int) (px : List Int) : List Int := if sumsOk W H px then sumsOf W H px (List.range (tileN W H)) else []
theorem sumsOf_snoc (W H : Int) (px : List Int) (is : List Nat) (i : Nat) : sumsOf W H px (is ++ [i]) = sumsOf W H px is ++ [tileSum px W.toNat (tileR W H i)] := by simp [sumsOf]

/-- A row of numbers that is put together in a box, by a range over a function. -/
structure OutU (w W : World) (s bs : Nat) (L : List Int) (B : Option Addr) (d : Nat) : Prop where
  kout : W.heap[s]? = some (.cells #[.slice B L.length d] 41 (0, 0))
  own : W.ownsRow bs 58 1 (.slice B L.length d) L.length (nums .u32 L)
  sb : s < bs
  ws : w.heap.size ≤ s
  ext : Ext w W
  size : bs ≤ W.heap.size
section
variable {w W W2 W3 : World} {s bs d d5 : Nat} {L O5 : List Int} {B B5 : Option Addr}
theorem OutU.keep (h : OutU w W s bs L B d) (hE : Ext W W2) : OutU w W2 s bs L B d :=
  ⟨hE.keep h.kout, row_keep h.own hE, h.sb, h.ws, h.ext.trans hE, Nat.le_trans h.size hE.size⟩
theorem OutU.turn (h : OutU w W s bs L B d) {row : Option Nat} (hg : W.grownBy W2 row) (hr : ∀ r, row = some r → ∃ o : Obj, W.heap[r]? = some o ∧ o.isCells = false) (hb : ∀ r, row = some r → w.heap.size ≤ r) : OutU w W2 s bs L B d :=
  ⟨heap_turn hg hr h.kout, row_turn hg hr h.own, h.sb, h.ws, Below.grown h.ext hg h.ext.size hb, Nat.le_trans h.size hg.size⟩
theorem OutU.below (h : OutU w W s bs L B d) (hE : Ext W W2) (hg : W2.grownBy W3 (Value.slice B L.length d).ownBlock) {k : Nat} {o : Obj} (hk : k < bs) (ho : W.heap[k]? = some o) : W3.heap[k]? = some o :=
  (hg.block k (blk_lt (hE.keep ho)) (fun e => by have := (World.ownsRow.lt h.own k e.symm).1; omega)).trans (hE.keep ho)
theorem OutU.row (h : OutU w W s bs L B d) (hE : Ext W W2) (hg : W2.grownBy W3 (Value.slice B L.length d).ownBlock) (hr : W3.ownsRow bs 58 1 (.slice B5 O5.length d5) O5.length (nums .u32 O5)) :
    OutU w (W3.setCell ⟨s, 0, none⟩ (.slice B5 O5.length d5)) s bs O5 B5 d5 := by
  have hsb := h.sb
  have hws := h.ws
  have hb : ∀ r, (Value.slice B L.length d).ownBlock = some r → bs ≤ r := fun r e => (World.ownsRow.lt h.own r e).1
  refine ⟨by simpa using blk_set (h.below hE hg hsb h.kout) 0 (.slice B5 O5.length d5), row_below hr (grown_set _ _ _ _) hsb, hsb, hws, ?_, ?_⟩
  · have hx : Ext w W3 := Below.grown (h.ext.trans hE) hg (h.ext.trans hE).size (fun r e => by have := hb r e; omega)
    exact hx.set (p := ⟨s, 0, none⟩) (by dsimp only; omega) _
  · have : (W3.setCell ⟨s, 0, none⟩ (.slice B5 O5.length d5)).heap.size = W3.heap.size := by simp [World.setCell]
    rw [this]
    exact Nat.le_trans (Nat.le_trans h.size hE.size) hg.size
theorem OutU.kept (h : OutU w W s bs L B d) (hE : Ext W W2) (hg : W2.grownBy W3 (Value.slice B L.length d).ownBlock) (v : Value) : KeepsOthers W (W3.setCell ⟨s, 0, none⟩ v) ∧ KeptP (fun k => s < k ∧ k < bs) W (W3.setCell ⟨s, 0, none⟩ v) := by
  refine ⟨((KeepsOthers.of_ext hE).trans (KeepsOthers.of_grownBy hg (row_cells (row_keep h.own hE)))).trans (KeepsOthers.setCell _ _ _), ((KeptP.of_ext hE).trans (KeptP.of_grown hg fun r e hr => ?_)).trans (KeptP.set (fun hr => ?_) _ _)⟩
  · have := (World.ownsRow.lt h.own r e).1
    omega
  · omega
end
/-- A call hands back a row of 32-bit numbers of its own. -/
def GivesU (L : List Int) (w : World) (e : Ending) (w' : World) : Prop := ∃ B d, e = .returned (.slice B L.length d) ∧ w'.ownsRow w.heap.size 58 1 (.slice B L.length d) L.length (nums .u32 L) ∧ Ext w w'

set_option maxRecDepth 100000 in
set_option maxHeartbeats 4000000 in
theorem sums_bad (W H : Int) (pA : Option Addr) (pc : Nat) (px : List Int) (w : World) (hok : sumsOk W H px = false) : Calls Try.prog 47 #[.agg #[.int .i64 W, .int .i64 H, .slice pA px.length pc]] w (GivesU [] w) := by
  have hbad : W < 1 ∨ ¬ W < 1 ∧ (H < 1 ∨ ¬ H < 1 ∧ (256 < W ∨ ¬ 256 < W ∧ (256 < H ∨ ¬ 256 < H ∧ (px.length : Int) ≠ W * H))) := by
    have hno : ¬ (sumsOk W H px = true) := by rw [hok]; simp
    unfold sumsOk at hno
    rw [Bool.and_eq_true, sizeOk_iff, decide_eq_true_eq] at hno
    omega
  clear hok
  rcases hbad with h1 | ⟨h1, h2 | ⟨h2, h3 | ⟨h3, h4 | ⟨h4, h5⟩⟩⟩⟩
  case inr.inr.inr.inr =>
    have a1 : W ≤ 256 := by omega
    have a2 : H ≤ 256 := by omega
    have hmul : W * H ≤ 256 * 256 := Int.mul_le_mul a1 a2 (by omega) (by omega)
    have hmul0 : 0 ≤ W * H := Int.mul_nonneg (by omega) (by omega)
    have m1 : IntKind.i64.wrap (W * H) = W * H := IntWalk.i64_in _ (by omega)
    have m2 : wrap64 (W * H) = W * H := IntWalk.wrap64_in _ (by omega)
    have d1 : (W < 1) = False := by simp; omega
    have d2 : ((256 : Int) < W) = False := by simp; omega
    have d3 : (H < 1) = False := by simp; omega
    have d4 : ((256 : Int) < H) = False := by simp; omega
    have d5 : ((px.length : Int) != W * H) = true := by simp [h5]
    clear h1 h2 h3 h4 h5 a1 a2
    go_enter Try.func47, Try.ntmps47
    go_wp2_with fail
    go_ret
    exact ⟨none, 0, rfl, World.ownsRow_nil _ _ _ _, (Ext.refl w).alloc _⟩
  all_goals
    go_enter Try.func47, Try.ntmps47
    go_wp2_with fail
    go_ret
    exact ⟨none, 0, rfl, World.ownsRow_nil _ _ _ _, (Ext.refl w).alloc _⟩

theorem foldl_take {px : List Int} {a k : Nat} (h : a + k < px.length) (h0 : Int) : ((px.drop a).take (k + 1)).foldl eat3 h0 = eat3 (((px.drop a).take k).foldl eat3 h0) (px.getD (a + k) 0) := by
  rw [List.take_add_one, List.foldl_append, List.getElem?_drop, List.getElem?_eq_getElem h, List.getD_eq_getElem?_getD, List.getElem?_eq_getElem h]
  rfl

set_option maxRecDepth 100000 in
set_option maxHeartbeats 16000000 in
theorem sums_good (W H : Int) (pA : Option Addr) (pc : Nat) (px : List Int) (w : World) (hp : Reads .u32 w pA px) (hcap : px.length ≤ pc) (hok : sumsOk W H px = true) : Calls Try.prog 47 #[.agg #[.int .i64 W, .int .i64 H, .slice pA px.length pc]] w (GivesU (sumsOf W H px (List.range (tileN W H))) w) := by
  refine (callsIn_wide (n := 5)).1 ?_
  refine callsIn_of_wp_marks Try.func47 rfl trivial ?_ rfl
  simp only [Try.ntmps47, List.size_toArray, List.length_cons, List.length_nil, Nat.reduceAdd, Nat.reduceSub, Array.replicate_succ, Array.replicate_zero, List.push_toArray, List.append_toArray, List.nil_append, List.cons_append]
  unfold sumsOk at hok
  rw [Bool.and_eq_true, decide_eq_true_eq] at hok
  obtain ⟨hsz, hlen⟩ := hok
  obtain ⟨⟨w1, w2⟩, w3, w4⟩ := sizeOk_iff.1 hsz
  have hmul : W * H ≤ 256 * 256 := Int.mul_le_mul w2 w4 (by omega) (by omega)
  have hmul0 : 0 ≤ W * H := Int.mul_nonneg (by omega) (by omega)
  have m1 : IntKind.i64.wrap (W * H) = W * H := IntWalk.i64_in _ (by omega)
  have d1 : (W < 1) = False := by simp; omega
  have d2 : ((256 : Int) < W) = False := by simp; omega
  have d3 : (H < 1) = False := by simp; omega
  have d4 : ((256 : Int) < H) = False := by simp; omega
  have d5 : ((px.length : Int) != W * H) = false := by rw [hlen]; simp
  have HLEN := Lib.hid hlen
  have HSZ := Lib.hid hsz
  have hpl : px.length ≤ 65536 := by omega
  clear hlen hsz
  gi_wp2
  refine ⟨trivial, (callsIn_wide.2 (each_any W H _)).mono ?_⟩
  rintro e w1 ⟨rfl, rfl⟩
  gi_wp2
  clear d1 d2 d3 d4 d5 m1
  generalize hw0 : (((w.alloc (.cells #[.int .i64 W, .int .i64 H, .slice pA px.length pc] 43)).alloc (.cells #[.slice none 0 0] 41)).alloc (.cells #[.int .i64 W] 3)).alloc (.cells #[.int .i64 H] 3) = w0
  have km : w0.heap[w.heap.size]? = some (.cells #[.int .i64 W, .int .i64 H, .slice pA px.length pc] 43 (0, 0)) := by rw [← hw0]; exact blk_old (blk_old (blk_old (blk_newL w [] (.cells #[.int .i64 W, .int .i64 H, .slice pA px.length pc] 43)) _) _) _
  have k0 : w0.heap[w.heap.size + 1]? = some (.cells #[.slice none 0 0] 41 (0, 0)) := by rw [← hw0]; exact blk_old (blk_old (blk_newL w [(.cells #[.int .i64 W, .int .i64 H, .slice pA px.length pc] 43)] (.cells #[.slice none 0 0] 41)) _) _
  have k1 : w0.heap[w.heap.size + 1 + 1]? = some (.cells #[.int .i64 W] 3 (0, 0)) := by rw [← hw0]; exact blk_old (blk_newL w [(.cells #[.int .i64 W, .int .i64 H, .slice pA px.length pc] 43), (.cells #[.slice none 0 0] 41)] (.cells #[.int .i64 W] 3)) _
  have k2 : w0.heap[w.heap.size + 1 + 1 + 1]? = some (.cells #[.int .i64 H] 3 (0, 0)) := by rw [← hw0]; exact blk_newL w [(.cells #[.int .i64 W, .int .i64 H, .slice pA px.length pc] 43), (.cells #[.slice none 0 0] 41), (.cells #[.int .i64 W] 3)] (.cells #[.int .i64 H] 3)
  have hs0 : w0.heap.size = w.heap.size + 4 := by rw [← hw0]; simp
  have hE0 : Ext w w0 := by rw [← hw0]; exact ((((Ext.refl w).alloc _).alloc _).alloc _).alloc _
  have hO0 : OutU w w0 (w.heap.size + 1) w0.heap.size [] none 0 := ⟨k0, World.ownsRow_nil _ _ _ _, by omega, by omega, hE0, Nat.le_refl _⟩
  have hNb := tileN_bd W H
  clear hw0
  refine wpIn_rangeFunc_ownH (F := Fence.wide) (n := 5) (α := Fin (tileN W H)) rfl (by decide) (gf := 121) (lb := #[.pointer (some ⟨w.heap.size + 1 + 1, 0, none⟩), .pointer (some ⟨w.heap.size + 1 + 1 + 1, 0, none⟩)]) rfl trivial (enters_of Try.func121 (by kernel_rfl) rfl)
    (each_stops 4 (by decide) _ _ W H w0 (fun k => w.heap.size + 1 < k ∧ k < w0.heap.size) (by omega) (by omega) k1 k2) KeptP.trans (fun W l o o' _ h ho _ => keptP_b _ W l o o' h ho) (Below.refl _ _) (fun _ => rfl)
    (fun pre W1 => W1.heap[w.heap.size]? = some (.cells #[.int .i64 W, .int .i64 H, .slice pA px.length pc] 43 (0, 0)) ∧ ∃ B d, OutU w W1 (w.heap.size + 1) w0.heap.size (sumsOf W H px (pre.map Fin.val)) B d)
    (fun _ _ _ => False)
    (fun s A' B' row hs hg hr => by
      obtain ⟨hk, B, d, hs⟩ := hs
      exact ⟨heap_turn hg (fun r e => (hr r e).2) hk, B, d, hs.turn hg (fun r e => (hr r e).2) (fun r e => Nat.le_trans (by omega) (hr r e).1)⟩)
    (fun _ _ _ _ _ hs _ _ => hs)
    ⟨km, none, 0, hO0⟩
    (fun i a' W1 => ∃ Bx, w0.heap.size ≤ Bx ∧ W1.heap[Bx]? = some (.cells #[.int .i64 (tileR W H i.val).x, .int .i64 (tileR W H i.val).y, .int .i64 (tileR W H i.val).w, .int .i64 (tileR W H i.val).h] 26 (0, 0)) ∧ a' = { tmps := #[.agg #[.int .i64 W, .int .i64 H, .slice pA px.length pc], .pointer (some ⟨w.heap.size, 0, none⟩), .slice none 0 0, .pointer (some ⟨w.heap.size + 1, 0, none⟩), undef, .pointer (some ⟨Bx, 0, none⟩), undef, undef, undef, undef, undef, .pointer (some ⟨w.heap.size, 0, none⟩), .int .i64 W, .bool false, .bool false, .pointer (some ⟨w.heap.size, 1, none⟩), .int .i64 H, .bool false, .bool false, .bool false, .pointer (some ⟨w.heap.size, 0, none⟩), .int .i64 W, .bool false, .bool false, .bool false, .pointer (some ⟨w.heap.size, 1, none⟩), .int .i64 H, .bool false, .bool false, .bool false, .pointer (some ⟨w.heap.size, 2, none⟩), .slice pA px.length pc, .int .i64 px.length, .pointer (some ⟨w.heap.size, 0, none⟩), .int .i64 W, .pointer (some ⟨w.heap.size, 1, none⟩), .int .i64 H, .int .i64 (W * H), .bool false, .bool false, .pointer (some ⟨w.heap.size, 0, none⟩), .int .i64 W, .pointer (some ⟨w.heap.size, 1, none⟩), .int .i64 H, .func (.func 121) #[] #[.pointer (some ⟨w.heap.size + 1 + 1, 0, none⟩), .pointer (some ⟨w.heap.size + 1 + 1 + 1, 0, none⟩)], .int .i64 i.val, .agg #[.int .i64 (tileR W H i.val).x, .int .i64 (tileR W H i.val).y, .int .i64 (tileR W H i.val).w, .int .i64 (tileR W H i.val).h], undef, undef, undef, undef, undef, undef, undef, undef, undef, undef, undef, undef, undef, undef, undef, undef, undef, undef, undef, undef, undef, undef, undef, undef, undef, undef, undef, undef, undef, undef, undef, undef, undef, undef, undef, undef, undef, undef, undef, undef, undef, undef, undef, undef, undef, undef], defers := [] })
    (fun i a' => cells_turn _ _ _ _ _)
    ?assign ?body ?done ?stop
  case assign =>
    rintro m pre x W1 K ⟨hk, B, d, hO⟩ hK
    dsimp only [tileArgs]
    gi_wp2
    exact hK _ _ ((KeepsOthers.alloc _ _).from _) (KeptP.of_ext ((Ext.refl W1).alloc _)) ⟨((Ext.refl W1).alloc _).keep hk, B, d, hO.keep ((Ext.refl W1).alloc _)⟩ ⟨W1.heap.size, hO.size, blk_new W1 _, rfl⟩
  case body =>
    rintro m pre x a' Wd hl0 ⟨r0, hr0⟩ ⟨hk, B, d, hO⟩ ⟨Bx, hBx, kX, rfl⟩ hlt
    have hLn : (sumsOf W H px (pre.map Fin.val)).length ≤ 256 := by unfold sumsOf; rw [List.length_map, List.length_map]; omega
    have hsn := sumsOf_snoc W H px (pre.map Fin.val) x.val
    rw [show pre.map Fin.val ++ [x.val] = (pre ++ [x]).map Fin.val by simp] at hsn
    obtain ⟨L, hL⟩ : ∃ L, sumsOf W H px (pre.map Fin.val) = L := ⟨_, rfl⟩
    rw [hL] at hO hLn hsn
    obtain ⟨P, Q, _, _, p1, q1, hq⟩ := tileR_spec HSZ.out x.isLt
    obtain ⟨X, hX⟩ : ∃ X : Nat, X = P * 16 := ⟨_, rfl⟩
    obtain ⟨Y, hY⟩ : ∃ Y : Nat, Y = Q * 16 := ⟨_, rfl⟩
    obtain ⟨TW, hTW⟩ : ∃ n : Nat, (n : Int) = min 16 (W - (P : Int) * 16) := ⟨(min 16 (W - (P : Int) * 16)).toNat, by omega⟩
    obtain ⟨TH, hTH⟩ : ∃ n : Nat, (n : Int) = min 16 (H - (Q : Int) * 16) := ⟨(min 16 (H - (Q : Int) * 16)).toNat, by omega⟩
    obtain ⟨W', hW'⟩ : ∃ n : Nat, (n : Int) = W := ⟨W.toNat, by omega⟩
    obtain ⟨H', hH'⟩ : ∃ n : Nat, (n : Int) = H := ⟨H.toNat, by omega⟩
    rw [← hTW, ← hTH, show (P : Int) * 16 = (X : Int) by omega, show (Q : Int) * 16 = (Y : Int) by omega] at hq
    have hXW : X + TW ≤ W' := by omega
    have hYH : Y + TH ≤ H' := by omega
    have hXb : X ≤ 256 := by omega
    have hYb : Y ≤ 256 := by omega
    have hTW1 : 1 ≤ TW := by omega
    have hTWb : TW ≤ 16 := by omega
    have hTHb : TH ≤ 16 := by omega
    have hWb : W' ≤ 256 := by omega
    have hpn : px.length = W' * H' := by
      have := HLEN.out
      rw [← hW', ← hH', ← Int.natCast_mul] at this
      omega
    clear p1 q1 hX hY hTW hTH hH'
    subst hW'
    have hts : tileSum px (W' : Int).toNat (tileR W' H x.val) = (List.range TH).foldl (rowEat px W' ⟨X, Y, TW, TH⟩) 2166136261 := by rw [hq]; rfl
    rw [hts] at hsn
    obtain ⟨q, hqq⟩ : ∃ q : Rect, q = ⟨X, Y, TW, TH⟩ := ⟨_, rfl⟩
    rw [← hqq] at hsn
    have hrow : ∀ (j : Nat) (h0 : Int), rowEat px W' q h0 j = ((px.drop ((Y + j) * W' + X)).take TW).foldl eat3 h0 := fun j h0 => by rw [hqq]; rfl
    simp only [hq] at kX ⊢
    have hin : ∀ j, j < TH → (Y + j) * W' + X + TW ≤ px.length := fun j hj => by
      have h1 : (Y + j + 1) * W' ≤ H' * W' := Nat.mul_le_mul_right _ (by omega)
      rw [hpn, Nat.mul_comm W' H']
      rw [Nat.add_mul, Nat.one_mul] at h1
      omega
    have HIN := Lib.hid hin
    have HROW := Lib.hid hrow
    have HO := Lib.hid hO
    have HS := Lib.hid hsn
    have HKM := Lib.hid hk
    have HP := Lib.hid hp
    obtain ⟨cX, fX⟩ := blk_rules kX
    have zX := blk_lt kX
    clear hO hsn hL hq hts hqq hrow hin hpn hk hp
    gi_wp2
    clear cX fX zX
    gi_loopw [8] (fun yv wr => ∃ j : Nat, j ≤ TH ∧ yv = .int .i64 ((Y : Int) + (j : Int)) ∧ wr.heap[Wd.heap.size]? = some (.cells #[.int .u32 ((List.range j).foldl (rowEat px W' q) 2166136261)] 58 (0, 0)) ∧ Ext Wd wr) (fun yv _ => Y + TH - (intOf yv).toNat)
    case atStart => exact ⟨0, Nat.zero_le _, by simp, blk_new Wd _, (Ext.refl Wd).alloc _⟩
    case round =>
      obtain ⟨j, hj, rfl, kh, hE⟩ := hrel
      have kX2 := hE.keep kX
      have km2 := hE.keep HKM.out
      obtain ⟨cX, fX⟩ := blk_rules kX2
      obtain ⟨cM, fM⟩ := blk_rules km2
      have e1 : IntKind.i64.wrap ((Y : Int) + (TH : Int)) = (Y : Int) + (TH : Int) := IntWalk.i64_in _ (by omega)
      obtain ⟨h0, hh0⟩ : ∃ h0, (List.range j).foldl (rowEat px W' q) 2166136261 = h0 := ⟨_, rfl⟩
      rw [hh0] at kh
      have HH0 := Lib.hid hh0
      clear hh0
      by_cases hjl : j < TH
      · have hb := HIN.out j hjl
        obtain ⟨pb, po, rfl, hpc⟩ := (HP.out.ext (HO.out.ext.trans hE)).form (by omega)
        obtain ⟨a, ha⟩ : ∃ a, (Y + j) * W' + X = a := ⟨_, rfl⟩
        have hai : ((Y : Int) + (j : Int)) * (W' : Int) + (X : Int) = a := by rw [← ha]; simp
        rw [ha] at hb
        have b0n : 0 ≤ ((Y : Int) + (j : Int)) * (W' : Int) := Int.mul_nonneg (by omega) (by omega)
        have g1 : IntKind.i64.wrap (((Y : Int) + (j : Int)) * (W' : Int)) = ((Y : Int) + (j : Int)) * (W' : Int) := IntWalk.i64_in _ (by omega)
        have g2 : IntKind.i64.wrap (((Y : Int) + (j : Int)) * (W' : Int) + (X : Int)) = ((Y : Int) + (j : Int)) * (W' : Int) + (X : Int) := IntWalk.i64_in _ (by omega)
        have g3 : 0 ≤ ((Y : Int) + (j : Int)) * (W' : Int) + (X : Int) := by omega
        have g4 : ((Y : Int) + (j : Int)) * (W' : Int) + (X : Int) + (TW : Int) ≤ (pc : Int) := by omega
        have g5 : (((Y : Int) + (j : Int)) * (W' : Int) + (X : Int)).toNat = a := by omega
        have g6 : (((Y : Int) + (j : Int)) * (W' : Int) + (X : Int) + (TW : Int)).toNat - a = TW := by omega
        have g7 : ((Y : Int) + (j : Int)) * (W' : Int) + (X : Int) + (TW : Int) ≤ 65536 := by omega
        have hpa : ∀ W2, Ext Wd W2 → ∀ i, i < px.length → W2.cell? ⟨pb, po + i, none⟩ = some (.int .u32 (px.getD i 0)) := fun W2 h2 i hi => by
          obtain ⟨b', off', e', hc⟩ := HP.out.ext (HO.out.ext.trans h2) i hi
          injection e' with e'
          injection e' with e1' e2'
          subst e1'
          subst e2'
          exact hc
        have HPA := Lib.hid hpa
        have HHA := Lib.hid ha
        clear hpa
        have HPC := Lib.hid hpc
        have HHC := Lib.hid kh
        have c2 : ((Y : Int) + (j : Int) < (Y : Int) + (TH : Int)) := by omega
        clear hai ha hpc b0n
        gi_wp2
        clear cX fX cM fM g1 g2 g3 g4 g5 g6 g7 c2 kh
        gi_loopw [80] (fun kv wr => ∃ k : Nat, k ≤ TW ∧ kv = .int .i64 k ∧ wr.heap[Wd.heap.size]? = some (.cells #[.int .u32 (((px.drop a).take k).foldl eat3 h0)] 58 (0, 0)) ∧ Ext Wd wr) (fun kv _ => TW - (intOf kv).toNat)
        case atStart => exact ⟨0, Nat.zero_le _, rfl, by simpa using HHC.out, hE⟩
        case round =>
          obtain ⟨k, hk, rfl, kh2, hE2⟩ := hrel
          by_cases hkl : k < TW
          · have hcell := HPA.out wr hE2 (a + k) (by omega)
            have hst := foldl_take (px := px) (a := a) (k := k) (by omega) h0
            obtain ⟨c, hc⟩ : ∃ c, px.getD (a + k) 0 = c := ⟨_, rfl⟩
            rw [hc] at hcell hst
            rw [← Nat.add_assoc] at hcell
            obtain ⟨g, hg⟩ : ∃ g, ((px.drop a).take k).foldl eat3 h0 = g := ⟨_, rfl⟩
            rw [hg] at kh2 hst
            have hcon := eat_any c g Wd.heap.size wr kh2
            have HST := Lib.hid hst
            clear hc hg hst kh2
            gi_wp2
            refine ⟨trivial, (calls_in m hcon).mono ?_⟩
            rintro e W3 ⟨⟨v, rfl⟩, kh3, hg3⟩
            have hE3 : Ext Wd W3 := Below.grown hE2 hg3 hE2.size (fun r e => by injection e; omega)
            clear hcon hcell hg3
            gi_wp2
            go_roundw
            case rel => exact ⟨k + 1, by omega, by go_num, by rw [HST.out]; exact kh3, hE3⟩
            case measure => simp [intOf]; omega
          · obtain rfl : k = TW := by omega
            have hnx : (List.range (j + 1)).foldl (rowEat px W' q) 2166136261 = ((px.drop a).take k).foldl eat3 h0 := by
              rw [List.range_succ, List.foldl_append, HH0.out]
              show rowEat px W' q h0 j = _
              rw [HROW.out, HHA.out]
            have HNX := Lib.hid hnx
            have HKH := Lib.hid kh2
            clear hnx kh2
            gi_wp2
            go_roundw
            case rel => exact ⟨j + 1, by omega, by congr 1, by rw [HNX.out]; exact HKH.out, hE2⟩
            case measure => simp [intOf]; omega
      · obtain rfl : j = TH := by omega
        have kO2 := HO.out.keep hE
        obtain ⟨cO, fO⟩ := blk_rules kO2.kout
        obtain ⟨cH, fH⟩ := blk_rules kh
        have zO := blk_lt kO2.kout
        have hszw := kO2.size
        have HK2 := Lib.hid kO2
        clear kO2
        gi_wp2_with (first
          | (refine wpListIn_app w0.heap.size rfl (.tmp 88) (.tmp 90) 41 58 (.int .u32 0) 1 4 rfl Try.underlying41 info_u32 rfl (by decide) (by decide) (.slice B L.length d) L.length (nums .u32 L) rfl (World.ownsRow.alloc HK2.out.own _) (some ⟨wr.heap.size, 0, none⟩) 1 1 [.int .u32 h0] rfl (fun h => by cases h) rfl (fun _ => ⟨_, rfl, World.news_of_block (blk_new wr _)⟩) (by simp [Value.oneCell']) (by omega) (Nat.le_trans hszw (by simp)) (fun v' w5 hr5 hg5 => ?_); obtain ⟨B6, d6, rfl⟩ := row_slice hr5; obtain ⟨c8, f8⟩ := blk_rules (HO.out.below (hE.alloc _) hg5 HO.out.sb HO.out.kout)))
        have hr6 : w5.ownsRow w0.heap.size 58 1 (.slice B6 (L ++ [h0]).length d6) (L ++ [h0]).length (nums .u32 (L ++ [h0])) := by
          rw [List.length_append, show nums .u32 (L ++ [h0]) = nums .u32 L ++ [.int .u32 h0] by simp [nums]]
          exact hr5
        have hO6 := HO.out.row (hE.alloc _) hg5 hr6
        obtain ⟨hk6, hk7⟩ := HO.out.kept (hE.alloc _) hg5 (.slice B6 (L ++ [h0]).length d6)
        have hm6 := HO.out.below (hE.alloc _) hg5 (by omega) HKM.out
        rw [List.length_append] at hk6 hk7 hO6
        refine ⟨hk6.from _, hk7, blk_set_ne hm6 (by omega) _ _, B6, d6, ?_⟩
        rw [HS.out, HH0.out]
        exact hO6
  case done =>
    rintro D zs W1 hD hzs ⟨hk, B, d, hO⟩ hK
    obtain ⟨c3, f3⟩ := blk_rules hO.kout
    rw [hzs] at hO c3
    obtain ⟨F, hF⟩ : ∃ F, sumsOf W H px (List.range (tileN W H)) = F := ⟨_, rfl⟩
    rw [hF] at hO c3 ⊢
    have HOO := Lib.hid hO
    have HF := Lib.hid hF
    clear hO hF
    gi_wp2
    refine ⟨by simp, .inl ⟨_, _, rfl, run_takeDeferred hK, ?_⟩⟩
    have hg := grownBy_putObj' W1 D (.deferred none)
    have hr : ∀ r, some D = some r → ∃ o : Obj, W1.heap[r]? = some o ∧ o.isCells = false := fun r e => by cases e; exact ⟨_, hK, rfl⟩
    have hO2 := HOO.out.turn hg hr (fun r e => by injection e with e; omega)
    have hle : w.heap.size ≤ w0.heap.size := by omega
    have hrow2 := World.ownsRow.base_le hO2.own hle
    refine ⟨_, results_tmp rfl _ _ _, ?_⟩
    rw [HF.out]
    exact ⟨B, d, rfl, hrow2, hO2.ext⟩
  case stop =>
    rintro D c pre W1 _ _ h _
    exact h.elim
theorem sums_any (W H : Int) (pA : Option Addr) (pc : Nat) (px : List Int) (w : World) (hp : Reads .u32 w pA px) (hcap : px.length ≤ pc) : Calls Try.prog 47 #[.agg #[.int .i64 W, .int .i64 H, .slice pA px.length pc]] w (GivesU (sumsL W H px) w) := by
  unfold sumsL
  cases hok : sumsOk W H px
  · exact sums_bad W H pA pc px w hok
  · exact sums_good W H pA pc px w hp hcap hok
end Go.Proofs.Ytjghghbldifhaaa
