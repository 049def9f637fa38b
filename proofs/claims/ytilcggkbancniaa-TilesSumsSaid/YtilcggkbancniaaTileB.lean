/- tiles.Grid. -/
import Derived.Test.YtilcggkbancniaaTileA
set_option linter.unusedVariables false
set_option linter.unusedSimpArgs false
namespace Go.Proofs.Ytilcggkbancniaa
open Go.RowKit Go.Shelf
attribute [local go_sem] Oper.semAt_some

/-- A list that is put together in a box, by a range over a function. -/
structure OutAt (w W : World) (s bs : Nat) (L : List Rect) (B : Option Addr) (d : Nat) : Prop where
  kout : W.heap[s]? = some (.cells #[.slice B L.length d] 65 (0, 0))
  own : OwnR W bs (.slice B L.length d) L
  sb : s < bs
  ws : w.heap.size ≤ s
  ext : Ext w W
  size : bs ≤ W.heap.size
section
variable {w W W2 W3 : World} {s bs d d5 : Nat} {L O5 : List Rect} {B B5 : Option Addr}
theorem OutAt.keep (h : OutAt w W s bs L B d) (hE : Ext W W2) : OutAt w W2 s bs L B d :=
  ⟨hE.keep h.kout, row_keep h.own hE, h.sb, h.ws, h.ext.trans hE, Nat.le_trans h.size hE.size⟩
theorem OutAt.turn (h : OutAt w W s bs L B d) {row : Option Nat} (hg : W.grownBy W2 row) (hr : ∀ r, row = some r → ∃ o : Obj, W.heap[r]? = some o ∧ o.isCells = false) (hb : ∀ r, row = some r → w.heap.size ≤ r) : OutAt w W2 s bs L B d :=
  ⟨heap_turn hg hr h.kout, row_turn hg hr h.own, h.sb, h.ws, Below.grown h.ext hg h.ext.size hb, Nat.le_trans h.size hg.size⟩
theorem OutAt.row (h : OutAt w W s bs L B d) (hE : Ext W W2) (hg : W2.grownBy W3 (Value.slice B L.length d).ownBlock) (hr : OwnR W3 bs (.slice B5 O5.length d5) O5) :
    OutAt w (W3.setCell ⟨s, 0, none⟩ (.slice B5 O5.length d5)) s bs O5 B5 d5 := by
  have h2 := h.keep hE
  have hsb := h.sb
  have hws := h.ws
  have hb : ∀ r, (Value.slice B L.length d).ownBlock = some r → bs ≤ r := fun r e => (World.ownsRow.lt h.own r e).1
  have hkeep : ∀ {k : Nat} {o : Obj}, k < bs → W2.heap[k]? = some o → W3.heap[k]? = some o := fun {k o} hk ho => (hg.block k (blk_lt ho) (fun e => by have := hb k e.symm; omega)).trans ho
  refine ⟨by simpa using blk_set (hkeep hsb h2.kout) 0 (.slice B5 O5.length d5), row_below hr (grown_set _ _ _ _) hsb, hsb, hws, ?_, ?_⟩
  · have hx : Ext w W3 := Below.grown h2.ext hg h2.ext.size (fun r e => by have := hb r e; omega)
    exact hx.set (p := ⟨s, 0, none⟩) (by dsimp only; omega) _
  · have : (W3.setCell ⟨s, 0, none⟩ (.slice B5 O5.length d5)).heap.size = W3.heap.size := by simp [World.setCell]
    rw [this]
    exact Nat.le_trans h2.size hg.size
/-- What such a round leaves as it was. -/
theorem OutAt.kept (h : OutAt w W s bs L B d) (hE : Ext W W2) (hg : W2.grownBy W3 (Value.slice B L.length d).ownBlock) (v : Value) : KeepsOthers W (W3.setCell ⟨s, 0, none⟩ v) ∧ KeptP (fun k => s < k ∧ k < bs) W (W3.setCell ⟨s, 0, none⟩ v) := by
  refine ⟨((KeepsOthers.of_ext hE).trans (KeepsOthers.of_grownBy hg (row_cells (row_keep h.own hE)))).trans (KeepsOthers.setCell _ _ _), ((KeptP.of_ext hE).trans (KeptP.of_grown hg fun r e hr => ?_)).trans (KeptP.set (fun hr => ?_) _ _)⟩
  · have := (World.ownsRow.lt h.own r e).1
    omega
  · omega
end

theorem tileN_bd (w h : Int) : tileN w h ≤ 256 := by
  unfold tileN
  split
  · rename_i hok
    obtain ⟨⟨w1, w2⟩, w3, w4⟩ := sizeOk_iff.1 hok
    exact Nat.mul_le_mul (tilesIn_bd w1 w2).2.1 (tilesIn_bd w3 w4).2.1
  · omega
/-- The iterator's contract, as the law of the range asks it. -/
theorem each_stops (n : Nat) (hn : 1 ≤ n) (Y Z : Nat) (w h : Int) (W0 : World) (p : Nat → Prop) (hp1 : p Y) (hp2 : p Z) (kY : W0.heap[Y]? = some (.cells #[.int .i64 w] 3 (0, 0))) (kZ : W0.heap[Z]? = some (.cells #[.int .i64 h] 3 (0, 0))) :
    SeqStopsK Fence.wide n Try.prog 116 #[.pointer (some ⟨Y, 0, none⟩), .pointer (some ⟨Z, 0, none⟩)] (fun i : Fin (tileN w h) => tileArgs w h i.val) (KeptP p) (fun zs => zs.map Fin.val = List.range (tileN w h)) (fun _ => True) (tileN w h) W0 := by
  intro l J Jx W1 hW hJ _ hY h0
  refine (each1_in n hn l Y Z w h _ rfl J Jx W1 p hp1 hp2 hJ hY (Ext.keep hW kY) (Ext.keep hW kZ) h0).mono ?_
  rintro e W' ⟨he, ⟨zs, h1, h2⟩ | ⟨pre, h2⟩⟩
  · exact ⟨he, .inl ⟨zs, h1, h2⟩⟩
  · exact ⟨he, .inr ⟨pre, trivial, h2⟩⟩
theorem cells_turn (B : Nat) (q : Nat → Prop) (r : Rect) (mk : Nat → Act) (a' : Act) : OwnFrom B (fun (_ : Unit) W => ∃ Bx, q Bx ∧ W.heap[Bx]? = some (.cells #[.int .i64 r.x, .int .i64 r.y, .int .i64 r.w, .int .i64 r.h] 38 (0, 0)) ∧ a' = mk Bx) := fun _ W W' row hs hg hr => by
  obtain ⟨Bx, h1, h2, h3⟩ := hs
  exact ⟨Bx, h1, heap_turn hg (fun r e => (hr r e).2) h2, h3⟩

set_option maxRecDepth 100000 in
set_option maxHeartbeats 4000000 in
theorem grid_any (wd ht : Int) (w : World) : Calls Try.prog 62 #[.int .i64 wd, .int .i64 ht] w (GivesR (gridOf wd ht) w) := by
  refine (callsIn_wide (n := 5)).1 ?_
  refine callsIn_of_wp_marks Try.func62 rfl trivial ?_ rfl
  simp only [Try.ntmps62, List.size_toArray, List.length_cons, List.length_nil, Nat.reduceAdd, Nat.reduceSub, Array.replicate_succ, Array.replicate_zero, List.push_toArray, List.append_toArray, List.nil_append, List.cons_append]
  gi_wp2
  refine ⟨trivial, (callsIn_wide.2 (each_any wd ht _)).mono ?_⟩
  rintro e w1 ⟨rfl, rfl⟩
  gi_wp2
  generalize hw0 : ((w.alloc (.cells #[.slice none 0 0] 65)).alloc (.cells #[.int .i64 wd] 3)).alloc (.cells #[.int .i64 ht] 3) = w0
  have k0 : w0.heap[w.heap.size]? = some (.cells #[.slice none 0 0] 65 (0, 0)) := by rw [← hw0]; exact blk_old (blk_old (blk_newL w [] (.cells #[.slice none 0 0] 65)) _) _
  have k1 : w0.heap[w.heap.size + 1]? = some (.cells #[.int .i64 wd] 3 (0, 0)) := by rw [← hw0]; exact blk_old (blk_newL w [(.cells #[.slice none 0 0] 65)] (.cells #[.int .i64 wd] 3)) _
  have k2 : w0.heap[w.heap.size + 1 + 1]? = some (.cells #[.int .i64 ht] 3 (0, 0)) := by rw [← hw0]; exact blk_newL w [(.cells #[.slice none 0 0] 65), (.cells #[.int .i64 wd] 3)] (.cells #[.int .i64 ht] 3)
  have hs0 : w0.heap.size = w.heap.size + 3 := by rw [← hw0]; simp
  have hE0 : Ext w w0 := by rw [← hw0]; exact (((Ext.refl w).alloc _).alloc _).alloc _
  have hO0 : OutAt w w0 w.heap.size w0.heap.size [] none 0 := ⟨k0, World.ownsRow_nil _ _ _ _, by omega, Nat.le_refl _, hE0, Nat.le_refl _⟩
  have hNb := tileN_bd wd ht
  clear hw0
  refine wpIn_rangeFunc_ownH (F := Fence.wide) (n := 5) (α := Fin (tileN wd ht)) rfl (by decide) (gf := 116) (lb := #[.pointer (some ⟨w.heap.size + 1, 0, none⟩), .pointer (some ⟨w.heap.size + 1 + 1, 0, none⟩)]) rfl trivial (enters_of Try.func116 (by kernel_rfl) rfl)
    (each_stops 4 (by decide) _ _ wd ht w0 (fun k => w.heap.size < k ∧ k < w0.heap.size) (by omega) (by omega) k1 k2) KeptP.trans (fun W l o o' _ h ho _ => keptP_b _ W l o o' h ho) (Below.refl _ _) (fun _ => rfl)
    (fun pre W1 => ∃ B d, OutAt w W1 w.heap.size w0.heap.size ((pre.map Fin.val).map (tileR wd ht)) B d)
    (fun _ _ _ => False)
    (fun s A' B' row hs hg hr => by
      obtain ⟨B, d, hs⟩ := hs
      exact ⟨B, d, hs.turn hg (fun r e => (hr r e).2) (fun r e => Nat.le_trans (by omega) (hr r e).1)⟩)
    (fun _ _ _ _ _ hs _ _ => hs)
    ⟨none, 0, hO0⟩
    (fun i a' W => ∃ Bx, w0.heap.size ≤ Bx ∧ W.heap[Bx]? = some (.cells #[.int .i64 (tileR wd ht i.val).x, .int .i64 (tileR wd ht i.val).y, .int .i64 (tileR wd ht i.val).w, .int .i64 (tileR wd ht i.val).h] 38 (0, 0)) ∧ a' = { tmps := #[.int .i64 wd, .int .i64 ht, undef, undef, .slice none 0 0, .pointer (some ⟨w.heap.size, 0, none⟩), undef, .pointer (some ⟨Bx, 0, none⟩), .int .i64 wd, .int .i64 ht, .func (.func 116) #[] #[.pointer (some ⟨w.heap.size + 1, 0, none⟩), .pointer (some ⟨w.heap.size + 1 + 1, 0, none⟩)], .int .i64 i.val, .agg #[.int .i64 (tileR wd ht i.val).x, .int .i64 (tileR wd ht i.val).y, .int .i64 (tileR wd ht i.val).w, .int .i64 (tileR wd ht i.val).h], undef, undef, undef, undef, undef], defers := [] })
    (fun i a' => cells_turn _ _ _ _ _)
    ?assign ?body ?done ?stop
  case assign =>
    rintro l pre x W K ⟨B, d, hO⟩ hK
    dsimp only [tileArgs]
    gi_wp2
    exact hK _ _ ((KeepsOthers.alloc _ _).from _) (KeptP.of_ext ((Ext.refl W).alloc _)) ⟨B, d, hO.keep ((Ext.refl W).alloc _)⟩ ⟨W.heap.size, hO.size, blk_new W _, rfl⟩
  case body =>
    rintro l pre x a' W hl0 ⟨r0, hr0⟩ ⟨B, d, hO⟩ ⟨Bx, hBx, kX, rfl⟩ hlt
    obtain ⟨L, hL⟩ : ∃ L, (pre.map Fin.val).map (tileR wd ht) = L := ⟨_, rfl⟩
    have hLn : L.length ≤ 256 := by rw [← hL, List.length_map, List.length_map]; omega
    have hsn : (((pre ++ [x]).map Fin.val).map (tileR wd ht)) = L ++ [tileR wd ht x.val] := by
      rw [List.map_append, List.map_append, hL]
      rfl
    rw [hL] at hO
    obtain ⟨q, hq⟩ : ∃ q, tileR wd ht x.val = q := ⟨_, rfl⟩
    rw [hq] at hsn
    simp only [hq] at kX ⊢
    have HO := Lib.hid hO
    have HS := Lib.hid hsn
    obtain ⟨c3, f3⟩ := blk_rules hO.kout
    obtain ⟨cX, fX⟩ := blk_rules kX
    have z3 := blk_lt hO.kout
    have zX := blk_lt kX
    clear hO hsn hL hq
    gi_wp2_with (first
      | (refine wpListIn_app w0.heap.size rfl (.tmp 13) (.tmp 15) 65 38 (.agg #[.int .i64 0, .int .i64 0, .int .i64 0, .int .i64 0]) 4 32 rfl Try.underlying65 info_rect rfl (by decide) (by decide) (.slice B L.length d) L.length (rcells L) rfl (World.ownsRow.alloc HO.out.own _) (some ⟨W.heap.size, 0, none⟩) 1 1 (rcell q) rfl (fun h => by cases h) rfl (fun _ => ⟨_, rfl, World.news_of_block (blk_new W _)⟩) (by simp [rcell, Value.oneCell']) (by omega) (Nat.le_trans HO.out.size (by simp)) (fun v' w5 hr5 hg5 => ?_); obtain ⟨B6, d6, rfl⟩ := row_slice hr5; obtain ⟨c8, f8⟩ := blk_rules ((hg5.block _ (Nat.lt_of_lt_of_le (blk_lt HO.out.kout) (by simp)) (fun e => by have := (World.ownsRow.lt HO.out.own _ e.symm).1; have := HO.out.sb; omega)).trans (blk_old HO.out.kout _))))
    have hr6 : OwnR w5 w0.heap.size (.slice B6 (L ++ [q]).length d6) (L ++ [q]) := by
      unfold OwnR
      rw [List.length_append, rcells_snoc]
      exact hr5
    have hO6 := HO.out.row ((Ext.refl W).alloc _) hg5 hr6
    obtain ⟨hk6, hk7⟩ := HO.out.kept ((Ext.refl W).alloc _) hg5 (.slice B6 (L ++ [q]).length d6)
    rw [List.length_append] at hk6 hk7 hO6
    refine ⟨hk6.from _, hk7, B6, d6, ?_⟩
    rw [HS.out]
    exact hO6
  case done =>
    rintro D zs W1 hD hzs ⟨B, d, hO⟩ hK
    obtain ⟨c3, f3⟩ := blk_rules hO.kout
    have hst : (zs.map Fin.val).map (tileR wd ht) = gridOf wd ht := by rw [hzs]; rfl
    have hown := hO.own
    rw [hst] at c3 hown
    have HOW := Lib.hid hown
    have HOO := Lib.hid hO
    clear hst hown hO
    gi_wp2
    refine ⟨by simp, .inl ⟨_, _, rfl, run_takeDeferred hK, ?_⟩⟩
    have hg := grownBy_putObj' W1 D (.deferred none)
    have hr : ∀ r, some D = some r → ∃ o : Obj, W1.heap[r]? = some o ∧ o.isCells = false := fun r e => by cases e; exact ⟨_, hK, rfl⟩
    have hO2 := HOO.out.turn hg hr (fun r e => by cases e; omega)
    have hown2 := row_turn hg hr HOW.out
    exact ⟨_, results_tmp rfl _ _ _, B, d, rfl, World.ownsRow.base_le hown2 (by omega), fun e => (row_nil_of hown2 e).1, hO2.ext⟩
  case stop =>
    rintro D c pre W1 _ _ h _
    exact h.elim
end Go.Proofs.Ytilcggkbancniaa
