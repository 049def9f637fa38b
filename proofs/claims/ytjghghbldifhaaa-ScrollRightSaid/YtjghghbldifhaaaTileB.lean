/- tiles.Grid. -/
import Derived.Test.YtjghghbldifhaaaTileA
import Derived.Test.YtjghghbldifhaaaOutA
set_option linter.unusedVariables false
set_option linter.unusedSimpArgs false
namespace Go.Proofs.Ytjghghbldifhaaa
open Go.RowKit Go.Shelf
attribute [local go_sem] Oper.semAt_some

theorem tileN_bd (w h : Int) : tileN w h ≤ 256 := by
  unfold tileN
  split
  · rename_i hok
    obtain ⟨⟨w1, w2⟩, w3, w4⟩ := sizeOk_iff.1 hok
    exact Nat.mul_le_mul (tilesIn_bd w1 w2).2.1 (tilesIn_bd w3 w4).2.1
  · omega
/-- The iterator's contract, as the law of the range asks it. -/
theorem each_stops (n : Nat) (hn : 1 ≤ n) (Y Z : Nat) (w h : Int) (W0 : World) (p : Nat → Prop) (hp1 : p Y) (hp2 : p Z) (kY : W0.heap[Y]? = some (.cells #[.int .i64 w] 3 (0, 0))) (kZ : W0.heap[Z]? = some (.cells #[.int .i64 h] 3 (0, 0))) :
    SeqStopsK Fence.wide n Try.prog 121 #[.pointer (some ⟨Y, 0, none⟩), .pointer (some ⟨Z, 0, none⟩)] (fun i : Fin (tileN w h) => tileArgs w h i.val) (KeptP p) (fun zs => zs.map Fin.val = List.range (tileN w h)) (fun _ => True) (tileN w h) W0 := by
  intro l J Jx W1 hW hJ _ hY h0
  refine (each1_in n hn l Y Z w h _ rfl J Jx W1 p hp1 hp2 hJ hY (Ext.keep hW kY) (Ext.keep hW kZ) h0).mono ?_
  rintro e W' ⟨he, ⟨zs, h1, h2⟩ | ⟨pre, h2⟩⟩
  · exact ⟨he, .inl ⟨zs, h1, h2⟩⟩
  · exact ⟨he, .inr ⟨pre, trivial, h2⟩⟩
theorem cells_turn (B : Nat) (q : Nat → Prop) (r : Rect) (mk : Nat → Act) (a' : Act) : OwnFrom B (fun (_ : Unit) W => ∃ Bx, q Bx ∧ W.heap[Bx]? = some (.cells #[.int .i64 r.x, .int .i64 r.y, .int .i64 r.w, .int .i64 r.h] 26 (0, 0)) ∧ a' = mk Bx) := fun _ W W' row hs hg hr => by
  obtain ⟨Bx, h1, h2, h3⟩ := hs
  exact ⟨Bx, h1, heap_turn hg (fun r e => (hr r e).2) h2, h3⟩

set_option maxRecDepth 100000 in
set_option maxHeartbeats 4000000 in
theorem grid_any (wd ht : Int) (w : World) : Calls Try.prog 39 #[.int .i64 wd, .int .i64 ht] w (GivesR (gridOf wd ht) w) := by
  refine (callsIn_wide (n := 5)).1 ?_
  refine callsIn_of_wp_marks Try.func39 rfl trivial ?_ rfl
  simp only [Try.ntmps39, List.size_toArray, List.length_cons, List.length_nil, Nat.reduceAdd, Nat.reduceSub, Array.replicate_succ, Array.replicate_zero, List.push_toArray, List.append_toArray, List.nil_append, List.cons_append]
  gi_wp2
  refine ⟨trivial, (callsIn_wide.2 (each_any wd ht _)).mono ?_⟩
  rintro e w1 ⟨rfl, rfl⟩
  gi_wp2
  generalize hw0 : ((w.alloc (.cells #[.slice none 0 0] 22)).alloc (.cells #[.int .i64 wd] 3)).alloc (.cells #[.int .i64 ht] 3) = w0
  have k0 : w0.heap[w.heap.size]? = some (.cells #[.slice none 0 0] 22 (0, 0)) := by rw [← hw0]; exact blk_old (blk_old (blk_newL w [] (.cells #[.slice none 0 0] 22)) _) _
  have k1 : w0.heap[w.heap.size + 1]? = some (.cells #[.int .i64 wd] 3 (0, 0)) := by rw [← hw0]; exact blk_old (blk_newL w [(.cells #[.slice none 0 0] 22)] (.cells #[.int .i64 wd] 3)) _
  have k2 : w0.heap[w.heap.size + 1 + 1]? = some (.cells #[.int .i64 ht] 3 (0, 0)) := by rw [← hw0]; exact blk_newL w [(.cells #[.slice none 0 0] 22), (.cells #[.int .i64 wd] 3)] (.cells #[.int .i64 ht] 3)
  have hs0 : w0.heap.size = w.heap.size + 3 := by rw [← hw0]; simp
  have hE0 : Ext w w0 := by rw [← hw0]; exact (((Ext.refl w).alloc _).alloc _).alloc _
  have hO0 : OutAt w w0 w.heap.size w0.heap.size [] none 0 := ⟨k0, World.ownsRow_nil _ _ _ _, by omega, Nat.le_refl _, hE0, Nat.le_refl _⟩
  have hNb := tileN_bd wd ht
  clear hw0
  refine wpIn_rangeFunc_ownH (F := Fence.wide) (n := 5) (α := Fin (tileN wd ht)) rfl (by decide) (gf := 121) (lb := #[.pointer (some ⟨w.heap.size + 1, 0, none⟩), .pointer (some ⟨w.heap.size + 1 + 1, 0, none⟩)]) rfl trivial (enters_of Try.func121 (by kernel_rfl) rfl)
    (each_stops 4 (by decide) _ _ wd ht w0 (fun k => w.heap.size < k ∧ k < w0.heap.size) (by omega) (by omega) k1 k2) KeptP.trans (fun W l o o' _ h ho _ => keptP_b _ W l o o' h ho) (Below.refl _ _) (fun _ => rfl)
    (fun pre W1 => ∃ B d, OutAt w W1 w.heap.size w0.heap.size ((pre.map Fin.val).map (tileR wd ht)) B d)
    (fun _ _ _ => False)
    (fun s A' B' row hs hg hr => by
      obtain ⟨B, d, hs⟩ := hs
      exact ⟨B, d, hs.turn hg (fun r e => (hr r e).2) (fun r e => Nat.le_trans (by omega) (hr r e).1)⟩)
    (fun _ _ _ _ _ hs _ _ => hs)
    ⟨none, 0, hO0⟩
    (fun i a' W => ∃ Bx, w0.heap.size ≤ Bx ∧ W.heap[Bx]? = some (.cells #[.int .i64 (tileR wd ht i.val).x, .int .i64 (tileR wd ht i.val).y, .int .i64 (tileR wd ht i.val).w, .int .i64 (tileR wd ht i.val).h] 26 (0, 0)) ∧ a' = { tmps := #[.int .i64 wd, .int .i64 ht, undef, undef, .slice none 0 0, .pointer (some ⟨w.heap.size, 0, none⟩), undef, .pointer (some ⟨Bx, 0, none⟩), .int .i64 wd, .int .i64 ht, .func (.func 121) #[] #[.pointer (some ⟨w.heap.size + 1, 0, none⟩), .pointer (some ⟨w.heap.size + 1 + 1, 0, none⟩)], .int .i64 i.val, .agg #[.int .i64 (tileR wd ht i.val).x, .int .i64 (tileR wd ht i.val).y, .int .i64 (tileR wd ht i.val).w, .int .i64 (tileR wd ht i.val).h], undef, undef, undef, undef, undef], defers := [] })
    (fun i a' => cells_turn _ _ _ _ _)
    ?assign ?body ?done ?stop
  case assign =>
    rintro l pre x W K ⟨B, d, hO⟩ hK
    dsimp only [tileArgs]
    gi_wp2
    exact hK _ _ ((KeepsOthers.alloc _ _).from _) (KeptP.of_ext ((Ext.refl W).alloc _)) ⟨B, d, hO.keep ((Ext.refl W).alloc _)⟩ ⟨W.heap.size, hO.size, blk_new W _, rfl⟩
  case body =>
    rintro l pre x a' W hl0 ⟨r0, hr0⟩ ⟨B, d, hO⟩ ⟨Bx, hBx, kX, rfl⟩ hlt
    obtain ⟨L, hL⟩ : ∃ L, (pre.map Fin.val).map (tileR wd ht) = L := ⟨_, rfl⟩
    have hLn : L.length ≤ 256 := by rw [← hL, List.length_map, List.length_map]; omega
    have hsn : (((pre ++ [x]).map Fin.val).map (tileR wd ht)) = L ++ [tileR wd ht x.val] := by
      rw [List.map_append, List.map_append, hL]
      rfl
    rw [hL] at hO
    obtain ⟨q, hq⟩ : ∃ q, tileR wd ht x.val = q := ⟨_, rfl⟩
    rw [hq] at hsn
    simp only [hq] at kX ⊢
    have HO := Lib.hid hO
    have HS := Lib.hid hsn
    obtain ⟨c3, f3⟩ := blk_rules hO.kout
    obtain ⟨cX, fX⟩ := blk_rules kX
    have z3 := blk_lt hO.kout
    have zX := blk_lt kX
    clear hO hsn hL hq
    gi_wp2_with (first
      | (refine wpListIn_app w0.heap.size rfl (.tmp 13) (.tmp 15) 22 26 (.agg #[.int .i64 0, .int .i64 0, .int .i64 0, .int .i64 0]) 4 32 rfl Try.underlying22 info_rect rfl (by decide) (by decide) (.slice B L.length d) L.length (rcells L) rfl (World.ownsRow.alloc HO.out.own _) (some ⟨W.heap.size, 0, none⟩) 1 1 (rcell q) rfl (fun h => by cases h) rfl (fun _ => ⟨_, rfl, World.news_of_block (blk_new W _)⟩) (by simp [rcell, Value.oneCell']) (by omega) (Nat.le_trans HO.out.size (by simp)) (fun v' w5 hr5 hg5 => ?_); obtain ⟨B6, d6, rfl⟩ := row_slice hr5; obtain ⟨c8, f8⟩ := blk_rules ((hg5.block _ (Nat.lt_of_lt_of_le (blk_lt HO.out.kout) (by simp)) (fun e => by have := (World.ownsRow.lt HO.out.own _ e.symm).1; have := HO.out.sb; omega)).trans (blk_old HO.out.kout _))))
    have hr6 : OwnR w5 w0.heap.size (.slice B6 (L ++ [q]).length d6) (L ++ [q]) := by
      unfold OwnR
      rw [List.length_append, rcells_snoc]
      exact hr5
    have hO6 := HO.out.row ((Ext.refl W).alloc _) hg5 hr6
    obtain ⟨hk6, hk7⟩ := HO.out.kept ((Ext.refl W).alloc _) hg5 (.slice B6 (L ++ [q]).length d6)
    rw [List.length_append] at hk6 hk7 hO6
    refine ⟨hk6.from _, hk7, B6, d6, ?_⟩
    rw [HS.out]
    exact hO6
  case done =>
    rintro D zs W1 hD hzs ⟨B, d, hO⟩ hK
    obtain ⟨c3, f3⟩ := blk_rules hO.kout
    have hst : (zs.map Fin.val).map (tileR wd ht) = gridOf wd ht := by rw [hzs]; rfl
    have hown := hO.own
    rw [hst] at c3 hown
    have HOW := Lib.hid hown
    have HOO := Lib.hid hO
    clear hst hown hO
    gi_wp2
    refine ⟨by simp, .inl ⟨_, _, rfl, run_takeDeferred hK, ?_⟩⟩
    have hg := grownBy_putObj' W1 D (.deferred none)
    have hr : ∀ r, some D = some r → ∃ o : Obj, W1.heap[r]? = some o ∧ o.isCells = false := fun r e => by cases e; exact ⟨_, hK, rfl⟩
    have hO2 := HOO.out.turn hg hr (fun r e => by cases e; omega)
    have hown2 := row_turn hg hr HOW.out
    exact ⟨_, results_tmp rfl _ _ _, B, d, rfl, World.ownsRow.base_le hown2 (by omega), fun e => (row_nil_of hown2 e).1, hO2.ext⟩
  case stop =>
    rintro D c pre W1 _ _ h _
    exact h.elim
end Go.Proofs.Ytjghghbldifhaaa
