/- The walks of package pixbuf, the tenth part: Copy, where it copies. -/
import Derived.Test.YtilcggkbancniaaPixI
set_option linter.unusedVariables false
set_option linter.unusedSimpArgs false
namespace Go.Proofs.Ytilcggkbancniaa
open Go.RowKit Go.Shelf

theorem Own.readsAt {k : IntKind} {e : TypeId} {w : World} {base g n c : Nat} {xs : List Int} (h : Own k e w base (.slice (some ⟨g, 0, none⟩) n c) xs) : Reads k w (some ⟨g, 0, none⟩) xs := fun i hi => by
  refine ⟨g, 0, rfl, ?_⟩
  obtain ⟨A, c', hv, hr, _⟩ := h.reads
  injection hv with e1 e2 e3
  obtain ⟨b, off, e4, hc⟩ := hr i hi
  rw [← e1] at e4
  injection e4 with e4
  injection e4 with e5 e6
  subst e5; subst e6
  exact hc
theorem Rect.inside {F : Rect} {W H : Int} (h1 : F.empty = false) (h2 : Rect.within F ⟨0, 0, W, H⟩ = true) (w1 : 1 ≤ W) (w2 : W ≤ 256) (w3 : 1 ≤ H) (w4 : H ≤ 256) : 0 ≤ F.x ∧ 1 ≤ F.w ∧ F.x + F.w ≤ W ∧ 0 ≤ F.y ∧ 1 ≤ F.h ∧ F.y + F.h ≤ H := by
  have hand : Rect.and F ⟨0, 0, W, H⟩ = F := Rect.and_whole (x := F.x) (y := F.y) (a := F.w) (b := F.h) h1 h2
  rcases (Rect.and_in w1 w2 w3 w4 hand).1 with hz | hz
  · rw [hz] at h1; simp [Rect.zero, Rect.empty, Rect.area] at h1
  · exact hz
theorem partRows_pic {W H : Int} {F : Rect} {px : List Int} (w1 : 1 ≤ W) (w2 : W ≤ 256) (w3 : 1 ≤ H) (w4 : H ≤ 256) (hl : (px.length : Int) = W * H) (h1 : F.empty = false) (h2 : Rect.within F ⟨0, 0, W, H⟩ = true) : isPic F.w F.h (partRows W F (List.range F.h.toNat) px).length = true := by
  obtain ⟨r1, r2, r3, r4, r5, r6⟩ := Rect.inside h1 h2 w1 w2 w3 w4
  rw [partRows_length (fun j hj => by
    have := List.mem_range.1 hj
    exact rowAt_fits w1 w2 w3 w4 hl r1 r2 r3 r4 r6 (by omega)), List.length_range]
  have e : ((F.h.toNat * F.w.toNat : Nat) : Int) = F.w * F.h := by
    rw [Int.natCast_mul, Int.toNat_of_nonneg (by omega), Int.toNat_of_nonneg (by omega), Int.mul_comm]
  simp only [isPic, e, Bool.and_eq_true, decide_eq_true_eq]
  exact ⟨⟨⟨⟨r2, by omega⟩, r5⟩, by omega⟩, trivial⟩
theorem partRows_mem {W : Int} {F : Rect} {l : List Nat} {px : List Int} {v : Int} (h : v ∈ partRows W F l px) : v ∈ px := by
  unfold partRows at h
  obtain ⟨i, _, hi⟩ := List.mem_flatMap.1 h
  exact List.mem_of_mem_drop (List.mem_of_mem_take hi)
set_option maxRecDepth 100000 in
set_option maxHeartbeats 2000000 in
theorem copy_good {w : World} {base bb bp cap : Nat} {W H : Int} {px : List Int} (hB : BufAt 90 35 w base bb bp cap W H px) (x y a b dx dy : Int) (h1 : Rect.empty ⟨x, y, a, b⟩ = false) (h2 : farB dx = false) (h3 : farB dy = false) (h4 : Rect.within ⟨x, y, a, b⟩ ⟨0, 0, W, H⟩ = true) {F : Rect} (hF : Rect.shift ⟨x, y, a, b⟩ (-dx) (-dy) = F) (h5 : Rect.empty F = false) (h6 : Rect.within F ⟨0, 0, W, H⟩ = true) :
    Calls Try.prog 29 #[.pointer (some ⟨bb, 0, none⟩), .agg #[.int .i64 x, .int .i64 y, .int .i64 a, .int .i64 b, .int .i64 dx, .int .i64 dy]] w fun e w' => e = .returned (.int .i64 0) ∧ BufAt 90 35 w' base bb bp cap W H (blitRows W F.w x y (blitAt W H F.w F.h x y ⟨x, y, a, b⟩) ((partRows W F (List.range F.h.toNat) px).map cut24) (List.range (blitAt W H F.w F.h x y ⟨x, y, a, b⟩).h.toNat) px) ∧ w.grownBy w' (some bp) := by
  have he := fun w => empty_any x y a b w
  simp only [h1] at he
  have hfx := far_any dx
  have hfy := far_any dy
  have hi := fun w => in_any x y a b 0 0 W H w
  simp only [h2] at hfx
  simp only [h3] at hfy
  simp only [h4] at hi
  go_enter Try.func29, Try.ntmps29
  go_wp2_with fail
  refine (he _).mono ?_
  rintro e w1 ⟨rfl, hb⟩
  obtain ⟨k0, hE⟩ := ext1 hb
  obtain ⟨c0, f0⟩ := blk_rules k0
  have j0 := After.blk k0
  have hB1 := hB.ext hE
  clear hb he
  go_wp2_with fail
  refine wp_region_after (by kernel_rfl) (by kernel_rfl) ?_
  repeat (go_big_quiet_step (first | with_reducible exact Calls.after_same (hfx _) | with_reducible exact Calls.after_same (hfy _) | with_reducible exact Calls.after (hi _) | exact Calls.after (all_any (hB1.ext (After.ext _)))))
  refine wpQuiet_nil ?_
  intro _ hw'
  obtain ⟨q, rfl⟩ := hw'
  have hE2 := Ext.trans hE q.ext
  clear c0 f0 j0 hfx hfy hi
  replace k0 := q.ext.keep k0
  obtain ⟨c0, f0⟩ := blk_rules k0
  replace hB1 := hB.ext hE2
  obtain ⟨hx1, hx2⟩ := farB_iff.1 h2
  obtain ⟨hy1, hy2⟩ := farB_iff.1 h3
  have nx : IntKind.i64.wrap (-dx) = -dx := IntWalk.i64_in _ (by omega)
  have ny : IntKind.i64.wrap (-dy) = -dy := IntWalk.i64_in _ (by omega)
  have cF := fun w => shift_any x y a b (-dx) (-dy) w
  simp only [hF] at cF
  generalize q.now = w2 at *
  go_wp2_with fail
  refine (cF _).mono ?_
  rintro e w3 ⟨rfl, hb⟩
  clear c0 f0
  have kF := blk_new w3 (.cells #[.int .i64 F.x, .int .i64 F.y, .int .i64 F.w, .int .i64 F.h] 38)
  replace k0 := hb.keep k0
  have k0' := blk_old k0 (.cells #[.int .i64 F.x, .int .i64 F.y, .int .i64 F.w, .int .i64 F.h] 38)
  obtain ⟨c0, f0⟩ := blk_rules k0
  have hE3 := (hE2.trans hb).alloc (.cells #[.int .i64 F.x, .int .i64 F.y, .int .i64 F.w, .int .i64 F.h] 38)
  have hB3 := hB.ext hE3
  clear hb hB1
  go_wp2_with fail
  refine (part_good hB3 F.x F.y F.w F.h h5 h6).mono ?_
  rintro e w4 ⟨g, c, rfl, ho, hb⟩
  have hE4 := hE3.trans hb
  replace k0 := hb.keep k0'
  have hB4 := hB.ext hE4
  clear c0 f0
  obtain ⟨c0, f0⟩ := blk_rules (blk_old k0 (.cells #[.int .i64 F.w, .int .i64 F.h, .slice (some ⟨g, 0, none⟩) (partRows W F (List.range F.h.toNat) px).length c] 24))
  have hE5 := hE4.alloc (.cells #[.int .i64 F.w, .int .i64 F.h, .slice (some ⟨g, 0, none⟩) (partRows W F (List.range F.h.toNat) px).length c] 24)
  have hB5 := hB.ext hE5
  have ho5 : Own .u32 35 _ _ _ _ := ho.ext ((Ext.refl w4).alloc (.cells #[.int .i64 F.w, .int .i64 F.h, .slice (some ⟨g, 0, none⟩) (partRows W F (List.range F.h.toNat) px).length c] 24))
  clear hb
  go_wp2_with fail
  refine (blit_good hB5 x y F.w F.h _ c (partRows W F (List.range F.h.toNat) px) x y a b (partRows_pic hB.w1 hB.w2 hB.h1 hB.h2 hB.len h5 h6) ho5.readsAt (fun v hv => by have := hB.pix v (partRows_mem hv); omega)).mono ?_
  rintro e w5 ⟨rfl, hB6, hg⟩
  go_wp2
  go_ret
  exact ⟨rfl, hB6, (Ext.grow hE5 _).trans hg⟩
end Go.Proofs.Ytilcggkbancniaa
