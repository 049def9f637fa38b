/- Package pixbuf: no buffer. Printed by gen_pixn.py. -/
/- The law PixbufNil: no buffer has no picture. -/
import Derived.Test.YtjghghbldifhaaaPixK
import Derived.Test.YtjghghbldifhaaaActB
set_option linter.unusedVariables false
set_option linter.unusedSimpArgs false
namespace Go.Proofs.Ytjghghbldifhaaa
open Go.RowKit Go.Shelf
attribute [local go_sem] Oper.semAt_some
theorem eq_nil_ptr (a : Addr) (w : World) : (binOp .eql 60 (.pointer none) (.pointer (some a))).run Try.prog w = .ok (.bool false) w := by
  have hp : Try.prog.underlying 60 = some (.pointer 117) := Try.underlying60
  have h : ∀ d : Nat, (Op.equalIn (d + 1) 60 (.pointer none) (.pointer (some a))).run Try.prog w = .ok false w := fun d => by
    simp [Op.equalIn, run_underlying hp, sizeOf, typeInfo]
  simp only [binOp]
  simp [Op.equal, Op.maxDepth, h 9999]
attribute [local go_sem ↓] eq_nil_ptr
set_option maxRecDepth 100000 in
theorem w_nil  (w : World) : Calls Try.prog 55 #[.pointer none] w fun e w' => e = .returned (.int .i64 0) ∧ w = w' := by
  go_enter Try.func55, Try.ntmps55
  go_wp2_with fail
  go_ret
  exact ⟨rfl, rfl⟩
set_option maxRecDepth 100000 in
theorem h_nil  (w : World) : Calls Try.prog 56 #[.pointer none] w fun e w' => e = .returned (.int .i64 0) ∧ w = w' := by
  go_enter Try.func56, Try.ntmps56
  go_wp2_with fail
  go_ret
  exact ⟨rfl, rfl⟩
set_option maxRecDepth 100000 in
theorem at_nil (x y : Int) (w : World) : Calls Try.prog 72 #[.pointer none, .int .i64 x, .int .i64 y] w fun e w' => e = .returned (.tuple #[.int .u32 0, .int .i64 8]) ∧ w = w' := by
  go_enter Try.func72, Try.ntmps72
  go_wp2_with fail
  go_ret2
  exact ⟨rfl, rfl⟩
set_option maxRecDepth 100000 in
theorem image_nil  (w : World) : Calls Try.prog 62 #[.pointer none] w fun e w' => e = .returned (.agg #[.int .i64 0, .int .i64 0, .slice none 0 0]) ∧ Ext w w' := by
  go_enter Try.func62, Try.ntmps62
  go_wp2_with fail
  refine bodyPost_ret (v := .agg #[.int .i64 0, .int .i64 0, .slice none 0 0]) (by simp only [results, Try.results62]; go_simp; done) rfl ⟨rfl, ?_⟩
  exact (by repeat' (first | exact Ext.refl w | refine Ext.alloc ?_ _ | refine Ext.set ?_ ?_ _ | (simp; done) | omega))
set_option maxRecDepth 100000 in
theorem clone_nil  (w : World) : Calls Try.prog 69 #[.pointer none] w fun e w' => e = .returned (.pointer none) ∧ w = w' := by
  go_enter Try.func69, Try.ntmps69
  go_wp2_with fail
  go_ret
  exact ⟨rfl, rfl⟩
set_option maxRecDepth 100000 in
theorem same_nil  (w : World) : Calls Try.prog 65 #[.pointer none, .pointer none] w fun e w' => e = .returned (.bool true) ∧ w = w' := by
  go_enter Try.func65, Try.ntmps65
  go_wp2_with fail
  go_ret
  exact ⟨rfl, rfl⟩
set_option maxRecDepth 100000 in
theorem same_nl (b : Nat) (w : World) : Calls Try.prog 65 #[.pointer none, .pointer (some ⟨b, 0, none⟩)] w fun e w' => e = .returned (.bool false) ∧ w = w' := by
  go_enter Try.func65, Try.ntmps65
  go_wp2_with fail
  go_ret
  exact ⟨rfl, rfl⟩
set_option maxRecDepth 100000 in
theorem same_nr (b : Nat) (w : World) : Calls Try.prog 65 #[.pointer (some ⟨b, 0, none⟩), .pointer none] w fun e w' => e = .returned (.bool false) ∧ w = w' := by
  go_enter Try.func65, Try.ntmps65
  go_wp2_with fail
  go_ret
  exact ⟨rfl, rfl⟩
theorem set_nil (x y c : Int) (w : World) : Calls Try.prog 75 #[.pointer none, .int .i64 x, .int .i64 y, .int .u32 c] w fun e w' => e = .returned (.int .i64 8) ∧ Ext w w' := by
  go_enter Try.func75, Try.ntmps75
  go_wp2_with fail
  refine (at_nil _ _ _).mono ?_
  rintro e w1 ⟨rfl, rfl⟩
  go_wp2_with fail
  go_ret
  exact ⟨rfl, Ext.refl _⟩
theorem all_nil (w : World) : Calls Try.prog 106 #[.pointer none] w fun e w' => e = .returned (.agg #[.int .i64 0, .int .i64 0, .int .i64 0, .int .i64 0]) ∧ Ext w w' := by
  go_enter Try.func106, Try.ntmps106
  go_wp2_with (first | (go_at_call 55; refine (w_nil _).mono ?_; rintro e w' ⟨rfl, rfl⟩) | (go_at_call 56; refine (h_nil _).mono ?_; rintro e w' ⟨rfl, rfl⟩))
  refine bodyPost_ret (v := .agg #[.int .i64 0, .int .i64 0, .int .i64 0, .int .i64 0]) (by simp only [results, Try.results106]; go_simp; done) rfl ⟨rfl, ?_⟩
  exact (Ext.refl _).alloc _
theorem copy_nil (x y a b dx dy : Int) (w : World) : Calls Try.prog 71 #[.pointer none, .agg #[.int .i64 x, .int .i64 y, .int .i64 a, .int .i64 b, .int .i64 dx, .int .i64 dy]] w fun e w' => e = .returned (.int .i64 8) ∧ Ext w w' := by
  go_enter Try.func71, Try.ntmps71
  go_wp2_with fail
  go_ret
  exact ⟨rfl, by repeat' (first | exact Ext.refl w | refine Ext.alloc ?_ _)⟩
theorem part_nil (x y a b : Int) (w : World) : Calls Try.prog 73 #[.pointer none, .agg #[.int .i64 x, .int .i64 y, .int .i64 a, .int .i64 b]] w fun e w' => e = .returned (.tuple #[.agg #[.int .i64 0, .int .i64 0, .slice none 0 0], .int .i64 8]) ∧ Ext w w' := by
  go_enter Try.func73, Try.ntmps73
  go_wp2_with fail
  refine bodyPost_ret (v := .tuple #[.agg #[.int .i64 0, .int .i64 0, .slice none 0 0], .int .i64 8]) (by simp only [results, Try.results73]; go_simp; done) rfl ⟨rfl, ?_⟩
  repeat' (first | exact Ext.refl w | refine Ext.alloc ?_ _ | refine Ext.set ?_ ?_ _ | (simp; done) | omega)
theorem diff_nl (q : Option Addr) (w : World) : Calls Try.prog 63 #[.pointer none, .pointer q] w fun e w' => e = .returned (.tuple #[.slice none 0 0, .int .i64 8]) ∧ Ext w w' := by
  go_enter Try.func63, Try.ntmps63
  go_wp2_with fail
  go_ret2
  exact ⟨rfl, by repeat' (first | exact Ext.refl w | refine Ext.alloc ?_ _)⟩
theorem diff_nr (p : Addr) (w : World) : Calls Try.prog 63 #[.pointer (some p), .pointer none] w fun e w' => e = .returned (.tuple #[.slice none 0 0, .int .i64 8]) ∧ Ext w w' := by
  go_enter Try.func63, Try.ntmps63
  go_wp2_with fail
  go_ret2
  exact ⟨rfl, by repeat' (first | exact Ext.refl w | refine Ext.alloc ?_ _)⟩

theorem and_nilr (r : Rect) : r.and ⟨0, 0, 0, 0⟩ = Rect.zero := Rect.and_empty_r (by decide)
theorem and_nill (r : Rect) : Rect.and ⟨0, 0, 0, 0⟩ r = Rect.zero := Rect.and_empty_l (by decide)
set_option maxRecDepth 100000 in
set_option maxHeartbeats 2000000 in
theorem rowsN_in (n : Nat) (hn : 1 ≤ n) (l B0 B1 : Nat) (x y a b : Int) (J : List (Fin 0) → World → Prop) (w : World) (hJ : AbidesFrom w.heap.size J)
    (k0 : w.heap[B0]? = some (.cells #[.pointer none] 60 (0, 0))) (k1 : w.heap[B1]? = some (.cells #[.int .i64 x, .int .i64 y, .int .i64 a, .int .i64 b] 26 (0, 0))) (h0 : J [] w) :
    CallsIn Fence.wide n Try.prog 127 #[.func (.yield l) #[] #[], .pointer (some ⟨B1, 0, none⟩), .pointer (some ⟨B0, 0, none⟩)] w fun e W' => (∃ v, e = .returned v) ∧ J [] W' := by
  refine callsIn_of_wp Try.func127 rfl trivial ?_ rfl
  simp only [Try.ntmps127, List.size_toArray, List.length_cons, List.length_nil, Nat.reduceAdd, Nat.reduceSub, Array.replicate_succ, Array.replicate_zero, List.push_toArray, List.append_toArray, List.nil_append, List.cons_append]
  have hand := fun w : World => and_any x y a b 0 0 0 0 w
  simp only [and_nilr] at hand
  gi_wp2
  refine wpIn_mono (Q := fun e a' w' => e = .normal ∧ ∃ B, a' = { tmps := #[.func (.yield l) #[] #[], .pointer (some ⟨B1, 0, none⟩), .pointer (some ⟨B0, 0, none⟩), undef, .pointer (some ⟨B, 0, none⟩), undef, undef, undef, .agg #[.int .i64 x, .int .i64 y, .int .i64 a, .int .i64 b], .pointer none, .agg #[.int .i64 0, .int .i64 0, .int .i64 0, .int .i64 0], .agg #[.int .i64 0, .int .i64 0, .int .i64 0, .int .i64 0], undef, undef, undef, undef, undef, undef, undef, undef, undef, undef, undef, undef, undef, undef, undef, undef, undef, undef, undef, undef, undef, undef, undef, undef, undef, undef, undef, undef, undef, undef, undef, undef, undef, undef, undef, undef], defers := [] } ∧ w'.heap[B]? = some (.cells #[.int .i64 0, .int .i64 0, .int .i64 0, .int .i64 0] 26 (0, 0)) ∧ Ext w w' ∧ w.heap.size ≤ B) (wpIn_wide.2 ?_) ?_
  · clear hJ h0
    obtain ⟨c0, f0⟩ := blk_rules k0
    obtain ⟨c1, f1⟩ := blk_rules k1
    have z0 := blk_lt k0
    have z1 := blk_lt k1
    have sx : ∀ w', Ext w w' → Ext w w' ∧ w'.cell? ⟨B1, 0, none⟩ = some (.int .i64 x) ∧ w'.cell? ⟨B1, 1, none⟩ = some (.int .i64 y) ∧ w'.cell? ⟨B1, 2, none⟩ = some (.int .i64 a) ∧ w'.cell? ⟨B1, 3, none⟩ = some (.int .i64 b) ∧ w'.cell? ⟨B0, 0, none⟩ = some (.pointer none) := fun w' h => ⟨h, h.cellOf (c1 0), h.cellOf (c1 1), h.cellOf (c1 2), h.cellOf (c1 3), h.cellOf (c0 0)⟩
    go_region_held3 (fun w' => Ext w w' ∧ w'.cell? ⟨B1, 0, none⟩ = some (.int .i64 x) ∧ w'.cell? ⟨B1, 1, none⟩ = some (.int .i64 y) ∧ w'.cell? ⟨B1, 2, none⟩ = some (.int .i64 a) ∧ w'.cell? ⟨B1, 3, none⟩ = some (.int .i64 b) ∧ w'.cell? ⟨B0, 0, none⟩ = some (.pointer none)) ((refine sx _ ?_; first | exact hE2 | exact hE1 | exact (Ext.refl w).drew | (repeat' (first | exact And.left (by assumption) | exact hE2 | exact hE1 | refine Ext.alloc ?_ _ | refine Ext.set ?_ ?_ _ | refine Ext.drew ?_ | exact Ext.refl w | exact Nat.le_refl _ | exact hE2.size | exact hE1.size | (simp; done))))) (first | (go_at_call 106; refine (all_nil _).mono ?_; rintro e w1 ⟨rfl, hb⟩; have hE1 : Ext w w1 := Ext.trans (And.left (by assumption)) hb) | (go_at_call 95; refine (hand _).mono ?_; rintro e w2 ⟨rfl, hb2⟩; have hE2 : Ext w w2 := Ext.trans (And.left (by assumption)) hb2; (first | (have kB := hb2.keep (hb.keep (blk_new w _)); obtain ⟨d2, g2⟩ := blk_rules kB) | (have kB := hb2.keep (blk_new w1 _); obtain ⟨d2, g2⟩ := blk_rules kB) | skip)))
    all_goals
      refine ⟨rfl, _, rfl, ?_, ?_, ?_⟩
      · first
          | simpa [Rect.zero] using blk_set (blk_set (blk_set (blk_set kB 0 (.int .i64 0)) 1 (.int .i64 0)) 2 (.int .i64 0)) 3 (.int .i64 0)
          | exact blk_new w2 _
      · repeat' (first | exact hE2 | refine Ext.alloc ?_ _ | refine Ext.set ?_ ?_ _ | refine Ext.drew ?_ | exact Nat.le_refl _ | exact hE2.size | exact hE1.size)
      · first | exact Nat.le_refl _ | exact hE2.size | exact hE1.size
  · rintro e a' w2 ⟨rfl, B, rfl, kB, hE, hBlt⟩
    replace h0 := abides_ext hJ h0 hE
    obtain ⟨cB, fB⟩ := blk_rules kB
    gi_wp2
    gi_loopw [5] (fun i wr => i = .int .i64 0 ∧ J [] wr ∧ wr.heap[B]? = some (.cells #[.int .i64 0, .int .i64 0, .int .i64 0, .int .i64 0] 26 (0, 0))) (fun i _ => 0)
    case atStart => exact ⟨rfl, h0, kB⟩
    case round =>
      clear h0 kB cB fB hE
      obtain ⟨rfl, hJs, kB⟩ := hrel
      obtain ⟨cB, fB⟩ := blk_rules kB
      gi_wp2
      go_end0
      exact ⟨⟨_, rfl⟩, hJs⟩

set_option maxHeartbeats 1000000 in
theorem fill_nil (x y a b c : Int) (w : World) : Calls Try.prog 70 #[.pointer none, .agg #[.int .i64 x, .int .i64 y, .int .i64 a, .int .i64 b], .int .u32 c] w fun e w' => e = .returned (.tuple #[]) ∧ Ext w w' := by
  refine (callsIn_wide (n := 5)).1 ?_
  refine callsIn_of_wp_marks Try.func70 rfl trivial ?_ rfl
  simp only [Try.ntmps70, List.size_toArray, List.length_cons, List.length_nil, Nat.reduceAdd, Nat.reduceSub, Array.replicate_succ, Array.replicate_zero, List.push_toArray, List.append_toArray, List.nil_append, List.cons_append]
  gi_wp2_with (refine ⟨trivial, ?_⟩; gi_at_call 105; refine (callsIn_wide.2 (rows_any _ _ _ _ _ _)).mono ?_; rintro e w1 ⟨rfl, rfl⟩)
  generalize hw3 : ((((w.alloc (.cells #[.int .i64 x, .int .i64 y, .int .i64 a, .int .i64 b] 26)).alloc (.cells #[.int .u32 c] 58)).alloc (.cells #[.pointer none] 60)).alloc (.cells #[.int .i64 x, .int .i64 y, .int .i64 a, .int .i64 b] 26)) = w3
  have hE3 : Ext w w3 := by rw [← hw3]; exact ((((Ext.refl w).alloc _).alloc _).alloc _).alloc _
  have kb : w3.heap[w.heap.size + 1 + 1]? = some (.cells #[.pointer none] 60 (0, 0)) := by rw [← hw3]; exact blk_old (blk_new2 _ _ _ _) _
  have kr : w3.heap[w.heap.size + 1 + 1 + 1]? = some (.cells #[.int .i64 x, .int .i64 y, .int .i64 a, .int .i64 b] 26 (0, 0)) := by rw [← hw3]; exact blk_new3 _ _ _ _ _
  clear hw3
  refine wpIn_rangeFunc_ownF (F := Fence.wide) (n := 5) (α := Fin 0) rfl (by decide) (gf := 127) (lb := #[.pointer (some ⟨w.heap.size + 1 + 1 + 1, 0, none⟩), .pointer (some ⟨w.heap.size + 1 + 1, 0, none⟩)]) rfl trivial (enters_of Try.func127 (by kernel_rfl) rfl)
    (encs := fun _ => #[.int .i64 0, .slice none 0 0]) (Kp := fun _ _ => True) (S := fun _ => True) (Sp := fun _ => True) (N := 0) (w0 := w3) ?seq (fun _ _ => trivial) (fun _ _ _ _ _ _ _ _ => trivial) (Below.refl _ _) (fun _ => rfl)
    (fun _ W1 => Ext w W1) (fun _ _ _ => False) (fun s A B row hs hg hr => Below.grown hs hg hs.size (fun r e => Nat.le_trans hE3.size (hr r e).1)) (fun _ _ _ _ _ hs _ _ => hs) hE3 (fun i => i.elim0) (fun _ i => i.elim0) (fun _ _ i => i.elim0) ?done ?stop
  case seq =>
    intro l J Jx W1 hW hJ _ hY h0
    refine (rowsN_in 4 (by decide) l _ _ x y a b J W1 hJ (Ext.keep hW kb) (Ext.keep hW kr) h0).mono ?_
    rintro e W' ⟨he, h2⟩
    exact ⟨he, .inl ⟨[], trivial, h2⟩⟩
  case done =>
    rintro D ys W1 hD _ h1 hK
    gi_wp2
    refine ⟨by simp, .inl ⟨_, _, rfl, run_takeDeferred hK, ?_⟩⟩
    have hg := grownBy_putObj' W1 D (.deferred none)
    have hz := hE3.size
    refine ⟨_, results_none rfl _ _ _, rfl, Below.grown h1 hg h1.size (fun r e => by cases e; omega)⟩
  case stop =>
    rintro D c pre W1 _ _ h _
    exact h.elim
set_option maxRecDepth 100000 in
set_option maxHeartbeats 4000000 in
theorem blit_nil {w : World} (x y p q : Int) (A : Option Addr) (c : Nat) (xs : List Int) (a b d e : Int) (h : isPic p q xs.length = true) (hr : Reads .u32 w A xs) (hx : ∀ x ∈ xs, 0 ≤ x ∧ x ≤ 4294967295) :
    Calls Try.prog 74 #[.pointer none, .int .i64 x, .int .i64 y, .agg #[.int .i64 p, .int .i64 q, .slice A xs.length c], .agg #[.int .i64 a, .int .i64 b, .int .i64 d, .int .i64 e]] w fun e' w' => e' = .returned (.tuple #[]) ∧ Ext w w' := by
  have hE := ((((Ext.refl w).alloc (.cells #[.int .i64 x] 3)).alloc (.cells #[.int .i64 y] 3)).alloc (.cells #[.int .i64 p, .int .i64 q, .slice A xs.length c] 43)).alloc (.cells #[.int .i64 a, .int .i64 b, .int .i64 d, .int .i64 e] 26)
  refine (callsIn_wide (n := 5)).1 ?_
  refine callsIn_of_wp_marks Try.func74 rfl trivial ?_ rfl
  simp only [Try.ntmps74, List.size_toArray, List.length_cons, List.length_nil, Nat.reduceAdd, Nat.reduceSub, Array.replicate_succ, Array.replicate_zero, List.push_toArray, List.append_toArray, List.nil_append, List.cons_append]
  gi_wp2_with (refine ⟨trivial, ?_⟩; gi_at_call 54; refine (callsIn_wide.2 (from_good _ _ _ _ _ _ h (hr.ext hE) hx)).mono ?_; rintro e' w1 ⟨b2, p2, cap2, rfl, hO, hb⟩; obtain ⟨k0, k1, k2, k3, _⟩ := ext4 hb; have hE1 := hE.trans hb)
  obtain ⟨w2, hw2⟩ : ∃ w2, w1.alloc (.cells #[.pointer (some ⟨b2, 0, none⟩)] 60) = w2 := ⟨_, rfl⟩
  have hE2 : Ext w1 w2 := by rw [← hw2]; exact (Ext.refl _).alloc _
  have k4 : w2.heap[w1.heap.size]? = some (.cells #[.pointer (some ⟨b2, 0, none⟩)] 60 (0, 0)) := by rw [← hw2]; exact blk_new _ _
  have hs1 := hE1.size
  replace hO := hO.base_le (base' := w.heap.size) (by simp only [World.size_alloc]; omega)
  rw [hw2]
  clear hw2 hb hE
  replace k0 := hE2.keep k0
  replace k1 := hE2.keep k1
  replace k2 := hE2.keep k2
  replace k3 := hE2.keep k3
  replace hO := hO.ext hE2
  have hE := hE1.trans hE2
  clear hE1 hE2 hr hx
  obtain ⟨S, hS⟩ : ∃ S, Rect.shift ⟨0, 0, p, q⟩ x y = S := ⟨_, rfl⟩
  have hM : Rect.and ⟨0, 0, 0, 0⟩ S = ⟨0, 0, 0, 0⟩ := and_nill S
  have hR : Rect.and ⟨a, b, d, e⟩ ⟨0, 0, 0, 0⟩ = ⟨0, 0, 0, 0⟩ := and_nilr _
  have cS := fun w => shift_any 0 0 p q x y w
  simp only [hS] at cS
  refine wpIn_mono (Q := fun e' a' w' => e' = .normal ∧ ∃ B, a' = { tmps := #[.pointer none, .int .i64 x, .int .i64 y, .agg #[.int .i64 p, .int .i64 q, .slice A xs.length c], .agg #[.int .i64 a, .int .i64 b, .int .i64 d, .int .i64 e], undef, .pointer (some ⟨w.heap.size, 0, none⟩), .pointer (some ⟨w.heap.size + 1, 0, none⟩), .pointer (some ⟨w.heap.size + 1 + 1, 0, none⟩), .pointer (some ⟨w.heap.size + 1 + 1 + 1, 0, none⟩), .pointer (some ⟨w1.heap.size, 0, none⟩), .int .i64 0, .pointer (some ⟨B, 0, none⟩), undef, undef, .tuple #[.pointer (some ⟨b2, 0, none⟩), .int .i64 0], .agg #[.int .i64 p, .int .i64 q, .slice A xs.length c], .tuple #[.pointer (some ⟨b2, 0, none⟩), .int .i64 0], .pointer (some ⟨b2, 0, none⟩), .int .i64 0, .int .i64 0, .bool false, .agg #[.int .i64 a, .int .i64 b, .int .i64 d, .int .i64 e], .pointer none, .agg #[.int .i64 0, .int .i64 0, .int .i64 0, .int .i64 0], .pointer (some ⟨b2, 0, none⟩), .agg #[.int .i64 0, .int .i64 0, .int .i64 p, .int .i64 q], .int .i64 x, .int .i64 y, .agg #[.int .i64 S.x, .int .i64 S.y, .int .i64 S.w, .int .i64 S.h], .agg #[.int .i64 0, .int .i64 0, .int .i64 0, .int .i64 0], .agg #[.int .i64 0, .int .i64 0, .int .i64 0, .int .i64 0], undef, undef, undef, undef, undef, undef, undef, undef, undef, undef, undef, undef, undef, undef, undef, undef, undef, undef, undef, undef, undef, undef, undef, undef, undef], defers := [] } ∧ w'.heap[B]? = some (.cells #[.int .i64 0, .int .i64 0, .int .i64 0, .int .i64 0] 26 (0, 0)) ∧ Ext w2 w' ∧ w2.heap.size ≤ B) (wpIn_wide.2 ?_) ?_
  · replace hM : Rect.and ⟨0, 0, 0, 0⟩ ⟨S.x, S.y, S.w, S.h⟩ = ⟨0, 0, 0, 0⟩ := hM
    clear hS
    obtain ⟨c0, f0⟩ := blk_rules k0
    obtain ⟨c1, f1⟩ := blk_rules k1
    obtain ⟨c3, f3⟩ := blk_rules k3
    obtain ⟨c4, f4⟩ := blk_rules k4
    have sx : ∀ w', Ext w2 w' → Ext w2 w' ∧ w'.cell? ⟨w.heap.size, 0, none⟩ = some (.int .i64 x) ∧ w'.cell? ⟨w.heap.size + 1, 0, none⟩ = some (.int .i64 y) ∧ w'.cell? ⟨w.heap.size + 1 + 1 + 1, 0, none⟩ = some (.int .i64 a) ∧ w'.cell? ⟨w.heap.size + 1 + 1 + 1, 1, none⟩ = some (.int .i64 b) ∧ w'.cell? ⟨w.heap.size + 1 + 1 + 1, 2, none⟩ = some (.int .i64 d) ∧ w'.cell? ⟨w.heap.size + 1 + 1 + 1, 3, none⟩ = some (.int .i64 e) ∧ w'.cell? ⟨w1.heap.size, 0, none⟩ = some (.pointer (some ⟨b2, 0, none⟩)) := fun w' h => ⟨h, h.cellOf (c0 0), h.cellOf (c1 0), h.cellOf (c3 0), h.cellOf (c3 1), h.cellOf (c3 2), h.cellOf (c3 3), h.cellOf (c4 0)⟩
    go_region_held3 (fun w' => Ext w2 w' ∧ w'.cell? ⟨w.heap.size, 0, none⟩ = some (.int .i64 x) ∧ w'.cell? ⟨w.heap.size + 1, 0, none⟩ = some (.int .i64 y) ∧ w'.cell? ⟨w.heap.size + 1 + 1 + 1, 0, none⟩ = some (.int .i64 a) ∧ w'.cell? ⟨w.heap.size + 1 + 1 + 1, 1, none⟩ = some (.int .i64 b) ∧ w'.cell? ⟨w.heap.size + 1 + 1 + 1, 2, none⟩ = some (.int .i64 d) ∧ w'.cell? ⟨w.heap.size + 1 + 1 + 1, 3, none⟩ = some (.int .i64 e) ∧ w'.cell? ⟨w1.heap.size, 0, none⟩ = some (.pointer (some ⟨b2, 0, none⟩))) ((refine sx _ ?_; (repeat' (first | exact And.left (by assumption) | assumption | refine Ext.alloc ?_ _ | refine Ext.set ?_ ?_ _ | refine Ext.drew ?_ | exact Ext.refl w2 | exact Nat.le_refl _ | exact Below.size (by assumption) | (simp; done))))) (first | (go_at_call 106; (first | with_reducible refine (all_nil _).mono ?_ | refine (all_any (hO.ext (And.left (by assumption)))).mono ?_); rintro e w1 ⟨rfl, hb⟩; have hE1 : Ext w2 w1 := Ext.trans (And.left (by assumption)) hb; (first | (have kB := hb.keep kB; obtain ⟨d2, g2⟩ := blk_rules kB) | (have kB := hb.keep (blk_new _ _); obtain ⟨d2, g2⟩ := blk_rules kB) | skip)) | (go_at_call 95; refine (and_as _ _ _ _ _ _ _ _ _ (by first | with_reducible exact hM | with_reducible exact hR)).mono ?_; rintro e w1 ⟨rfl, hb⟩; have hE1 : Ext w2 w1 := Ext.trans (And.left (by assumption)) hb; (first | (have kB := hb.keep kB; obtain ⟨d2, g2⟩ := blk_rules kB) | (have kB := hb.keep (blk_new _ _); obtain ⟨d2, g2⟩ := blk_rules kB) | skip)) | (go_at_call 17; refine (cS _).mono ?_; rintro e w1 ⟨rfl, hb⟩; have hE1 : Ext w2 w1 := Ext.trans (And.left (by assumption)) hb; (first | (have kB := hb.keep kB; obtain ⟨d2, g2⟩ := blk_rules kB) | (have kB := hb.keep (blk_new _ _); obtain ⟨d2, g2⟩ := blk_rules kB) | skip)))
    all_goals
      refine ⟨rfl, _, rfl, ?_, ?_, ?_⟩
      · first
          | simpa using blk_set (blk_set (blk_set (blk_set kB 0 (.int .i64 0)) 1 (.int .i64 0)) 2 (.int .i64 0)) 3 (.int .i64 0)
          | exact blk_new _ _
      · repeat' (first | assumption | refine Ext.alloc ?_ _ | refine Ext.set ?_ ?_ _ | refine Ext.drew ?_ | exact Nat.le_refl _ | exact Below.size (by assumption))
      · first | exact Nat.le_refl _ | exact Below.size (by assumption)
  · clear cS
    rintro e' a' w3 ⟨rfl, B, rfl, kB, hE3, hBlt⟩
    replace k0 := hE3.keep k0
    replace k1 := hE3.keep k1
    replace k4 := hE3.keep k4
    replace hO := hO.ext hE3
    obtain ⟨cB, fB⟩ := blk_rules kB
    gi_wp2_with (refine ⟨trivial, ?_⟩; gi_at_call 105; refine (callsIn_wide.2 (rows_any _ _ _ _ _ _)).mono ?_; rintro e' w4 ⟨rfl, rfl⟩)
    have hE4 : Ext w w3 := hE.trans hE3
    clear cB fB
    generalize hw5 : (w3.alloc (.cells #[.pointer none] 60)).alloc (.cells #[.int .i64 0, .int .i64 0, .int .i64 0, .int .i64 0] 26) = w5
    have hE5 : Ext w w5 := by rw [← hw5]; exact (hE4.alloc _).alloc _
    have kb : w5.heap[w3.heap.size]? = some (.cells #[.pointer none] 60 (0, 0)) := by rw [← hw5]; exact blk_old (blk_new _ _) _
    have kr : w5.heap[w3.heap.size + 1]? = some (.cells #[.int .i64 0, .int .i64 0, .int .i64 0, .int .i64 0] 26 (0, 0)) := by rw [← hw5]; exact blk_new1 _ _ _
    clear hw5
    refine wpIn_rangeFunc_ownF (F := Fence.wide) (n := 5) (α := Fin 0) rfl (by decide) (gf := 127) (lb := #[.pointer (some ⟨w3.heap.size + 1, 0, none⟩), .pointer (some ⟨w3.heap.size, 0, none⟩)]) rfl trivial (enters_of Try.func127 (by kernel_rfl) rfl)
      (encs := fun _ => #[.int .i64 0, .slice none 0 0]) (Kp := fun _ _ => True) (S := fun _ => True) (Sp := fun _ => True) (N := 0) (w0 := w5) ?seq (fun _ _ => trivial) (fun _ _ _ _ _ _ _ _ => trivial) (Below.refl _ _) (fun _ => rfl)
      (fun _ W1 => Ext w W1) (fun _ _ _ => False) (fun s A B row hs hg hr => Below.grown hs hg hs.size (fun r e => Nat.le_trans hE5.size (hr r e).1)) (fun _ _ _ _ _ hs _ _ => hs) hE5 (fun i => i.elim0) (fun _ i => i.elim0) (fun _ _ i => i.elim0) ?done ?stop
    case seq =>
      intro l J Jx W1 hW hJ _ hY h0
      refine (rowsN_in 4 (by decide) l _ _ 0 0 0 0 J W1 hJ (Ext.keep hW kb) (Ext.keep hW kr) h0).mono ?_
      rintro e W' ⟨he, h2⟩
      exact ⟨he, .inl ⟨[], trivial, h2⟩⟩
    case done =>
      rintro D ys W1 hD _ h1 hK
      gi_wp2
      refine ⟨by simp, .inl ⟨_, _, rfl, run_takeDeferred hK, ?_⟩⟩
      have hg := grownBy_putObj' W1 D (.deferred none)
      have hz := hE5.size
      refine ⟨_, results_none rfl _ _ _, rfl, Below.grown h1 hg h1.size (fun r e => by cases e; omega)⟩
    case stop =>
      rintro D c pre W1 _ _ h _
      exact h.elim
end Go.Proofs.Ytjghghbldifhaaa
set_option linter.unusedVariables false
set_option linter.unusedSimpArgs false
namespace Go.Proofs.Ytjghghbldifhaaa
open Go.RowKit Go.ChangeShapes

def ActD.value (a : ActD) : Value := .agg #[.int .i64 a.k, .int .i64 a.x, .int .i64 a.y, .int .u32 a.c, .int .i64 a.r.x, .int .i64 a.r.y, .int .i64 a.r.w, .int .i64 a.r.h, .int .i64 a.W, .int .i64 a.H, .slice a.A a.zs.length a.mc, .int .i64 a.t.x, .int .i64 a.t.y, .int .i64 a.t.w, .int .i64 a.t.h, .int .i64 a.dx, .int .i64 a.dy]
theorem act_of {w : World} {v : Value} (h : shAct.Is w v.cells.toList) : ∃ a : ActD, v = a.value ∧ Reads .u32 w a.A a.zs ∧ (∀ v ∈ a.zs, 0 ≤ v ∧ v ≤ 4294967295) ∧ (0 ≤ a.c ∧ a.c ≤ 4294967295) ∧ a.zs.length ≤ 9223372036854775807 := by
  obtain ⟨a, h1, h2, h3, h4, h5⟩ := is_act h
  exact ⟨a, agg_of h1 (by simp [ActD.cells]), h2, h3, h4, by omega⟩
theorem blit_nil_any {w : World} (x y p q : Int) (A : Option Addr) (c : Nat) (xs : List Int) (a b d e : Int) (hr : Reads .u32 w A xs) (hx : ∀ x ∈ xs, 0 ≤ x ∧ x ≤ 4294967295) :
    Calls Try.prog 74 #[.pointer none, .int .i64 x, .int .i64 y, .agg #[.int .i64 p, .int .i64 q, .slice A xs.length c], .agg #[.int .i64 a, .int .i64 b, .int .i64 d, .int .i64 e]] w fun e' w' => e' = .returned (.tuple #[]) ∧ Ext w w' := by
  cases h : isPic p q xs.length
  · exact blit_bad x y p q A c xs a b d e h
  · exact blit_nil x y p q A c xs a b d e h hr hx
theorem rsame_none (w : World) : Calls Try.prog 61 #[.agg #[.int .i64 0, .int .i64 0, .slice none 0 0], .agg #[.int .i64 0, .int .i64 0, .slice none 0 0]] w fun e w' => e = .returned (.bool true) ∧ Ext w w' :=
  rsame_any 0 0 0 0 none none 0 0 [] [] w (fun i hi => by simp at hi) (fun i hi => by simp at hi) (by simp) (by simp)
set_option maxRecDepth 100000 in
set_option maxHeartbeats 8000000 in
theorem nil_law (a : ActD) (w : World) (hr : Reads .u32 w a.A a.zs) (hx : ∀ v ∈ a.zs, 0 ≤ v ∧ v ≤ 4294967295) :
    Calls Try.prog 13 #[a.value] w fun e w' => e = .returned (.bool true) ∧ Ext w w' := by
  unfold ActD.value
  obtain ⟨k, x, y, c, ⟨r0, r1, r2, r3⟩, W, H, A, mc, zs, ⟨t0, t1, t2, t3⟩, dx, dy⟩ := a
  dsimp only at hr hx ⊢
  have HR := Lib.hid hr
  have HX := Lib.hid hx
  clear hr hx
  go_enter Try.func13, Try.ntmps13
  go_wp2_with fail
  refine (fill_nil _ _ _ _ _ _).mono ?_
  rintro e w1 ⟨rfl, E⟩
  have kB := E.keep (blk_new w (.cells #[.int .i64 k, .int .i64 x, .int .i64 y, .int .u32 c, .int .i64 r0, .int .i64 r1, .int .i64 r2, .int .i64 r3, .int .i64 W, .int .i64 H, .slice A zs.length mc, .int .i64 t0, .int .i64 t1, .int .i64 t2, .int .i64 t3, .int .i64 dx, .int .i64 dy] 81))
  have hE := Ext.of_alloc E
  obtain ⟨c0, f0⟩ := blk_rules kB
  clear E
  go_wp2_with fail
  refine (blit_nil_any _ _ _ _ _ _ _ _ _ _ _ (HR.out.ext hE) HX.out).mono ?_
  rintro e w2 ⟨rfl, E⟩
  replace kB := E.keep kB
  replace hE := hE.trans E
  clear E c0 f0
  obtain ⟨c0, f0⟩ := blk_rules kB
  go_wp2_with fail
  refine (at_nil _ _ _).mono ?_
  rintro e w3 ⟨rfl, rfl⟩
  go_wp2_with fail
  refine (part_nil _ _ _ _ _).mono ?_
  rintro e w4 ⟨rfl, E⟩
  replace kB := E.keep kB
  replace hE := hE.trans E
  clear E c0 f0
  have kI := blk_new w4 (.cells #[.int .i64 0, .int .i64 0, .slice none 0 0] 43)
  have hne := blk_lt kB
  obtain ⟨c0, f0⟩ := blk_rules kB
  go_wp2_with fail
  refine (diff_nl none _).mono ?_
  rintro e w5 ⟨rfl, E⟩
  replace kB := E.keep (blk_old kB _)
  replace hE := hE.trans (Ext.of_alloc E)
  replace kI := E.keep kI
  clear E c0 f0
  obtain ⟨c0, f0⟩ := blk_rules kB
  obtain ⟨d0, g0⟩ := blk_rules kI
  go_wp2_with fail
  refine (w_nil _).mono ?_
  rintro e w6 ⟨rfl, rfl⟩
  go_wp2_with fail
  refine (h_nil _).mono ?_
  rintro e w7 ⟨rfl, rfl⟩
  go_wp2_with fail
  refine (set_nil _ _ _ _).mono ?_
  rintro e w8 ⟨rfl, E⟩
  replace kB := E.keep kB
  replace kI := E.keep kI
  replace hE := hE.trans E
  clear E c0 f0 d0 g0
  obtain ⟨c0, f0⟩ := blk_rules kB
  obtain ⟨d0, g0⟩ := blk_rules kI
  go_wp2_with fail
  refine (copy_nil _ _ _ _ _ _ _).mono ?_
  rintro e w9 ⟨rfl, E⟩
  replace kB := E.keep kB
  replace kI := E.keep kI
  replace hE := hE.trans E
  clear E c0 f0 d0 g0
  obtain ⟨c0, f0⟩ := blk_rules kB
  obtain ⟨d0, g0⟩ := blk_rules kI
  go_wp2_with fail
  refine (rsame_none _).mono ?_
  rintro e w10 ⟨rfl, E⟩
  replace kB := E.keep kB
  replace kI := E.keep kI
  replace hE := hE.trans E
  clear E c0 f0 d0 g0
  obtain ⟨c0, f0⟩ := blk_rules kB
  obtain ⟨d0, g0⟩ := blk_rules kI
  go_wp2_with fail
  refine (image_nil _).mono ?_
  rintro e w11 ⟨rfl, E⟩
  replace kB := E.keep kB
  replace kI := E.keep kI
  replace hE := hE.trans E
  clear E c0 f0 d0 g0
  obtain ⟨c0, f0⟩ := blk_rules kB
  obtain ⟨d0, g0⟩ := blk_rules kI
  go_wp2_with fail
  refine (rsame_none _).mono ?_
  rintro e w12 ⟨rfl, E⟩
  replace kB := E.keep kB
  replace kI := E.keep kI
  replace hE := hE.trans E
  clear E c0 f0 d0 g0
  obtain ⟨c0, f0⟩ := blk_rules kB
  obtain ⟨d0, g0⟩ := blk_rules kI
  go_wp2_with fail
  refine (same_nil _).mono ?_
  rintro e w13 ⟨rfl, rfl⟩
  go_wp2_with fail
  refine (clone_nil _).mono ?_
  rintro e w14 ⟨rfl, rfl⟩
  go_wp2_with fail
  refine (wakes3_any _).mono ?_
  rintro e w15 ⟨rfl, E⟩
  go_wp2_with fail
  go_ret
  exact ⟨rfl, hE.trans E⟩
end Go.Proofs.Ytjghghbldifhaaa
