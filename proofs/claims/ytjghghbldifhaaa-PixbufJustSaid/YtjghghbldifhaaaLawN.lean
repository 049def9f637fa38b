/- The law PixbufNil: no buffer has no picture. -/
import Derived.Test.YtjghghbldifhaaaPixN
import Derived.Test.YtjghghbldifhaaaActB
set_option linter.unusedVariables false
set_option linter.unusedSimpArgs false
namespace Go.Proofs.Ytjghghbldifhaaa
open Go.RowKit Go.ChangeShapes

def ActD.value (a : ActD) : Value := .agg #[.int .i64 a.k, .int .i64 a.x, .int .i64 a.y, .int .u32 a.c, .int .i64 a.r.x, .int .i64 a.r.y, .int .i64 a.r.w, .int .i64 a.r.h, .int .i64 a.W, .int .i64 a.H, .slice a.A a.zs.length a.mc, .int .i64 a.t.x, .int .i64 a.t.y, .int .i64 a.t.w, .int .i64 a.t.h, .int .i64 a.dx, .int .i64 a.dy]
theorem act_of {w : World} {v : Value} (h : shAct.Is w v.cells.toList) : ∃ a : ActD, v = a.value ∧ Reads .u32 w a.A a.zs ∧ (∀ v ∈ a.zs, 0 ≤ v ∧ v ≤ 4294967295) ∧ (0 ≤ a.c ∧ a.c ≤ 4294967295) ∧ a.zs.length ≤ 9223372036854775807 := by
  obtain ⟨a, h1, h2, h3, h4, h5⟩ := is_act h
  exact ⟨a, agg_of h1 (by simp [ActD.cells]), h2, h3, h4, by omega⟩
theorem blit_nil_any {w : World} (x y p q : Int) (A : Option Addr) (c : Nat) (xs : List Int) (a b d e : Int) (hr : Reads .u32 w A xs) (hx : ∀ x ∈ xs, 0 ≤ x ∧ x ≤ 4294967295) :
    Calls Try.prog 74 #[.pointer none, .int .i64 x, .int .i64 y, .agg #[.int .i64 p, .int .i64 q, .slice A xs.length c], .agg #[.int .i64 a, .int .i64 b, .int .i64 d, .int .i64 e]] w fun e' w' => e' = .returned (.tuple #[]) ∧ Ext w w' := by
  cases h : isPic p q xs.length
  · exact blit_bad x y p q A c xs a b d e h
  · exact blit_nil x y p q A c xs a b d e h hr hx
theorem rsame_none (w : World) : Calls Try.prog 61 #[.agg #[.int .i64 0, .int .i64 0, .slice none 0 0], .agg #[.int .i64 0, .int .i64 0, .slice none 0 0]] w fun e w' => e = .returned (.bool true) ∧ Ext w w' :=
  rsame_any 0 0 0 0 none none 0 0 [] [] w (fun i hi => by simp at hi) (fun i hi => by simp at hi) (by simp) (by simp)
set_option maxRecDepth 100000 in
set_option maxHeartbeats 8000000 in
theorem nil_law (a : ActD) (w : World) (hr : Reads .u32 w a.A a.zs) (hx : ∀ v ∈ a.zs, 0 ≤ v ∧ v ≤ 4294967295) :
    Calls Try.prog 13 #[a.value] w fun e w' => e = .returned (.bool true) ∧ Ext w w' := by
  unfold ActD.value
  obtain ⟨k, x, y, c, ⟨r0, r1, r2, r3⟩, W, H, A, mc, zs, ⟨t0, t1, t2, t3⟩, dx, dy⟩ := a
  dsimp only at hr hx ⊢
  have HR := Lib.hid hr
  have HX := Lib.hid hx
  clear hr hx
  go_enter Try.func13, Try.ntmps13
  go_wp2_with fail
  refine (fill_nil _ _ _ _ _ _).mono ?_
  rintro e w1 ⟨rfl, E⟩
  have kB := E.keep (blk_new w (.cells #[.int .i64 k, .int .i64 x, .int .i64 y, .int .u32 c, .int .i64 r0, .int .i64 r1, .int .i64 r2, .int .i64 r3, .int .i64 W, .int .i64 H, .slice A zs.length mc, .int .i64 t0, .int .i64 t1, .int .i64 t2, .int .i64 t3, .int .i64 dx, .int .i64 dy] 81))
  have hE := Ext.of_alloc E
  obtain ⟨c0, f0⟩ := blk_rules kB
  clear E
  go_wp2_with fail
  refine (blit_nil_any _ _ _ _ _ _ _ _ _ _ _ (HR.out.ext hE) HX.out).mono ?_
  rintro e w2 ⟨rfl, E⟩
  replace kB := E.keep kB
  replace hE := hE.trans E
  clear E c0 f0
  obtain ⟨c0, f0⟩ := blk_rules kB
  go_wp2_with fail
  refine (at_nil _ _ _).mono ?_
  rintro e w3 ⟨rfl, rfl⟩
  go_wp2_with fail
  refine (part_nil _ _ _ _ _).mono ?_
  rintro e w4 ⟨rfl, E⟩
  replace kB := E.keep kB
  replace hE := hE.trans E
  clear E c0 f0
  have kI := blk_new w4 (.cells #[.int .i64 0, .int .i64 0, .slice none 0 0] 43)
  have hne := blk_lt kB
  obtain ⟨c0, f0⟩ := blk_rules kB
  go_wp2_with fail
  refine (diff_nl none _).mono ?_
  rintro e w5 ⟨rfl, E⟩
  replace kB := E.keep (blk_old kB _)
  replace hE := hE.trans (Ext.of_alloc E)
  replace kI := E.keep kI
  clear E c0 f0
  obtain ⟨c0, f0⟩ := blk_rules kB
  obtain ⟨d0, g0⟩ := blk_rules kI
  go_wp2_with fail
  refine (w_nil _).mono ?_
  rintro e w6 ⟨rfl, rfl⟩
  go_wp2_with fail
  refine (h_nil _).mono ?_
  rintro e w7 ⟨rfl, rfl⟩
  go_wp2_with fail
  refine (set_nil _ _ _ _).mono ?_
  rintro e w8 ⟨rfl, E⟩
  replace kB := E.keep kB
  replace kI := E.keep kI
  replace hE := hE.trans E
  clear E c0 f0 d0 g0
  obtain ⟨c0, f0⟩ := blk_rules kB
  obtain ⟨d0, g0⟩ := blk_rules kI
  go_wp2_with fail
  refine (copy_nil _ _ _ _ _ _ _).mono ?_
  rintro e w9 ⟨rfl, E⟩
  replace kB := E.keep kB
  replace kI := E.keep kI
  replace hE := hE.trans E
  clear E c0 f0 d0 g0
  obtain ⟨c0, f0⟩ := blk_rules kB
  obtain ⟨d0, g0⟩ := blk_rules kI
  go_wp2_with fail
  refine (rsame_none _).mono ?_
  rintro e w10 ⟨rfl, E⟩
  replace kB := E.keep kB
  replace kI := E.keep kI
  replace hE := hE.trans E
  clear E c0 f0 d0 g0
  obtain ⟨c0, f0⟩ := blk_rules kB
  obtain ⟨d0, g0⟩ := blk_rules kI
  go_wp2_with fail
  refine (image_nil _).mono ?_
  rintro e w11 ⟨rfl, E⟩
  replace kB := E.keep kB
  replace kI := E.keep kI
  replace hE := hE.trans E
  clear E c0 f0 d0 g0
  obtain ⟨c0, f0⟩ := blk_rules kB
  obtain ⟨d0, g0⟩ := blk_rules kI
  go_wp2_with fail
  refine (rsame_none _).mono ?_
  rintro e w12 ⟨rfl, E⟩
  replace kB := E.keep kB
  replace kI := E.keep kI
  replace hE := hE.trans E
  clear E c0 f0 d0 g0
  obtain ⟨c0, f0⟩ := blk_rules kB
  obtain ⟨d0, g0⟩ := blk_rules kI
  go_wp2_with fail
  refine (same_nil _).mono ?_
  rintro e w13 ⟨rfl, rfl⟩
  go_wp2_with fail
  refine (clone_nil _).mono ?_
  rintro e w14 ⟨rfl, rfl⟩
  go_wp2_with fail
  refine (wakes3_any _).mono ?_
  rintro e w15 ⟨rfl, E⟩
  go_wp2_with fail
  go_ret
  exact ⟨rfl, hE.trans E⟩
end Go.Proofs.Ytjghghbldifhaaa
