/- scroll.Find in one contract; what is known to have moved. -/
/- The law ScrollTells. Printed by gen_scrt.py. -/
import Derived.Test.YtjghghbldifhaaaScrI
import Derived.Test.YtjghghbldifhaaaScrE
import Derived.Test.YtjghghbldifhaaaArgs
set_option linter.unusedVariables false
set_option linter.unusedSimpArgs false
namespace Go.Proofs.Ytjghghbldifhaaa
open Go.RowKit
theorem scroll_any (A A' lA : Option Addr) (ca cb lc : Nat) (W H W' H' : Int) (xs ys : List Int) (l : List Rect) (w : World) (rx : Reads .u32 w A xs) (ry : Reads .u32 w A' ys) (hx : ∀ x ∈ xs, 0 ≤ x ∧ x ≤ 4294967295) (hy : ∀ x ∈ ys, 0 ≤ x ∧ x ≤ 4294967295) (rl : RectsAt w lA l) (hl : l.length ≤ 100000) :
    Calls Try.prog 52 #[.agg #[.int .i64 W, .int .i64 H, .slice A xs.length ca], .agg #[.int .i64 W', .int .i64 H', .slice A' ys.length cb], .slice lA l.length lc] w (GivesC (boxOf W H l) (scrollOf W H xs W' H' ys l) w) := by
  unfold scrollOf
  cases h : isPic W H xs.length
  · cases h2 : isPic W' H' ys.length
    · exact scroll_no1 A A' lA ca cb lc _ W H W' H' xs ys _ w h h2 rx ry hx hy
    · exact scroll_no2 A A' lA ca cb lc _ W H W' H' xs ys _ w h h2 rx ry hx hy
  · cases h2 : isPic W' H' ys.length
    · exact scroll_no3 A A' lA ca cb lc _ W H W' H' xs ys _ w h h2 rx ry hx hy
    · by_cases h3 : W = W'
      · by_cases h4 : H = H'
        · subst h3
          subst h4
          rw [if_pos (by simp)]
          exact scroll_good A A' lA ca cb lc W H xs ys l w h h2 rx ry hx hy rl hl
        · rw [if_neg (by simp [h4])]
          exact scroll_no5 A A' lA ca cb lc _ W H W' H' xs ys _ w h h2 rx ry hx hy h3 h4
      · rw [if_neg (by simp [h3])]
        exact scroll_no4 A A' lA ca cb lc _ W H W' H' xs ys _ w h h2 rx ry hx hy h3
theorem eq_rect9 (d : Nat) (x y a b p q c e : Int) (w : World) : (Op.equalIn (d + 1 + 1 + 1) 26 (.agg #[.int .i64 x, .int .i64 y, .int .i64 a, .int .i64 b]) (.agg #[.int .i64 p, .int .i64 q, .int .i64 c, .int .i64 e])).run Try.prog w = .ok (Rect.eqB ⟨x, y, a, b⟩ ⟨p, q, c, e⟩) w := by
  have hS : Try.prog.underlying 26 = some (.struct (Try.prog.fieldsOf 26)) := by kernel_rfl
  have hp : Try.prog.stoodInHeld 26 = false := by kernel_rfl
  rw [run_equalIn_agg w _ 26 _ _ hS hp]
  simp only [Program.fieldsOf, Try.underlying26]
  go_simp
  simp only [Rect.eqB]
  by_cases h1 : x = p <;> by_cases h2 : y = q <;> by_cases h3 : a = c <;> by_cases h4 : b = e <;> simp [h1, h2, h3, h4]
attribute [local go_sem ↓] eq_rect9
set_option maxRecDepth 20000 in
theorem eq_copy (x y a b e f p q c d g h : Int) (w : World) : (binOp .eql 54 (.agg #[.int .i64 x, .int .i64 y, .int .i64 a, .int .i64 b, .int .i64 e, .int .i64 f]) (.agg #[.int .i64 p, .int .i64 q, .int .i64 c, .int .i64 d, .int .i64 g, .int .i64 h])).run Try.prog w = .ok (.bool (Rect.eqB ⟨x, y, a, b⟩ ⟨p, q, c, d⟩ && (e == g && f == h))) w := by
  have hS : Try.prog.underlying 54 = some (.struct (Try.prog.fieldsOf 54)) := by kernel_rfl
  have hp : Try.prog.stoodInHeld 54 = false := by kernel_rfl
  have hR := fun w => eq_rect9 9996 x y a b p q c d w
  simp only [Nat.reduceAdd] at hR
  obtain ⟨r, hr⟩ : ∃ r, Rect.eqB ⟨x, y, a, b⟩ ⟨p, q, c, d⟩ = r := ⟨_, rfl⟩
  rw [run_eql_struct, show (10000 : Nat) = 9999 + 1 from rfl, run_equalIn_agg w 9999 54 _ _ hS hp]
  simp only [Program.fieldsOf, Try.underlying54]
  simp only [Op.eqFields, ne_eq, String.reduceEq, not_false_eq_true, if_true]
  go_simp
  cases r <;> by_cases h5 : e = g <;> by_cases h6 : f = h <;> simp [h5, h6]
set_option maxRecDepth 20000 in
theorem neq_copy (x y a b e f p q c d g h : Int) (w : World) : (binOp .neq 54 (.agg #[.int .i64 x, .int .i64 y, .int .i64 a, .int .i64 b, .int .i64 e, .int .i64 f]) (.agg #[.int .i64 p, .int .i64 q, .int .i64 c, .int .i64 d, .int .i64 g, .int .i64 h])).run Try.prog w = .ok (.bool (!(Rect.eqB ⟨x, y, a, b⟩ ⟨p, q, c, d⟩ && (e == g && f == h)))) w := by
  have hS : Try.prog.underlying 54 = some (.struct (Try.prog.fieldsOf 54)) := by kernel_rfl
  have hp : Try.prog.stoodInHeld 54 = false := by kernel_rfl
  have hR := fun w => eq_rect9 9996 x y a b p q c d w
  simp only [Nat.reduceAdd] at hR
  obtain ⟨r, hr⟩ : ∃ r, Rect.eqB ⟨x, y, a, b⟩ ⟨p, q, c, d⟩ = r := ⟨_, rfl⟩
  rw [run_neq_struct, show (10000 : Nat) = 9999 + 1 from rfl, run_equalIn_agg w 9999 54 _ _ hS hp]
  simp only [Program.fieldsOf, Try.underlying54]
  simp only [Op.eqFields, ne_eq, String.reduceEq, not_false_eq_true, if_true]
  go_simp
  cases r <;> by_cases h5 : e = g <;> by_cases h6 : f = h <;> simp [h5, h6]
theorem reads_b18 {k : IntKind} {w : World} {B : Nat} {xs : Array Value} {t : TypeId} {fr : Nat × Nat} {l : List Int} (h : w.heap[B]? = some (.cells xs t fr)) (e : xs.toList = nums k l) : Reads k w (some ⟨B, 0, none⟩) l := fun i hi => ⟨B, 0, rfl, by
  rw [blk_cell h, ← Array.getElem?_toList, e, Nat.zero_add]
  exact nums_get hi⟩
theorem strip_any (A : Option Addr) (n c : Nat) (w : World) : Calls Try.prog 100 #[.slice A n c] w fun e w' => e = .returned (.agg #[.int .i64 1, .int .i64 n, .slice A n c]) ∧ Ext w w' := by
  go_enter Try.func100, Try.ntmps100
  go_wp2_with fail
  refine bodyPost_ret (v := .agg #[.int .i64 1, .int .i64 n, .slice A n c]) (by simp only [results, Try.results100]; go_simp; done) rfl ⟨rfl, (Ext.refl w).alloc _⟩

def s18all4 : List Rect := [⟨0, 0, 1, 4⟩]
theorem s18wk1 : scrollOf 1 4 [1, 2, 3, 4] 1 4 [9, 1, 2, 3] s18all4 = some 0 ∧ cpTo (boxOf 1 4 s18all4) (some 0) = ⟨0, 1, 1, 3⟩ := by decide +kernel
theorem s18wk2 : scrollOf 1 4 [1, 2, 3, 4] 1 4 [2, 3, 4, 9] s18all4 = some 1 ∧ cpTo (boxOf 1 4 s18all4) (some 1) = ⟨0, 0, 1, 3⟩ := by decide +kernel
theorem s18wk3 : scrollOf 1 4 [1, 2, 3, 4] 1 4 [4, 3, 2, 1] s18all4 = none := by decide +kernel
theorem s18wv1 : copyV (boxOf 1 4 s18all4) (some 0) = .agg #[.int .i64 0, .int .i64 1, .int .i64 1, .int .i64 3, .int .i64 0, .int .i64 1] := by
  unfold copyV
  rw [s18wk1.2]
  rfl
theorem s18wv2 : copyV (boxOf 1 4 s18all4) (some 1) = .agg #[.int .i64 0, .int .i64 0, .int .i64 1, .int .i64 3, .int .i64 0, .int .i64 (-1)] := by
  unfold copyV
  rw [s18wk2.2]
  rfl
theorem s18wv3 : copyV (boxOf 1 4 s18all4) none = .agg #[.int .i64 0, .int .i64 0, .int .i64 0, .int .i64 0, .int .i64 0, .int .i64 0] := rfl
theorem s18bd4 {a b c d : Int} (h : 0 ≤ a ∧ a ≤ 9 ∧ 0 ≤ b ∧ b ≤ 9 ∧ 0 ≤ c ∧ c ≤ 9 ∧ 0 ≤ d ∧ d ≤ 9) : ∀ x ∈ [a, b, c, d], 0 ≤ x ∧ x ≤ 4294967295 := fun x hx => by
  simp only [List.mem_cons, List.not_mem_nil, or_false] at hx
  omega
attribute [local go_sem ↓] eq_copy
set_option maxRecDepth 100000 in
set_option maxHeartbeats 8000000 in
theorem wakes18_any (w : World) : Calls Try.prog 51 #[] w fun e w' => e = .returned (.bool true) ∧ Ext w w' := by
  go_enter Try.func51, Try.ntmps51
  go_wp2_with fail
  obtain ⟨w0, hw0⟩ : ∃ x, x = w.alloc (.cells #[.int .i64 0, .int .i64 0, .int .i64 1, .int .i64 4] 26) := ⟨_, rfl⟩
  have kl : w0.heap[w.heap.size]? = some (.cells #[.int .i64 0, .int .i64 0, .int .i64 1, .int .i64 4] 26 (0, 0)) := by rw [hw0]; exact blk_new _ _
  have hE : Ext w w0 := by rw [hw0]; exact (Ext.refl _).alloc _
  have hs0 : w0.heap.size = w.heap.size + 1 := by rw [hw0]; simp
  rw [← hw0]
  clear hw0
  obtain ⟨L, hL⟩ : ∃ x, w.heap.size = x := ⟨_, rfl⟩
  simp only [hL] at kl hs0 ⊢
  clear hL
  have r0 : Reads .u32 (w0.alloc (.cells #[.int .u32 1, .int .u32 2, .int .u32 3, .int .u32 4] 58)) (some ⟨L + 1, 0, none⟩) [1, 2, 3, 4] := by rw [← hs0]; exact reads_b18 (blk_new _ _) rfl
  refine (strip_any _ 4 4 _).mono ?_
  rintro e u00 ⟨rfl, E⟩
  replace r0 := Lib.hid (r0.ext E)
  replace E := ((Ext.refl w0).alloc _).trans E
  replace kl := E.keep kl
  replace hE := hE.trans E
  clear E hs0
  go_wp2_with fail
  have r1 : Reads .u32 (u00.alloc (.cells #[.int .u32 9, .int .u32 1, .int .u32 2, .int .u32 3] 58)) (some ⟨u00.heap.size, 0, none⟩) [9, 1, 2, 3] := reads_b18 (blk_new _ _) rfl
  refine (strip_any _ 4 4 _).mono ?_
  rintro e u01 ⟨rfl, E⟩
  replace r1 := Lib.hid (r1.ext E)
  replace E := ((Ext.refl u00).alloc _).trans E
  replace kl := E.keep kl
  replace r0 := Lib.hid (r0.out.ext E)
  replace hE := hE.trans E
  clear E
  go_wp2_with fail
  refine (scroll_any _ _ (some ⟨L, 0, none⟩) 4 4 1 1 4 1 4 [1, 2, 3, 4] [9, 1, 2, 3] s18all4 _ r0.out r1.out (s18bd4 (by decide)) (s18bd4 (by decide)) (rects_block kl rfl) (by decide)).mono ?_
  rw [s18wk1.1]
  unfold GivesC
  rw [s18wv1]
  rintro e v0 ⟨rfl, E⟩
  replace kl := E.keep kl
  replace hE := hE.trans E
  clear E r0 r1
  go_wp2_with fail
  obtain ⟨q0, hq0⟩ : ∃ x, x = v0.alloc (.cells #[.int .i64 0, .int .i64 1, .int .i64 1, .int .i64 3, .int .i64 0, .int .i64 1] 54) := ⟨_, rfl⟩
  have kA : q0.heap[v0.heap.size]? = some (.cells #[.int .i64 0, .int .i64 1, .int .i64 1, .int .i64 3, .int .i64 0, .int .i64 1] 54 (0, 0)) := by rw [hq0]; exact blk_new _ _
  have E : Ext v0 q0 := by rw [hq0]; exact (Ext.refl _).alloc _
  have hs0 : q0.heap.size = v0.heap.size + 1 := by rw [hq0]; simp
  rw [← hq0]
  clear hq0
  replace kl := E.keep kl
  replace hE := hE.trans E
  obtain ⟨PA, hPA⟩ : ∃ x, v0.heap.size = x := ⟨_, rfl⟩
  simp only [hPA] at kA hs0 ⊢
  clear hPA E
  have r0 : Reads .u32 (q0.alloc (.cells #[.int .u32 1, .int .u32 2, .int .u32 3, .int .u32 4] 58)) (some ⟨PA + 1, 0, none⟩) [1, 2, 3, 4] := by rw [← hs0]; exact reads_b18 (blk_new _ _) rfl
  refine (strip_any _ 4 4 _).mono ?_
  rintro e u10 ⟨rfl, E⟩
  replace r0 := Lib.hid (r0.ext E)
  replace E := ((Ext.refl q0).alloc _).trans E
  replace kl := E.keep kl
  replace kA := E.keep kA
  replace hE := hE.trans E
  clear E hs0
  go_wp2_with fail
  have r1 : Reads .u32 (u10.alloc (.cells #[.int .u32 2, .int .u32 3, .int .u32 4, .int .u32 9] 58)) (some ⟨u10.heap.size, 0, none⟩) [2, 3, 4, 9] := reads_b18 (blk_new _ _) rfl
  refine (strip_any _ 4 4 _).mono ?_
  rintro e u11 ⟨rfl, E⟩
  replace r1 := Lib.hid (r1.ext E)
  replace E := ((Ext.refl u10).alloc _).trans E
  replace kl := E.keep kl
  replace kA := E.keep kA
  replace r0 := Lib.hid (r0.out.ext E)
  replace hE := hE.trans E
  clear E
  go_wp2_with fail
  refine (scroll_any _ _ (some ⟨L, 0, none⟩) 4 4 1 1 4 1 4 [1, 2, 3, 4] [2, 3, 4, 9] s18all4 _ r0.out r1.out (s18bd4 (by decide)) (s18bd4 (by decide)) (rects_block kl rfl) (by decide)).mono ?_
  rw [s18wk2.1]
  unfold GivesC
  rw [s18wv2]
  rintro e v1 ⟨rfl, E⟩
  replace kl := E.keep kl
  replace kA := E.keep kA
  replace hE := hE.trans E
  clear E r0 r1
  go_wp2_with fail
  obtain ⟨q1, hq1⟩ : ∃ x, x = v1.alloc (.cells #[.int .i64 0, .int .i64 0, .int .i64 1, .int .i64 3, .int .i64 0, .int .i64 (-1)] 54) := ⟨_, rfl⟩
  have kB : q1.heap[v1.heap.size]? = some (.cells #[.int .i64 0, .int .i64 0, .int .i64 1, .int .i64 3, .int .i64 0, .int .i64 (-1)] 54 (0, 0)) := by rw [hq1]; exact blk_new _ _
  have E : Ext v1 q1 := by rw [hq1]; exact (Ext.refl _).alloc _
  have hs0 : q1.heap.size = v1.heap.size + 1 := by rw [hq1]; simp
  rw [← hq1]
  clear hq1
  replace kl := E.keep kl
  replace kA := E.keep kA
  replace hE := hE.trans E
  obtain ⟨PB, hPB⟩ : ∃ x, v1.heap.size = x := ⟨_, rfl⟩
  simp only [hPB] at kB hs0 ⊢
  clear hPB E
  have r0 : Reads .u32 (q1.alloc (.cells #[.int .u32 1, .int .u32 2, .int .u32 3, .int .u32 4] 58)) (some ⟨PB + 1, 0, none⟩) [1, 2, 3, 4] := by rw [← hs0]; exact reads_b18 (blk_new _ _) rfl
  refine (strip_any _ 4 4 _).mono ?_
  rintro e u20 ⟨rfl, E⟩
  replace r0 := Lib.hid (r0.ext E)
  replace E := ((Ext.refl q1).alloc _).trans E
  replace kl := E.keep kl
  replace kA := E.keep kA
  replace kB := E.keep kB
  replace hE := hE.trans E
  clear E hs0
  go_wp2_with fail
  have r1 : Reads .u32 (u20.alloc (.cells #[.int .u32 4, .int .u32 3, .int .u32 2, .int .u32 1] 58)) (some ⟨u20.heap.size, 0, none⟩) [4, 3, 2, 1] := reads_b18 (blk_new _ _) rfl
  refine (strip_any _ 4 4 _).mono ?_
  rintro e u21 ⟨rfl, E⟩
  replace r1 := Lib.hid (r1.ext E)
  replace E := ((Ext.refl u20).alloc _).trans E
  replace kl := E.keep kl
  replace kA := E.keep kA
  replace kB := E.keep kB
  replace r0 := Lib.hid (r0.out.ext E)
  replace hE := hE.trans E
  clear E
  go_wp2_with fail
  refine (scroll_any _ _ (some ⟨L, 0, none⟩) 4 4 1 1 4 1 4 [1, 2, 3, 4] [4, 3, 2, 1] s18all4 _ r0.out r1.out (s18bd4 (by decide)) (s18bd4 (by decide)) (rects_block kl rfl) (by decide)).mono ?_
  rw [s18wk3]
  unfold GivesC
  rw [s18wv3]
  rintro e v2 ⟨rfl, E⟩
  replace kl := E.keep kl
  replace kA := E.keep kA
  replace kB := E.keep kB
  replace hE := hE.trans E
  clear E r0 r1
  obtain ⟨cA, fA⟩ := blk_rules kA
  obtain ⟨cB, fB⟩ := blk_rules kB
  have lA := blk_lt kA
  have lB := blk_lt kB
  go_wp2_with fail
  go_ret
  exact ⟨rfl, hE.alloc _⟩
end Go.Proofs.Ytjghghbldifhaaa
set_option linter.unusedVariables false
set_option linter.unusedSimpArgs false
namespace Go.Proofs.Ytjghghbldifhaaa
open Go.RowKit
attribute [local go_sem ↓] eq_copy
theorem GivesC.form {box : Rect} {o : Option Nat} {w : World} {e : Ending} {w' : World} (h : GivesC box o w e w') {t : Rect} {s : Int × Int} {is : Bool} (ht : cpTo box o = t) (hs : cpBy o = s) (his : o.isSome = is) : e = .returned (.tuple #[.agg #[.int .i64 t.x, .int .i64 t.y, .int .i64 t.w, .int .i64 t.h, .int .i64 s.1, .int .i64 s.2], .bool is]) ∧ Ext w w' := by
  unfold GivesC copyV at h
  rw [ht, hs, his] at h
  exact h
set_option maxRecDepth 100000 in
set_option maxHeartbeats 8000000 in
theorem tells18_in (W H : Int) (A : Option Addr) (ca : Nat) (xs : List Int) (W' H' : Int) (A' : Option Addr) (cb : Nat) (ys : List Int) (lA : Option Addr) (lc : Nat) (l : List Rect) (w : World) (rx : Reads .u32 w A xs) (ry : Reads .u32 w A' ys) (hx : ∀ x ∈ xs, 0 ≤ x ∧ x ≤ 4294967295) (hy : ∀ x ∈ ys, 0 ≤ x ∧ x ≤ 4294967295) (rl : RectsAt w lA l) (d1 : ((400 : Int) < xs.length) = False) (d2 : ((400 : Int) < ys.length) = False) (hl : l.length ≤ 16) :
    Calls Try.prog 8 #[.agg #[.int .i64 W, .int .i64 H, .slice A xs.length ca], .agg #[.int .i64 W', .int .i64 H', .slice A' ys.length cb], .slice lA l.length lc] w fun e w' => e = .returned (.bool true) ∧ Ext w w' := by
  have d3 : ((16 : Int) < l.length) = False := by simp; omega
  obtain ⟨t, ht⟩ : ∃ t, cpTo (boxOf W H l) (scrollOf W H xs W' H' ys l) = t := ⟨_, rfl⟩
  obtain ⟨⟨dx, dy⟩, hs⟩ : ∃ s, cpBy (scrollOf W H xs W' H' ys l) = s := ⟨_, rfl⟩
  obtain ⟨is, his⟩ : ∃ is, (scrollOf W H xs W' H' ys l).isSome = is := ⟨_, rfl⟩
  have C1 := Lib.hid fun (w1 : World) (E : Ext w w1) => (scroll_any A A' lA ca cb lc W H W' H' xs ys l w1 (rx.ext E) (ry.ext E) hx hy (rl.ext E) (by omega)).mono fun e w' h => GivesC.form h ht hs his
  have C2 := Lib.hid fun (w1 : World) (E : Ext w w1) => (rscroll_any A A' lA ca cb lc W H W' H' xs ys l w1 (rx.ext E) (ry.ext E) hx hy (rl.ext E) (by omega)).mono fun e w' h => GivesC.form h ht hs his
  clear ht hs his rx ry rl hx hy hl
  obtain ⟨x, y, a, b⟩ := t
  dsimp only at C1 C2
  have e1 : Rect.eqB ⟨x, y, a, b⟩ ⟨x, y, a, b⟩ = true := Rect.eqB_iff.2 rfl
  go_enter Try.func8, Try.ntmps8
  go_upto_region 1 with fail
  obtain ⟨w0, hw0⟩ : ∃ zz, zz = (w.alloc (.cells #[.int .i64 W, .int .i64 H, .slice A xs.length ca] 43)).alloc (.cells #[.int .i64 W', .int .i64 H', .slice A' ys.length cb] 43) := ⟨_, rfl⟩
  have k0 : w0.heap[w.heap.size]? = some (.cells #[.int .i64 W, .int .i64 H, .slice A xs.length ca] 43 (0, 0)) := by rw [hw0]; exact blk_old (blk_new w _) _
  have k1 : w0.heap[w.heap.size + 1]? = some (.cells #[.int .i64 W', .int .i64 H', .slice A' ys.length cb] 43 (0, 0)) := by rw [hw0]; exact blk_new1 w _ _
  have hE : Ext w w0 := by rw [hw0]; exact ((Ext.refl w).alloc _).alloc _
  rw [← hw0]
  clear hw0
  obtain ⟨c0, f0⟩ := blk_rules k0
  obtain ⟨c1, f1⟩ := blk_rules k1
  go_wp2_with fail
  clear c0 f0 c1 f1
  refine (C1.out _ hE).mono ?_
  rintro e w1 ⟨rfl, E⟩
  replace k0 := E.keep k0
  replace k1 := E.keep k1
  replace hE := hE.trans E
  clear E
  obtain ⟨c0, f0⟩ := blk_rules k0
  have l0 := blk_lt k0
  obtain ⟨c1, f1⟩ := blk_rules k1
  have l1 := blk_lt k1
  go_wp2_with fail
  clear c0 f0 l0
  clear c1 f1 l1
  obtain ⟨v1, hv1⟩ : ∃ zz, zz = w1.alloc (.cells #[.int .i64 x, .int .i64 y, .int .i64 a, .int .i64 b, .int .i64 dx, .int .i64 dy] 54) := ⟨_, rfl⟩
  have k7 : v1.heap[w1.heap.size]? = some (.cells #[.int .i64 x, .int .i64 y, .int .i64 a, .int .i64 b, .int .i64 dx, .int .i64 dy] 54 (0, 0)) := by rw [hv1]; exact blk_new _ _
  have E : Ext w1 v1 := by rw [hv1]; exact (Ext.refl _).alloc _
  rw [← hv1]
  clear hv1
  replace k0 := E.keep k0
  replace k1 := E.keep k1
  replace hE := hE.trans E
  clear E
  obtain ⟨Pk7, hPk7⟩ : ∃ zz, w1.heap.size = zz := ⟨_, rfl⟩
  simp only [hPk7] at k7 ⊢
  clear hPk7
  refine (C2.out _ hE).mono ?_
  rintro e w2 ⟨rfl, E⟩
  replace k7 := E.keep k7
  replace hE := hE.trans E
  clear E
  obtain ⟨c7, f7⟩ := blk_rules k7
  have l7 := blk_lt k7
  cases is
  all_goals
    go_wp2_with fail
    refine (wakes18_any _).mono ?_
    rintro e w3 ⟨rfl, E⟩
    go_wp2_with fail
    go_ret
    exact ⟨rfl, hE.trans (Ext.of_alloc E)⟩
theorem tells18_any (W H : Int) (A : Option Addr) (ca : Nat) (xs : List Int) (W' H' : Int) (A' : Option Addr) (cb : Nat) (ys : List Int) (lA : Option Addr) (lc : Nat) (l : List Rect) (w : World) (rx : Reads .u32 w A xs) (ry : Reads .u32 w A' ys) (hx : ∀ x ∈ xs, 0 ≤ x ∧ x ≤ 4294967295) (hy : ∀ x ∈ ys, 0 ≤ x ∧ x ≤ 4294967295) (rl : RectsAt w lA l) :
    Calls Try.prog 8 #[.agg #[.int .i64 W, .int .i64 H, .slice A xs.length ca], .agg #[.int .i64 W', .int .i64 H', .slice A' ys.length cb], .slice lA l.length lc] w fun e w' => e = .returned (.bool true) ∧ Ext w w' := by
  by_cases h1 : xs.length ≤ 400
  · have d1 : ((400 : Int) < xs.length) = False := by simp; omega
    by_cases h2 : ys.length ≤ 400
    · have d2 : ((400 : Int) < ys.length) = False := by simp; omega
      by_cases h3 : l.length ≤ 16
      · exact tells18_in W H A ca xs W' H' A' cb ys lA lc l w rx ry hx hy rl d1 d2 h3
      · have d3 : ((16 : Int) < l.length) = True := by simp; omega
        clear rx ry rl
        go_enter Try.func8, Try.ntmps8
        go_upto_region 1 with fail
        obtain ⟨w0, hw0⟩ : ∃ zz, zz = (w.alloc (.cells #[.int .i64 W, .int .i64 H, .slice A xs.length ca] 43)).alloc (.cells #[.int .i64 W', .int .i64 H', .slice A' ys.length cb] 43) := ⟨_, rfl⟩
        have k0 : w0.heap[w.heap.size]? = some (.cells #[.int .i64 W, .int .i64 H, .slice A xs.length ca] 43 (0, 0)) := by rw [hw0]; exact blk_old (blk_new w _) _
        have k1 : w0.heap[w.heap.size + 1]? = some (.cells #[.int .i64 W', .int .i64 H', .slice A' ys.length cb] 43 (0, 0)) := by rw [hw0]; exact blk_new1 w _ _
        have hE : Ext w w0 := by rw [hw0]; exact ((Ext.refl w).alloc _).alloc _
        rw [← hw0]
        clear hw0
        obtain ⟨c0, f0⟩ := blk_rules k0
        obtain ⟨c1, f1⟩ := blk_rules k1
        go_wp2_with fail
        refine (wakes18_any _).mono ?_
        rintro e w1 ⟨rfl, E⟩
        go_wp2_with fail
        go_ret
        exact ⟨rfl, hE.trans E⟩
    · have d2 : ((400 : Int) < ys.length) = True := by simp; omega
      clear rx ry rl
      go_enter Try.func8, Try.ntmps8
      go_upto_region 1 with fail
      obtain ⟨w0, hw0⟩ : ∃ zz, zz = (w.alloc (.cells #[.int .i64 W, .int .i64 H, .slice A xs.length ca] 43)).alloc (.cells #[.int .i64 W', .int .i64 H', .slice A' ys.length cb] 43) := ⟨_, rfl⟩
      have k0 : w0.heap[w.heap.size]? = some (.cells #[.int .i64 W, .int .i64 H, .slice A xs.length ca] 43 (0, 0)) := by rw [hw0]; exact blk_old (blk_new w _) _
      have k1 : w0.heap[w.heap.size + 1]? = some (.cells #[.int .i64 W', .int .i64 H', .slice A' ys.length cb] 43 (0, 0)) := by rw [hw0]; exact blk_new1 w _ _
      have hE : Ext w w0 := by rw [hw0]; exact ((Ext.refl w).alloc _).alloc _
      rw [← hw0]
      clear hw0
      obtain ⟨c0, f0⟩ := blk_rules k0
      obtain ⟨c1, f1⟩ := blk_rules k1
      go_wp2_with fail
      refine (wakes18_any _).mono ?_
      rintro e w1 ⟨rfl, E⟩
      go_wp2_with fail
      go_ret
      exact ⟨rfl, hE.trans E⟩
  · have d1 : ((400 : Int) < xs.length) = True := by simp; omega
    clear rx ry rl
    go_enter Try.func8, Try.ntmps8
    go_upto_region 1 with fail
    obtain ⟨w0, hw0⟩ : ∃ zz, zz = (w.alloc (.cells #[.int .i64 W, .int .i64 H, .slice A xs.length ca] 43)).alloc (.cells #[.int .i64 W', .int .i64 H', .slice A' ys.length cb] 43) := ⟨_, rfl⟩
    have k0 : w0.heap[w.heap.size]? = some (.cells #[.int .i64 W, .int .i64 H, .slice A xs.length ca] 43 (0, 0)) := by rw [hw0]; exact blk_old (blk_new w _) _
    have k1 : w0.heap[w.heap.size + 1]? = some (.cells #[.int .i64 W', .int .i64 H', .slice A' ys.length cb] 43 (0, 0)) := by rw [hw0]; exact blk_new1 w _ _
    have hE : Ext w w0 := by rw [hw0]; exact ((Ext.refl w).alloc _).alloc _
    rw [← hw0]
    clear hw0
    obtain ⟨c0, f0⟩ := blk_rules k0
    obtain ⟨c1, f1⟩ := blk_rules k1
    go_wp2_with fail
    refine (wakes18_any _).mono ?_
    rintro e w1 ⟨rfl, E⟩
    go_wp2_with fail
    go_ret
    exact ⟨rfl, hE.trans E⟩
end Go.Proofs.Ytjghghbldifhaaa
