/- The inner loop of vignetteref02.Of: a band. -/
import Derived.Test.YtjghghbldifhaaaRunsD
import Derived.Test.YtjghghbldifhaaaRegB
import Derived.Test.YtjghghbldifhaaaActB
import Derived.StillTail
import Derived.StillTailTactics
set_option linter.unusedVariables false
set_option linter.unusedSimpArgs false
namespace Go.Proofs.Ytjghghbldifhaaa
open Go.RowKit

def rectOf (y0 y1 : Int) (s : Run Bool) : Rect := ⟨s.a, y0, s.b - s.a, y1 - y0⟩
/-- The first i cells of a band, as rectangles. -/
def bandL (how : Int) (a b : List Rect) (xs : List Int) (y0 y1 : Int) (i : Nat) : List Rect := (cellsOf false (rowF how a b y0) xs i).map (rectOf y0 y1)
theorem bandL_skip {how : Int} {a b : List Rect} {xs : List Int} {y0 y1 : Int} {i : Nat} (h : rowF how a b y0 (xs.getD i 0) = false) : bandL how a b xs y0 y1 (i + 1) = bandL how a b xs y0 y1 i := by
  unfold bandL
  show (runsPush _ _ _ _ _).map _ = _
  unfold runsPush
  rw [if_pos h]
theorem bandL_new {how : Int} {a b : List Rect} {xs : List Int} {y0 y1 : Int} {i : Nat} (h : rowF how a b y0 (xs.getD i 0) = true) (hl : ∀ s ∈ (cellsOf false (rowF how a b y0) xs i).getLast?, s.b ≠ xs.getD i 0) : bandL how a b xs y0 y1 (i + 1) = bandL how a b xs y0 y1 i ++ [⟨xs.getD i 0, y0, xs.getD (i + 1) 0 - xs.getD i 0, y1 - y0⟩] := by
  unfold bandL
  show (runsPush _ _ _ _ _).map _ = _
  unfold runsPush
  rw [if_neg (by rw [h]; simp)]
  cases hc : (cellsOf false (rowF how a b y0) xs i).getLast? with
  | none =>
    have : cellsOf false (rowF how a b y0) xs i = [] := by simpa using hc
    rw [this]
    rfl
  | some s =>
    dsimp only
    rw [if_neg (fun e => hl s hc e.1), List.map_append]
    rfl
theorem bandL_grow {how : Int} {a b : List Rect} {xs : List Int} {y0 y1 : Int} {i : Nat} {l0 : List (Run Bool)} {s : Run Bool} (h : rowF how a b y0 (xs.getD i 0) = true) (hc : cellsOf false (rowF how a b y0) xs i = l0 ++ [s]) (hv : s.v = true) (hb : s.b = xs.getD i 0) : bandL how a b xs y0 y1 (i + 1) = l0.map (rectOf y0 y1) ++ [⟨s.a, y0, xs.getD (i + 1) 0 - s.a, y1 - y0⟩] := by
  unfold bandL
  show (runsPush _ _ _ _ _).map _ = _
  unfold runsPush
  rw [if_neg (by rw [h]; simp), hc, show (l0 ++ [s]).getLast? = some s by simp]
  dsimp only
  rw [if_pos ⟨hb, by rw [hv, h]⟩, List.dropLast_concat, List.map_append]
  rfl
theorem rcells_setw {L0 : List Rect} {r : Rect} {v : Int} {m : Nat} (hm : L0.length = m) : (rcells (L0 ++ [r])).set (m * 4 + 2) (.int .i64 v) = rcells (L0 ++ [(⟨r.x, r.y, v, r.h⟩ : Rect)]) := by
  have h1 : ∀ q : Rect, rcells (L0 ++ [q]) = rcells L0 ++ rcell q := fun q => by simp [rcells]
  have h2 : (rcells L0).length = m * 4 := by rw [rcells_length, hm]
  rw [h1, h1, List.set_append_right _ _ (by omega), h2, show m * 4 + 2 - m * 4 = 2 by omega]
  rfl
/-- The loop over the cells of a row. -/
noncomputable def bandB : Code := (Try.f32.body.bind (findBlock 2)).getD .skip

set_option maxRecDepth 100000 in
set_option maxHeartbeats 16000000 in
theorem band_block (c3 c4 c5 c6 c9 c10 c14 c15 c16 c17 c18 c19 c20 c21 c22 c23 c24 c25 c26 c27 c28 c29 c30 c31 c32 c33 c34 c35 c36 c37 c38 c39 c40 c41 c42 c43 c44 c45 c46 c47 c48 c49 c50 c51 c52 c53 c54 c55 c56 c57 c58 c59 c60 c61 c62 c63 c64 c65 c66 c67 c68 c69 c70 c71 c72 c73 c74 c75 c76 c77 c78 c79 c80 c81 c82 c83 c84 c85 c86 c87 c88 c89 c90 c91 c92 c93 c94 c95 c96 c97 c98 c99 c100 c101 c102 c103 c104 c105 c106 c107 c108 c109 c110 c111 c112 c113 c114 c115 c116 c117 c118 c119 c120 c121 c122 c123 c124 c125 c126 c127 c128 c129 c130 c131 c132 c133 c134 c135 c136 c137 c138 c139 c140 c141 c142 c143 c144 c145 c146 c147 c148 c149 c150 c151 c152 c153 c154 c155 c156 c157 c158 c159 c160 c161 c162 c163 c164 c165 c166 c167 c168 c169 c170 c171 c172 c173 c174 c175 c176 c177 c178 c179 c180 c181 c182 : Value) (w : World) (aA bA xA yA : Option Addr) (ca cb xc yc j : Nat) (a b : List Rect) (how : Int) (xs ys : List Int) (y0 y1 : Int) (K : Act → World → Prop) (Q' : Exit → Act → World → Prop)
    (ha : RectsAt w aA a) (hb : RectsAt w bA b) (hal : a.length ≤ 1000000) (hbl : b.length ≤ 1000000) (hx : Reads .i64 w xA xs) (hy : Reads .i64 w yA ys) (hxs : ∀ x ∈ xs, -1048576 ≤ x ∧ x ≤ 1048576) (hys : ∀ y ∈ ys, -1048576 ≤ y ∧ y ≤ 1048576) (hxn : xs.length ≤ 10000000) (hyn : ys.length ≤ 10000000) (hj : j + 1 < ys.length) (hy0 : ys.getD j 0 = y0) (hy1 : ys.getD (j + 1) 0 = y1)
    (hK : ∀ (u13 u30 u31 u32 u33 u34 u35 u36 u37 u38 u39 u40 u41 u42 u43 u44 u45 u46 u47 u48 u49 u50 u51 u52 u53 u54 u55 u56 u57 u58 u59 u60 u61 u62 u63 u64 u65 u66 u67 u68 u69 u70 u71 u72 u73 u74 u75 u76 u77 u78 u79 u80 u81 u82 u83 u84 u85 u86 u87 u88 u89 u90 u91 u92 u93 u94 u95 u96 u97 u98 u99 u100 u101 u102 u103 u104 u105 u106 u107 u108 u109 u110 u111 u112 u113 u114 u115 u116 u117 u118 u119 u120 u121 u122 u123 u124 u125 : Value) (B : Option Addr) (d : Nat) (w' : World), OwnR w' w.heap.size (.slice B (bandL how a b xs y0 y1 (xs.length - 1)).length d) (bandL how a b xs y0 y1 (xs.length - 1)) → Ext w w' → K { tmps := #[.slice aA a.length ca, .slice bA b.length cb, .int .i64 how, c3, c4, c5, c6, .slice xA xs.length xc, .slice yA ys.length yc, c9, c10, .int .i64 (j : Nat), .slice B (bandL how a b xs y0 y1 (xs.length - 1)).length d, u13, c14, c15, c16, c17, c18, c19, c20, c21, c22, c23, c24, c25, c26, c27, c28, c29, u30, u31, u32, u33, u34, u35, u36, u37, u38, u39, u40, u41, u42, u43, u44, u45, u46, u47, u48, u49, u50, u51, u52, u53, u54, u55, u56, u57, u58, u59, u60, u61, u62, u63, u64, u65, u66, u67, u68, u69, u70, u71, u72, u73, u74, u75, u76, u77, u78, u79, u80, u81, u82, u83, u84, u85, u86, u87, u88, u89, u90, u91, u92, u93, u94, u95, u96, u97, u98, u99, u100, u101, u102, u103, u104, u105, u106, u107, u108, u109, u110, u111, u112, u113, u114, u115, u116, u117, u118, u119, u120, u121, u122, u123, u124, u125, c126, c127, c128, c129, c130, c131, c132, c133, c134, c135, c136, c137, c138, c139, c140, c141, c142, c143, c144, c145, c146, c147, c148, c149, c150, c151, c152, c153, c154, c155, c156, c157, c158, c159, c160, c161, c162, c163, c164, c165, c166, c167, c168, c169, c170, c171, c172, c173, c174, c175, c176, c177, c178, c179, c180, c181, c182], defers := [] } w') :
    Code.wp Try.prog bandB (Exit.then K Q') { tmps := #[.slice aA a.length ca, .slice bA b.length cb, .int .i64 how, c3, c4, c5, c6, .slice xA xs.length xc, .slice yA ys.length yc, c9, c10, .int .i64 (j : Nat), .slice none 0 0, .int .i64 0, c14, c15, c16, c17, c18, c19, c20, c21, c22, c23, c24, c25, c26, c27, c28, c29, c30, c31, c32, c33, c34, c35, c36, c37, c38, c39, c40, c41, c42, c43, c44, c45, c46, c47, c48, c49, c50, c51, c52, c53, c54, c55, c56, c57, c58, c59, c60, c61, c62, c63, c64, c65, c66, c67, c68, c69, c70, c71, c72, c73, c74, c75, c76, c77, c78, c79, c80, c81, c82, c83, c84, c85, c86, c87, c88, c89, c90, c91, c92, c93, c94, c95, c96, c97, c98, c99, c100, c101, c102, c103, c104, c105, c106, c107, c108, c109, c110, c111, c112, c113, c114, c115, c116, c117, c118, c119, c120, c121, c122, c123, c124, c125, c126, c127, c128, c129, c130, c131, c132, c133, c134, c135, c136, c137, c138, c139, c140, c141, c142, c143, c144, c145, c146, c147, c148, c149, c150, c151, c152, c153, c154, c155, c156, c157, c158, c159, c160, c161, c162, c163, c164, c165, c166, c167, c168, c169, c170, c171, c172, c173, c174, c175, c176, c177, c178, c179, c180, c181, c182], defers := [] } w := by
  conv => arg 2; whnf
  have hgetx : ∀ i, i < xs.length → -1048576 ≤ xs.getD i 0 ∧ xs.getD i 0 ≤ 1048576 := fun i hi => by
    rw [List.getD_eq_getElem?_getD, List.getElem?_eq_getElem hi]
    exact hxs _ (List.getElem_mem hi)
  have hgety : ∀ i, i < ys.length → -1048576 ≤ ys.getD i 0 ∧ ys.getD i 0 ≤ 1048576 := fun i hi => by
    rw [List.getD_eq_getElem?_getD, List.getElem?_eq_getElem hi]
    exact hys _ (List.getElem_mem hi)
  have hb0 := hgety j (by omega)
  have hb1 := hgety (j + 1) (by omega)
  rw [hy0] at hb0
  rw [hy1] at hb1
  obtain ⟨yb, yo, rfl, hyc⟩ := hy.form (by omega)
  have hyj := hyc j (by omega)
  have hyj1 := hyc (j + 1) (by omega)
  rw [hy0] at hyj
  rw [hy1] at hyj1
  have HG := Lib.hid hgetx
  clear hgetx hgety hyc hxs hys hy0 hy1 hy
  go_wp2_with fail
  go_loopw [12, 13] (fun v iv wr => ∃ (i : Nat) (B : Option Addr) (d : Nat), (i + 1 ≤ xs.length ∨ i = 0) ∧ iv = .int .i64 i ∧ v = .slice B (bandL how a b xs y0 y1 i).length d ∧ OwnR wr w.heap.size (.slice B (bandL how a b xs y0 y1 i).length d) (bandL how a b xs y0 y1 i) ∧ Ext w wr) (fun _ iv _ => xs.length - (intOf iv).toNat)
  case atStart => exact ⟨0, none, 0, .inr rfl, rfl, rfl, World.ownsRow_nil _ _ _ _, Ext.refl _⟩
  case round =>
    obtain ⟨i, B, d, hi, rfl, rfl, hown, hE⟩ := hrel
    obtain ⟨L, hL⟩ : ∃ L, bandL how a b xs y0 y1 i = L := ⟨_, rfl⟩
    rw [hL] at hown
    simp only [hL]
    have HO := Lib.hid hown
    have HLL := Lib.hid hL
    clear hown hL
    by_cases hlt : i + 1 < xs.length
    · obtain ⟨xb, xo, rfl, hxc⟩ := hx.form (by omega)
      have hxi := hE.cellOf (hxc i (by omega))
      have hxi1 := hE.cellOf (hxc (i + 1) hlt)
      have g0 := HG.out i (by omega)
      have g1 := HG.out (i + 1) hlt
      have hyj' := hE.cellOf hyj
      have hxw := hxc i (by omega)
      have hxw1 := hxc (i + 1) hlt
      obtain ⟨X0, hX0⟩ : ∃ X, xs.getD i 0 = X := ⟨_, rfl⟩
      obtain ⟨X1, hX1⟩ : ∃ X, xs.getD (i + 1) 0 = X := ⟨_, rfl⟩
      have hin := fun (w' : World) (h : Ext wr w') => rin2_any aA bA ca cb a b X0 y0 how w' (ha.ext (hE.trans h)) (hb.ext (hE.trans h)) (by omega) (by omega)
      obtain ⟨v, hv⟩ : ∃ v, rowF how a b y0 (xs.getD i 0) = v := ⟨_, rfl⟩
      rw [show meant how (hasL a X0 y0) (hasL b X0 y0) = v by rw [← hX0]; exact hv] at hin
      have HV := Lib.hid hv
      rw [hX0] at hxi g0 hxw
      rw [hX1] at hxi1 g1 hxw1
      have HX0 := Lib.hid hX0
      have HX1 := Lib.hid hX1
      have hi0 : i < xs.length := by omega
      have hj0 : j < ys.length := by omega
      clear hv hxc hX0 hX1
      cases v
      · have j1 : ∀ y : After wr, y.now.cell? ⟨xb, xo + i, none⟩ = some (.int .i64 X0) := fun y => y.ext.cellOf hxi
        have j2 : ∀ y : After wr, y.now.cell? ⟨yb, yo + j, none⟩ = some (.int .i64 y0) := fun y => y.ext.cellOf hyj'
        have hin2 := fun y : After wr => hin y.now y.ext
        go_wp2_with fail
        refine wp_region_after (by kernel_rfl) (by kernel_rfl) ?_
        repeat (go_big_quiet_step (first | with_reducible exact Calls.after (hin2 _)))
        refine wpQuiet_nil ?_
        intro _ hw'
        obtain ⟨z, rfl⟩ := hw'
        clear j1 j2 hin hin2
        go_wp2_with fail
        exact ⟨⟨i + 1, B, d, .inl (by omega), by go_num, by rw [bandL_skip HV.out, HLL.out], by rw [bandL_skip HV.out, HLL.out]; exact row_keep HO.out z.ext, hE.trans z.ext⟩, by simp [intOf]; omega⟩
      · have j1 : ∀ y : After wr, y.now.cell? ⟨xb, xo + i, none⟩ = some (.int .i64 X0) := fun y => y.ext.cellOf hxi
        have j2 : ∀ y : After wr, y.now.cell? ⟨yb, yo + j, none⟩ = some (.int .i64 y0) := fun y => y.ext.cellOf hyj'
        have hin2 := fun y : After wr => hin y.now y.ext
        go_wp2_with fail
        refine wp_region_after (by kernel_rfl) (by kernel_rfl) ?_
        repeat (go_big_quiet_step (first | with_reducible exact Calls.after (hin2 _)))
        refine wpQuiet_nil ?_
        intro _ hw'
        obtain ⟨z, rfl⟩ := hw'
        clear j1 j2 hin hin2
        have hown1 := row_keep HO.out z.ext
        have hE1 := hE.trans z.ext
        replace hxi := z.ext.cellOf hxi
        replace hxi1 := z.ext.cellOf hxi1
        have hyj1' := hE1.cellOf hyj1
        replace hyj' := z.ext.cellOf hyj'
        generalize z.now = w1 at *
        have hLn : L.length ≤ i := by rw [← HLL.out]; unfold bandL; rw [List.length_map]; exact cellsOf_length i
        clear hE HO
        cases hR : (cellsOf false (rowF how a b y0) xs i).getLast? with
        | none =>
          have hR0 : cellsOf false (rowF how a b y0) xs i = [] := by simpa using hR
          have hL0 : L = [] := by rw [← HLL.out]; unfold bandL; rw [hR0]; rfl
          have hnew := bandL_new (y1 := y1) HV.out (by rw [hR]; intro s hs; cases hs)
          rw [HLL.out, HX0.out, HX1.out] at hnew
          have HN := Lib.hid hnew
          clear hnew hR hR0
          have hlen : L.length = 0 := by rw [hL0]; rfl
          clear hL0
          have hown2 := hown1
          go_wp2_with fail
          go_quiet (fail)
          replace hown1 : (w1.drewN nq).ownsRow _ _ _ _ _ _ := hown1
          replace hE1 := hE1.drewN nq
          clear hxi hxi1 hyj1' hyj' hown2 hlen
          generalize w1.drewN nq = w1 at *
          have hb4 : (L.length + 1) * 32 ≤ 140737488355328 := by omega
          have ho4 : (w1.drew.alloc (.cells #[.int .i64 X0, .int .i64 y0, .int .i64 (X1 - X0), .int .i64 (y1 - y0)] 26)).ownsRow w.heap.size 26 4 (.slice B L.length d) L.length (rcells L) := World.ownsRow.alloc (w := w1.drew) hown1 _
          have hsh4 : Shows (w1.drew.alloc (.cells #[.int .i64 X0, .int .i64 y0, .int .i64 (X1 - X0), .int .i64 (y1 - y0)] 26)) (some ⟨w1.heap.size, 0, none⟩) (rcell ⟨X0, y0, X1 - X0, y1 - y0⟩) := fun _ => ⟨_, rfl, World.news_of_block (blk_new w1.drew _)⟩
          have hone4 : ∀ u ∈ rcell ⟨X0, y0, X1 - X0, y1 - y0⟩, u.oneCell' = true := by simp [rcell, Value.oneCell']
          have hnn4 : (some (⟨w1.heap.size, 0, none⟩ : Addr)) = none → 1 = 0 := fun h => by cases h
          have hbb4 : w.heap.size ≤ (w1.drew.alloc (.cells #[.int .i64 X0, .int .i64 y0, .int .i64 (X1 - X0), .int .i64 (y1 - y0)] 26)).heap.size := by have := hE1.size; simp; omega
          have sx : ∀ w', Ext w w' → Ext w w' ∧ w'.cell? ⟨xb, xo + i, none⟩ = some (.int .i64 X0) ∧ w'.cell? ⟨xb, xo + (i + 1), none⟩ = some (.int .i64 X1) ∧ w'.cell? ⟨yb, yo + j, none⟩ = some (.int .i64 y0) ∧ w'.cell? ⟨yb, yo + (j + 1), none⟩ = some (.int .i64 y1) := fun w' h => ⟨h, h.cellOf hxw, h.cellOf hxw1, h.cellOf hyj, h.cellOf hyj1⟩
          have s6 : IntKind.i64.wrap ((i : Int) + 1) = (i : Int) + 1 := IntWalk.i64_in _ (by omega)
          have s8 : IntKind.i64.wrap ((j : Int) + 1) = (j : Int) + 1 := IntWalk.i64_in _ (by omega)
          have hI1 : (i : Int) + 1 < (xs.length : Int) := by omega
          have hJ1 : (j : Int) + 1 < (ys.length : Int) := by omega
          have hI2 : (0 : Int) ≤ (i : Int) + 1 := by omega
          have hJ2 : (0 : Int) ≤ (j : Int) + 1 := by omega
          have hI3 : ((i : Int) + 1).toNat = i + 1 := by omega
          have hJ3 : ((j : Int) + 1).toNat = j + 1 := by omega
          have s1 : wrap64 (X1 - X0) = X1 - X0 := IntWalk.wrap64_in _ (by omega)
          have s2 : wrap64 (y1 - y0) = y1 - y0 := IntWalk.wrap64_in _ (by omega)
          have s3 : IntKind.i64.wrap (X1 - X0) = X1 - X0 := IntWalk.i64_in _ (by omega)
          have s4 : IntKind.i64.wrap (y1 - y0) = y1 - y0 := IntWalk.i64_in _ (by omega)
          go_wp2_with fail
          go_region_held3 (fun w' => Ext w w' ∧ w'.cell? ⟨xb, xo + i, none⟩ = some (.int .i64 X0) ∧ w'.cell? ⟨xb, xo + (i + 1), none⟩ = some (.int .i64 X1) ∧ w'.cell? ⟨yb, yo + j, none⟩ = some (.int .i64 y0) ∧ w'.cell? ⟨yb, yo + (j + 1), none⟩ = some (.int .i64 y1)) ((refine sx _ ?_; (repeat' (first | exact And.left (by assumption) | assumption | refine Ext.alloc ?_ _ | refine Ext.drew ?_ | exact hE1)))) (first | ((refine step_app w.heap.size rfl (.tmp 94) (.tmp 124) 22 26 (.agg #[.int .i64 0, .int .i64 0, .int .i64 0, .int .i64 0]) 4 32 rfl Try.underlying22 info_rect rfl (by decide) (by decide) (.slice B L.length d) L.length (rcells L) rfl ho4 (some ⟨w1.heap.size, 0, none⟩) 1 1 (rcell ⟨X0, y0, X1 - X0, y1 - y0⟩) rfl hnn4 rfl hsh4 hone4 hb4 hbb4 (fun B' d' w5 hr5 hg5 => ?_); have hE5 : Ext w w5 := row_ext ho4 ((hE1.drew).alloc _) hg5)))
          have hr6 : OwnR w5 w.heap.size (.slice B' (L ++ [(⟨X0, y0, X1 - X0, y1 - y0⟩ : Rect)]).length d') (L ++ [(⟨X0, y0, X1 - X0, y1 - y0⟩ : Rect)]) := by
            unfold OwnR
            rw [List.length_append, show rcells (L ++ [⟨X0, y0, X1 - X0, y1 - y0⟩]) = rcells L ++ rcell ⟨X0, y0, X1 - X0, y1 - y0⟩ by simp [rcells]]
            exact hr5
          clear hr5 hg5 ho4 hsh4 hone4 hnn4 hbb4 hb4 sx hown1
          go_wp2_with fail
          exact ⟨⟨i + 1, B', d', .inl (by omega), by go_num, by rw [HN.out]; simp, by rw [HN.out]; exact hr6, hE5⟩, by simp [intOf]; omega⟩
        | some s =>
          obtain ⟨l0, hR0⟩ : ∃ l0, cellsOf false (rowF how a b y0) xs i = l0 ++ [s] := List.getLast?_eq_some_iff.1 hR
          have hsm : s ∈ cellsOf false (rowF how a b y0) xs i := by rw [hR0]; simp
          have hsv : s.v = true := by simpa using cellsOf_val i s hsm
          obtain ⟨hsa, hsb, _⟩ := cellsOf_mem i (by omega) s hsm
          obtain ⟨ia, hia, ea⟩ := List.getElem_of_mem hsa
          obtain ⟨ib, hib, eb⟩ := List.getElem_of_mem hsb
          have ga := HG.out ia hia
          have gb := HG.out ib hib
          rw [List.getD_eq_getElem?_getD, List.getElem?_eq_getElem hia, Option.getD_some, ea] at ga
          rw [List.getD_eq_getElem?_getD, List.getElem?_eq_getElem hib, Option.getD_some, eb] at gb
          have hL1 : L = l0.map (rectOf y0 y1) ++ [(⟨s.a, y0, s.b - s.a, y1 - y0⟩ : Rect)] := by rw [← HLL.out]; unfold bandL; rw [hR0, List.map_append]; rfl
          have hLm : L.length = l0.length + 1 := by rw [hL1]; simp
          have hlast : L[l0.length]? = some (⟨s.a, y0, s.b - s.a, y1 - y0⟩ : Rect) := by rw [hL1, List.getElem?_append_right (by simp)]; simp
          clear hsm hsa hsb ea eb
          obtain ⟨g, rfl, hgb⟩ := row_form hown1 (by omega)
          have q0 := (World.ownsRow.cellAt hown1 (l0.length * 4 + 0) (by omega)).trans (rcells_get hlast 0 (by decide))
          have q2 := (World.ownsRow.cellAt hown1 (l0.length * 4 + 2) (by omega)).trans (rcells_get hlast 2 (by decide))
          simp only [rcell, List.getElem?_cons_zero, List.getElem?_cons_succ, Nat.add_zero] at q0 q2
          have hown2 := hown1
          rw [hLm] at hown2
          obtain ⟨m, hm⟩ : ∃ m, l0.length = m := ⟨_, rfl⟩
          rw [hm] at q0 q2 hLm hown2
          have HM := Lib.hid hm
          clear hm hlast hown1
          simp only [hLm]
          have e1 : ((m : Int) + 1) - 1 = m := by omega
          have e2 : s.a + (s.b - s.a) = s.b := by omega
          have e3 : IntKind.i64.wrap s.b = s.b := IntWalk.i64_in _ (by omega)
          have e4 : IntKind.i64.wrap (m : Int) = m := IntWalk.i64_in _ (by omega)
          by_cases hsx : s.b = X0
          · have hsx1 : (s.b == X0) = true := by simpa using hsx
            have hgr := bandL_grow (y1 := y1) HV.out hR0 hsv (hsx.trans HX0.out.symm)
            rw [HX1.out] at hgr
            have hgl : g < w1.heap.size := (World.ownsRow.lt hown2 g (by simp [Value.ownBlock])).2
            have hst0 : ∀ W : World, W.ownsRow w.heap.size 26 4 (.slice (some ⟨g, 0, none⟩) (m + 1) d) (m + 1) (rcells L) → (W.setCell ⟨g, m * 4 + 2, none⟩ (.int .i64 (X1 - s.a))).ownsRow w.heap.size 26 4 (.slice (some ⟨g, 0, none⟩) (m + 1) d) (m + 1) (rcells (bandL how a b xs y0 y1 (i + 1))) := fun W hW => by
              have h := (World.ownsRow.stored hW (m * 4 + 2) (.int .i64 (X1 - s.a))).1
              rw [hL1, rcells_setw (by rw [List.length_map, HM.out])] at h
              rw [hgr]
              exact h
            have hgn : (bandL how a b xs y0 y1 (i + 1)).length = m + 1 := by rw [hgr, List.length_append, List.length_map, HM.out]; rfl
            have HST := Lib.hid hst0
            have HGN := Lib.hid hgn
            have HLm := Lib.hid hLm
            subst hsx
            clear hgr hst0 hgn hR hR0 hL1 hLm
            go_wp2_with fail
            go_quiet (fail)
            replace hown2 : (w1.drewN nq).ownsRow _ _ _ _ _ _ := hown2
            replace hE1 := hE1.drewN nq
            replace hxi1 : (w1.drewN nq).cell? _ = _ := hxi1
            replace q0 : (w1.drewN nq).cell? _ = _ := q0
            replace q2 : (w1.drewN nq).cell? _ = _ := q2
            clear hxi hyj1' hyj' hsx1
            generalize w1.drewN nq = w1 at *
            have hrf := fun j => World.ownsRow.frozenAt hown2 j
            have s6 : IntKind.i64.wrap ((i : Int) + 1) = (i : Int) + 1 := IntWalk.i64_in _ (by omega)
            have hI1 : (i : Int) + 1 < (xs.length : Int) := by omega
            have hI2 : (0 : Int) ≤ (i : Int) + 1 := by omega
            have hI3 : ((i : Int) + 1).toNat = i + 1 := by omega
            have hmi : m + 1 ≤ i := by have := HLm.out; omega
            have e5 : IntKind.i64.wrap ((m : Int) + 1 - 1) = m := by rw [e1]; exact e4
            have e6 : (m : Int) < (m : Int) + 1 := by omega
            have e7 : ((m : Int) + 1 - 1).toNat = m := by omega
            have s9 : IntKind.i64.wrap (X1 - s.a) = X1 - s.a := IntWalk.i64_in _ (by omega)
            have hr6 := HST.out _ hown2
            have hset := hE1.set (p := ⟨g, m * 4 + 2, none⟩) (by simpa using hgb) (.int .i64 (X1 - s.a))
            have HS6 := Lib.hid hr6
            clear hr6
            go_wp2_with fail
            go_still_tail 19, (by kernel_rfl)
            change wpList _ _ _ _ _ w1.drew
            go_wp2_with fail
            exact ⟨⟨i + 1, some ⟨g, 0, none⟩, d, .inl (by omega), by go_num, by rw [HGN.out], by unfold OwnR; rw [HGN.out]; exact HS6.out, hset.drew⟩, by simp [intOf]; omega⟩
          · have hsx1 : (s.b == X0) = false := by simpa using hsx
            have hnew := bandL_new (y1 := y1) HV.out (by rw [hR]; intro t ht; injection ht with ht; subst ht; rw [HX0.out]; exact hsx)
            rw [HLL.out, HX0.out, HX1.out] at hnew
            have HN := Lib.hid hnew
            have HLm := Lib.hid hLm
            clear hnew hR hR0 hL1 hsx hLm
            go_wp2_with fail
            go_quiet (fail)
            have hLm := HLm.out
            replace hown2 : (w1.drewN nq).ownsRow _ _ _ _ _ _ := hown2
            replace hE1 := hE1.drewN nq
            clear hxi hxi1 hyj1' hyj' q0 q2 e1 e2 e3 e4 hsx1
            generalize w1.drewN nq = w1 at *
            have hb4 : (m + 1 + 1) * 32 ≤ 140737488355328 := by omega
            have ho4 : (w1.drew.alloc (.cells #[.int .i64 X0, .int .i64 y0, .int .i64 (X1 - X0), .int .i64 (y1 - y0)] 26)).ownsRow w.heap.size 26 4 (.slice (some ⟨g, 0, none⟩) (m + 1) d) (m + 1) (rcells L) := World.ownsRow.alloc (w := w1.drew) hown2 _
            have hsh4 : Shows (w1.drew.alloc (.cells #[.int .i64 X0, .int .i64 y0, .int .i64 (X1 - X0), .int .i64 (y1 - y0)] 26)) (some ⟨w1.heap.size, 0, none⟩) (rcell ⟨X0, y0, X1 - X0, y1 - y0⟩) := fun _ => ⟨_, rfl, World.news_of_block (blk_new w1.drew _)⟩
            have hone4 : ∀ u ∈ rcell ⟨X0, y0, X1 - X0, y1 - y0⟩, u.oneCell' = true := by simp [rcell, Value.oneCell']
            have hnn4 : (some (⟨w1.heap.size, 0, none⟩ : Addr)) = none → 1 = 0 := fun h => by cases h
            have hbb4 : w.heap.size ≤ (w1.drew.alloc (.cells #[.int .i64 X0, .int .i64 y0, .int .i64 (X1 - X0), .int .i64 (y1 - y0)] 26)).heap.size := by have := hE1.size; simp; omega
            have sx : ∀ w', Ext w w' → Ext w w' ∧ w'.cell? ⟨xb, xo + i, none⟩ = some (.int .i64 X0) ∧ w'.cell? ⟨xb, xo + (i + 1), none⟩ = some (.int .i64 X1) ∧ w'.cell? ⟨yb, yo + j, none⟩ = some (.int .i64 y0) ∧ w'.cell? ⟨yb, yo + (j + 1), none⟩ = some (.int .i64 y1) := fun w' h => ⟨h, h.cellOf hxw, h.cellOf hxw1, h.cellOf hyj, h.cellOf hyj1⟩
            have s6 : IntKind.i64.wrap ((i : Int) + 1) = (i : Int) + 1 := IntWalk.i64_in _ (by omega)
            have s8 : IntKind.i64.wrap ((j : Int) + 1) = (j : Int) + 1 := IntWalk.i64_in _ (by omega)
            have hI1 : (i : Int) + 1 < (xs.length : Int) := by omega
            have hJ1 : (j : Int) + 1 < (ys.length : Int) := by omega
            have hI2 : (0 : Int) ≤ (i : Int) + 1 := by omega
            have hJ2 : (0 : Int) ≤ (j : Int) + 1 := by omega
            have hI3 : ((i : Int) + 1).toNat = i + 1 := by omega
            have hJ3 : ((j : Int) + 1).toNat = j + 1 := by omega
            have s1 : wrap64 (X1 - X0) = X1 - X0 := IntWalk.wrap64_in _ (by omega)
            have s2 : wrap64 (y1 - y0) = y1 - y0 := IntWalk.wrap64_in _ (by omega)
            have s3 : IntKind.i64.wrap (X1 - X0) = X1 - X0 := IntWalk.i64_in _ (by omega)
            have s4 : IntKind.i64.wrap (y1 - y0) = y1 - y0 := IntWalk.i64_in _ (by omega)
            go_wp2_with fail
            go_region_held3 (fun w' => Ext w w' ∧ w'.cell? ⟨xb, xo + i, none⟩ = some (.int .i64 X0) ∧ w'.cell? ⟨xb, xo + (i + 1), none⟩ = some (.int .i64 X1) ∧ w'.cell? ⟨yb, yo + j, none⟩ = some (.int .i64 y0) ∧ w'.cell? ⟨yb, yo + (j + 1), none⟩ = some (.int .i64 y1)) ((refine sx _ ?_; (repeat' (first | exact And.left (by assumption) | assumption | refine Ext.alloc ?_ _ | refine Ext.drew ?_ | exact hE1)))) (first | ((refine step_app w.heap.size rfl (.tmp 94) (.tmp 124) 22 26 (.agg #[.int .i64 0, .int .i64 0, .int .i64 0, .int .i64 0]) 4 32 rfl Try.underlying22 info_rect rfl (by decide) (by decide) (.slice (some ⟨g, 0, none⟩) (m + 1) d) (m + 1) (rcells L) rfl ho4 (some ⟨w1.heap.size, 0, none⟩) 1 1 (rcell ⟨X0, y0, X1 - X0, y1 - y0⟩) rfl hnn4 rfl hsh4 hone4 hb4 hbb4 (fun B' d' w5 hr5 hg5 => ?_); have hE5 : Ext w w5 := row_ext ho4 ((hE1.drew).alloc _) hg5)))
            have hr6 : OwnR w5 w.heap.size (.slice B' (L ++ [(⟨X0, y0, X1 - X0, y1 - y0⟩ : Rect)]).length d') (L ++ [(⟨X0, y0, X1 - X0, y1 - y0⟩ : Rect)]) := by
              unfold OwnR
              rw [List.length_append, hLm, show rcells (L ++ [⟨X0, y0, X1 - X0, y1 - y0⟩]) = rcells L ++ rcell ⟨X0, y0, X1 - X0, y1 - y0⟩ by simp [rcells]]
              exact hr5
            clear hr5 hg5 ho4 hsh4 hone4 hnn4 hbb4 hb4 sx hown2
            go_wp2_with fail
            exact ⟨⟨i + 1, B', d', .inl (by omega), by go_num, by rw [HN.out, List.length_append, hLm]; rfl, by rw [HN.out]; exact hr6, hE5⟩, by simp [intOf]; omega⟩
    · have hie : i = xs.length - 1 := by omega
      have hown := HO.out
      rw [← HLL.out, hie] at hown
      have HX := Lib.hid hown
      have hLe : L = bandL how a b xs y0 y1 (xs.length - 1) := by rw [← HLL.out, hie]
      rw [hLe]
      clear hown hLe
      go_wp2_with fail
      exact hK _ _ _ _ _ _ _ _ _ _ _ _ _ _ _ _ _ _ _ _ _ _ _ _ _ _ _ _ _ _ _ _ _ _ _ _ _ _ _ _ _ _ _ _ _ _ _ _ _ _ _ _ _ _ _ _ _ _ _ _ _ _ _ _ _ _ _ _ _ _ _ _ _ _ _ _ _ _ _ _ _ _ _ _ _ _ _ _ _ _ _ _ _ _ _ _ _ B d wr HX.out hE
end Go.Proofs.Ytjghghbldifhaaa
