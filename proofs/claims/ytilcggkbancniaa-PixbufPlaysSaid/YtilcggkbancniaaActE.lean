/- The ways of PixbufPlays' switch: part. -/
import Derived.Test.YtilcggkbancniaaActB
set_option linter.unusedVariables false
set_option linter.unusedSimpArgs false
namespace Go.Proofs.Ytilcggkbancniaa
open Go.RowKit

set_option maxRecDepth 100000 in
set_option maxHeartbeats 8000000 in
theorem sw_part (c0 c1 c2 c3 c4 c5 c7 c8 c10 c13 c14 c15 c16 c17 c18 c19 c20 c21 c22 c23 c24 c25 c26 c27 c28 c29 c30 c31 c32 c33 c34 c35 c36 c37 c38 c39 c40 c41 c42 c43 c44 c45 c46 c47 c48 c49 c50 c51 c52 c53 c54 c55 c56 c57 c58 c59 c60 c61 c62 c63 c64 c65 c66 c67 c68 c69 c70 c71 c72 c73 c74 c75 c76 c77 c78 c79 c80 c81 c82 c83 c84 c85 c86 c87 c88 c89 c90 c91 c92 c93 c94 c95 c96 c97 c98 c99 c100 c101 c102 c104 c105 c106 c107 c108 c109 c110 c111 c112 c113 c114 c115 c116 c117 c118 c119 c120 c121 c122 c123 c124 c125 c126 c127 c128 c129 c130 c131 c132 c133 c134 c135 c136 c137 c138 c139 c140 c141 c142 c143 c144 c145 c146 c147 c148 c149 c150 c151 c152 c153 c154 c155 c156 c157 c158 c159 c160 c161 c162 c163 c164 c165 c166 c167 c168 c169 c170 c171 c172 c173 c174 c175 c176 c177 c178 c179 c180 c181 c182 c183 c184 c185 c186 c187 c188 c189 c190 c191 c192 c193 c194 c195 c196 c197 c198 c199 c200 c201 c202 c203 c204 c205 c206 c207 c208 c209 c210 c211 c212 c213 c214 c215 c216 c217 c218 c219 c220 c221 c222 c223 c224 c225 c226 c227 c228 c229 c230 c231 c232 c233 c234 c235 c236 c237 c238 c239 c240 c241 c242 c243 c244 c245 c246 c247 c248 c249 c250 c251 c252 c253 c254 c255 c256 c257 c258 c259 c260 c261 c262 c263 c264 c265 c266 c267 c268 c269 c270 c271 c272 c273 c274 c275 c276 c277 c278 : Value) (w0 w : World) (W H : Int) (n s9 x11 bb bp cap g d : Nat) (px : List Int) (a : ActD) (K : Act → World → Prop) (Q' : Exit → Act → World → Prop)
    (W1 : 1 ≤ W) (W2 : W ≤ 256) (H1 : 1 ≤ H) (H2 : H ≤ 256) (hlen : (n : Int) = W * H) (hpx : px.length = n) (hs9 : w0.heap.size ≤ s9) (hE : Ext w0 w)
    (k9 : w.heap[s9]? = some (.cells #[.int .i64 W, .int .i64 H, .slice (some ⟨g, 0, none⟩) n d] 24 (0, 0))) (hB : BufAt 90 35 w w0.heap.size bb bp cap W H px)
    (hown : w.ownsRow w0.heap.size 35 1 (.slice (some ⟨g, 0, none⟩) n d) n (nums .u32 px)) (hgbp : g ≠ bp)
    (kx : w.heap[x11]? = some (.cells a.cells.toArray 42 (0, 0))) (hz : Reads .u32 w0 a.A a.zs) (hzx : ∀ v ∈ a.zs, 0 ≤ v ∧ v ≤ 4294967295) (hac : 0 ≤ a.c ∧ a.c ≤ 4294967295) (hk : a.k = 4)
    (hK : ∀ (u13 u14 u15 u16 u17 u18 u19 u20 u21 u22 u23 u104 u105 u106 u107 u108 u109 u110 u111 u112 u113 u114 u115 u116 u117 u118 u119 u120 u121 u122 u123 u124 u125 u126 u127 u128 u129 u130 u131 u132 u133 u134 u135 u136 u137 u138 u139 u140 u141 u142 u143 u144 u145 u146 u147 u148 u149 u150 u151 u152 u153 u154 u155 u156 u157 u158 u159 u160 u161 u162 u163 u164 u165 u166 u167 u168 u169 u170 u171 u172 u173 u174 u175 u176 u177 u178 u179 u180 u181 u182 u183 u184 u185 u186 u187 u188 u189 u190 u191 u192 u193 u194 u195 u196 u197 u198 u199 u200 u201 u202 u203 u204 u205 u206 u207 u208 u209 u210 u211 u212 u213 u214 u215 u216 u217 u218 u219 u220 u221 u222 u223 u224 u225 u226 u227 u228 u229 u230 u231 u232 u233 u234 u235 u236 u237 u238 u239 u240 u241 u242 u243 u244 u245 u246 u247 u248 u249 u250 u251 u252 u253 u254 u255 u256 u257 u258 u259 u260 u261 u262 u263 u264 u265 u266 u267 u268 : Value) (w' : World), PlayAt w0 W H n s9 bb bp cap w' → K { tmps := #[c0, c1, c2, c3, c4, c5, .pointer (some ⟨bb, 0, none⟩), c7, c8, .pointer (some ⟨s9, 0, none⟩), c10, .pointer (some ⟨x11, 0, none⟩), .bool true, u13, u14, u15, u16, u17, u18, u19, u20, u21, u22, u23, c24, c25, c26, c27, c28, c29, c30, c31, c32, c33, c34, c35, c36, c37, c38, c39, c40, c41, c42, c43, c44, c45, c46, c47, c48, c49, c50, c51, c52, c53, c54, c55, c56, c57, c58, c59, c60, c61, c62, c63, c64, c65, c66, c67, c68, c69, c70, c71, c72, c73, c74, c75, c76, c77, c78, c79, c80, c81, c82, c83, c84, c85, c86, c87, c88, c89, c90, c91, c92, c93, c94, c95, c96, c97, c98, c99, c100, c101, c102, .int .i64 a.k, u104, u105, u106, u107, u108, u109, u110, u111, u112, u113, u114, u115, u116, u117, u118, u119, u120, u121, u122, u123, u124, u125, u126, u127, u128, u129, u130, u131, u132, u133, u134, u135, u136, u137, u138, u139, u140, u141, u142, u143, u144, u145, u146, u147, u148, u149, u150, u151, u152, u153, u154, u155, u156, u157, u158, u159, u160, u161, u162, u163, u164, u165, u166, u167, u168, u169, u170, u171, u172, u173, u174, u175, u176, u177, u178, u179, u180, u181, u182, u183, u184, u185, u186, u187, u188, u189, u190, u191, u192, u193, u194, u195, u196, u197, u198, u199, u200, u201, u202, u203, u204, u205, u206, u207, u208, u209, u210, u211, u212, u213, u214, u215, u216, u217, u218, u219, u220, u221, u222, u223, u224, u225, u226, u227, u228, u229, u230, u231, u232, u233, u234, u235, u236, u237, u238, u239, u240, u241, u242, u243, u244, u245, u246, u247, u248, u249, u250, u251, u252, u253, u254, u255, u256, u257, u258, u259, u260, u261, u262, u263, u264, u265, u266, u267, u268, c269, c270, c271, c272, c273, c274, c275, c276, c277, c278], defers := [] } w') :
    Code.wp Try.prog sw (Exit.then K Q') { tmps := #[c0, c1, c2, c3, c4, c5, .pointer (some ⟨bb, 0, none⟩), c7, c8, .pointer (some ⟨s9, 0, none⟩), c10, .pointer (some ⟨x11, 0, none⟩), .bool true, c13, c14, c15, c16, c17, c18, c19, c20, c21, c22, c23, c24, c25, c26, c27, c28, c29, c30, c31, c32, c33, c34, c35, c36, c37, c38, c39, c40, c41, c42, c43, c44, c45, c46, c47, c48, c49, c50, c51, c52, c53, c54, c55, c56, c57, c58, c59, c60, c61, c62, c63, c64, c65, c66, c67, c68, c69, c70, c71, c72, c73, c74, c75, c76, c77, c78, c79, c80, c81, c82, c83, c84, c85, c86, c87, c88, c89, c90, c91, c92, c93, c94, c95, c96, c97, c98, c99, c100, c101, c102, .int .i64 a.k, c104, c105, c106, c107, c108, c109, c110, c111, c112, c113, c114, c115, c116, c117, c118, c119, c120, c121, c122, c123, c124, c125, c126, c127, c128, c129, c130, c131, c132, c133, c134, c135, c136, c137, c138, c139, c140, c141, c142, c143, c144, c145, c146, c147, c148, c149, c150, c151, c152, c153, c154, c155, c156, c157, c158, c159, c160, c161, c162, c163, c164, c165, c166, c167, c168, c169, c170, c171, c172, c173, c174, c175, c176, c177, c178, c179, c180, c181, c182, c183, c184, c185, c186, c187, c188, c189, c190, c191, c192, c193, c194, c195, c196, c197, c198, c199, c200, c201, c202, c203, c204, c205, c206, c207, c208, c209, c210, c211, c212, c213, c214, c215, c216, c217, c218, c219, c220, c221, c222, c223, c224, c225, c226, c227, c228, c229, c230, c231, c232, c233, c234, c235, c236, c237, c238, c239, c240, c241, c242, c243, c244, c245, c246, c247, c248, c249, c250, c251, c252, c253, c254, c255, c256, c257, c258, c259, c260, c261, c262, c263, c264, c265, c266, c267, c268, c269, c270, c271, c272, c273, c274, c275, c276, c277, c278], defers := [] } w := by
  conv => arg 2; whnf
  have hpb : ∀ v ∈ px, 0 ≤ v ∧ v ≤ 4294967295 := fun v hv => ⟨(hB.pix v hv).1, by have := (hB.pix v hv).2; omega⟩
  have hn : n ≤ 65536 := by have := (mul_bd W1 W2 H1 H2).2; omega
  have hn0 : 0 < n := by have := (mul_bd W1 W2 H1 H2).1; omega
  have hmc : px.map cut24 = px := map_cut hB.pix
  have hpl : (px.length : Int) = W * H := by rw [hpx]; exact hlen
  have HL := Lib.hid hlen
  have HPL := Lib.hid hpl
  obtain ⟨cx, fx⟩ := blk_rules kx
  simp only [ActD.cells] at cx
  clear hlen hpl
  rw [hk] at hK ⊢
  clear hk
  have hgl : g < w.heap.size := by
    obtain ⟨_, cur, hcc⟩ := row_block hown (g := g) (by simp [Value.ownBlock])
    exact blk_lt hcc
  have hbbl := blk_lt hB.head
  have hbpl0 := (World.ownsRow.lt hB.row bp (by simp [Value.ownBlock])).2
  have hdc := row_cap hown
  have hE0 := hE.size
  go_wp2_with fail
  by_cases hbad : Rect.empty ⟨a.r.x, a.r.y, a.r.w, a.r.h⟩ = true ∨ Rect.empty ⟨a.r.x, a.r.y, a.r.w, a.r.h⟩ = false ∧ Rect.within ⟨a.r.x, a.r.y, a.r.w, a.r.h⟩ ⟨0, 0, W, H⟩ = false
  · refine (part_bad hB a.r.x a.r.y a.r.w a.r.h hbad).mono ?_
    rintro e w1 ⟨rfl, hb⟩
    replace kx := hb.keep kx
    replace k9 := hb.keep k9
    replace hown := row_keep hown hb
    replace hE := hE.trans hb
    replace hB := hB.ext hb
    have hbpl := (World.ownsRow.lt hB.row bp (by simp [Value.ownBlock])).2
    clear cx fx hb
    obtain ⟨cx, fx⟩ := blk_rules kx
    simp only [ActD.cells] at cx
    obtain ⟨c9, f9⟩ := blk_rules k9
    have z9 := blk_lt k9
    have zx := blk_lt kx
    have hP1 : PlayAt w0 W H n s9 bb bp cap w1 := ⟨px, g, d, hpx, hE, k9, hB, hown, hgbp⟩
    go_wp2_with fail
    refine (rpart_bad W H (some ⟨g, 0, none⟩) d n a.r.x a.r.y a.r.w a.r.h _ hbad).mono ?_
    rintro e w2 ⟨rfl, hb2⟩
    obtain ⟨k17, hE2⟩ := ext1 hb2
    have hP2 := hP1.ext hE2
    clear cx fx c9 f9 z9 zx hb2 hP1
    obtain ⟨c17, f17⟩ := blk_rules k17
    have z17 := blk_lt k17
    go_wp2_with fail
    have hs := rsame_same (W := 0) (H := 0) (A := none) (B := none) (c := 0) (d := 0) (n := 0) (px := []) (w := w2.alloc (.cells #[.int .i64 0, .int .i64 0, .slice none 0 0] 24)) (fun i hi => by simp at hi) (fun i hi => by simp at hi) rfl (by omega)
    refine hs.mono ?_
    rintro e w3 ⟨rfl, hb3⟩
    obtain ⟨_, hE3⟩ := ext1 hb3
    replace k17 := hE3.keep k17
    have hP3 := hP2.ext hE3
    clear c17 f17 z17 hb3 hP2 hs
    obtain ⟨c17, f17⟩ := blk_rules k17
    go_wp2_with fail
    go_loopw [21] (fun i wr => i = .int .i64 0 ∧ wr = w3) (fun _ _ => 0)
    case atStart => exact ⟨rfl, rfl⟩
    case round =>
      obtain ⟨rfl, rfl⟩ := hrel
      go_wp2_with fail
      exact hP3
  · have h1 : Rect.empty ⟨a.r.x, a.r.y, a.r.w, a.r.h⟩ = false := by cases hh : Rect.empty ⟨a.r.x, a.r.y, a.r.w, a.r.h⟩ <;> simp_all
    have h2 : Rect.within ⟨a.r.x, a.r.y, a.r.w, a.r.h⟩ ⟨0, 0, W, H⟩ = true := by cases hh : Rect.within ⟨a.r.x, a.r.y, a.r.w, a.r.h⟩ ⟨0, 0, W, H⟩ <;> simp_all
    clear hbad
    have hpg := part_good hB a.r.x a.r.y a.r.w a.r.h h1 h2
    have hp0 : isPic W H px.length = true := by simp [isPic, W1, W2, H1, H2, HPL.out]
    have hfr := fun w1 (hr : Reads .u32 w1 (some ⟨g, 0, none⟩) px) => rpart_good W H (some ⟨g, 0, none⟩) d px a.r.x a.r.y a.r.w a.r.h w1 hr (by omega) (by have := hdc.2; simpa [maxLen] using this) hp0 h1 h2
    simp only [hpx] at hfr
    obtain ⟨PL, hPL⟩ : ∃ PL, partRows W ⟨a.r.x, a.r.y, a.r.w, a.r.h⟩ (List.range a.r.h.toNat) px = PL := ⟨_, rfl⟩
    rw [hPL] at hpg
    simp only [hPL] at hfr
    have hPLn : PL.length ≤ 65536 := by
      have := partRows_pic W1 W2 H1 H2 HPL.out h1 h2
      dsimp only at this
      rw [hPL] at this
      simp only [isPic, Bool.and_eq_true, decide_eq_true_eq] at this
      obtain ⟨⟨⟨⟨p1, p2⟩, p3⟩, p4⟩, p5⟩ := this
      have := (mul_bd p1 p2 p3 p4).2
      omega
    clear h1 h2 hp0 hPL
    refine hpg.mono ?_
    rintro e w1 ⟨gp, cp, rfl, hop, hb⟩
    have hgpb := own_base hop
    clear hpg
    replace kx := hb.keep kx
    replace k9 := hb.keep k9
    replace hown := row_keep hown hb
    replace hE := hE.trans hb
    replace hB := hB.ext hb
    have hbpl := (World.ownsRow.lt hB.row bp (by simp [Value.ownBlock])).2
    clear cx fx hb
    obtain ⟨cx, fx⟩ := blk_rules kx
    simp only [ActD.cells] at cx
    obtain ⟨c9, f9⟩ := blk_rules k9
    have hE1p := (Ext.refl w1).alloc (.cells #[.int .i64 a.r.w, .int .i64 a.r.h, .slice (some ⟨gp, 0, none⟩) PL.length cp] 24)
    have z9 := blk_lt k9
    have zx := blk_lt kx
    go_wp2_with fail
    refine (hfr _ (row_reads (row_keep hown hE1p) hpx)).mono ?_
    rintro e w2 ⟨B2, d2, rfl, ho2, hb2⟩
    obtain ⟨k17, hE2⟩ := ext1 hb2
    have hrp := hop.readsAt.ext hE2
    have hor2 : Reads .u32 w2 B2 PL := by
      obtain ⟨A2, c2, hv, hr2, _⟩ := Own.reads ho2
      injection hv with e1 e2 e3
      rw [e1]
      exact hr2
    clear cx fx c9 f9 z9 zx hb2 hfr hE1p
    obtain ⟨c17, f17⟩ := blk_rules k17
    have z17 := blk_lt k17
    go_wp2_with fail
    have hEA := (Ext.refl w2).alloc (.cells #[.int .i64 a.r.w, .int .i64 a.r.h, .slice B2 PL.length d2] 24)
    have hs := rsame_same (W := a.r.w) (H := a.r.h) (c := cp) (d := d2) (hrp.ext hEA) (hor2.ext hEA) rfl hPLn
    refine hs.mono ?_
    rintro e w3 ⟨rfl, hb3⟩
    have hE3 := hEA.trans hb3
    replace k17 := hE3.keep k17
    replace hop := row_keep (row_keep hop hE2) hE3
    replace k9 := hE3.keep (hE2.keep k9)
    replace hB := (hB.ext hE2).ext hE3
    replace hown := row_keep (row_keep hown hE2) hE3
    replace hE := (hE.trans hE2).trans hE3
    clear c17 f17 z17 hb3 hs hEA hrp hor2 ho2 hE2 hE3 kx
    obtain ⟨c17, f17⟩ := blk_rules k17
    obtain ⟨s17, hs17⟩ : ∃ s17, w1.heap.size = s17 := ⟨_, rfl⟩
    have hgp0 : w0.heap.size ≤ gp := Nat.le_trans hE0 hgpb
    go_wp2_with fail
    simp only [hs17] at k17 c17 f17 ⊢
    go_loopw [21] (fun i wr => ∃ (k : Nat) (L : List Int), k ≤ PL.length ∧ i = .int .i64 k ∧ L.length = PL.length ∧ wr.heap[s17]? = some (.cells #[.int .i64 a.r.w, .int .i64 a.r.h, .slice (some ⟨gp, 0, none⟩) PL.length cp] 24 (0, 0)) ∧ wr.ownsRow w.heap.size 35 1 (.slice (some ⟨gp, 0, none⟩) PL.length cp) PL.length (nums .u32 L) ∧ Ext w0 wr ∧ wr.heap[s9]? = some (.cells #[.int .i64 W, .int .i64 H, .slice (some ⟨g, 0, none⟩) n d] 24 (0, 0)) ∧ BufAt 90 35 wr w0.heap.size bb bp cap W H px ∧ wr.ownsRow w0.heap.size 35 1 (.slice (some ⟨g, 0, none⟩) n d) n (nums .u32 px)) (fun i _ => PL.length - (intOf i).toNat)
    case atStart => exact ⟨0, PL, Nat.zero_le _, rfl, rfl, k17, hop, hE, k9, hB, hown⟩
    case round =>
      clear k17 hop hE k9 hB hown c17 f17
      obtain ⟨k, L, hk, rfl, hL, k17, hop, hE, k9, hB, hown⟩ := hrel
      obtain ⟨c17, f17⟩ := blk_rules k17
      by_cases hlt : k < PL.length
      · have hrc := World.ownsRow.cellAt hop k (by omega)
        rw [nums_get (by omega)] at hrc
        have hrf := fun j => World.ownsRow.frozenAt hop j
        have hst := World.ownsRow.stored hop k (.int .u32 99)
        have hset : (nums .u32 L).set k (.int .u32 99) = nums .u32 (L.set k 99) := by simp [nums, List.map_set]
        have Hs := Lib.hid (hset ▸ hst.1)
        have Hg := Lib.hid hst.2
        clear hst hset
        have hneg : ∀ {b : Nat} {cs : Array Value} {t : TypeId} {fr : Nat × Nat}, wr.heap[b]? = some (.cells cs t fr) → t ≠ 35 → b ≠ gp := fun h1 h2 h3 => by
          obtain ⟨_, cur, hcc⟩ := row_block hop (g := gp) (by simp [Value.ownBlock])
          rw [← h3, h1] at hcc; injection hcc with hcc; injection hcc with _ hcc _; exact h2 hcc
        have hHC := Lib.hid (show Ext w0 (wr.setCell ⟨gp, k, none⟩ (.int .u32 99)) from hE.set (by simpa using hgp0) _)
        go_wp2_with fail
        go_roundw
        case rel => exact ⟨k + 1, L.set k 99, by omega, by go_num, by rw [List.length_set]; exact hL, blk_set_ne k17 (hneg k17 (by decide)) _ _, Hs.out, hHC.out, blk_set_ne k9 (hneg k9 (by decide)) _ _, hB.keptT Hg.out (by simp [Value.ownBlock]; omega) (by simp [Value.ownBlock]; omega), World.ownsRow.kept hown Hg.out (.inr (by simp [Value.ownBlock]; omega))⟩
        case measure => simp [intOf]; omega
      · obtain rfl : k = PL.length := by omega
        go_wp2_with fail
        exact ⟨px, g, d, hpx, hE, k9, hB, hown, hgbp⟩

end Go.Proofs.Ytilcggkbancniaa
