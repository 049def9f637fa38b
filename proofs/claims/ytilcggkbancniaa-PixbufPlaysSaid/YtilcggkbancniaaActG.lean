/- PixbufPlays' main loop. -/
import Derived.Test.YtilcggkbancniaaActF
set_option linter.unusedVariables false
set_option linter.unusedSimpArgs false
namespace Go.Proofs.Ytilcggkbancniaa
open Go.RowKit

/-- The loop over the acts. -/
noncomputable def lp : Code := (Try.f3.body.bind (findBlock 2)).getD .skip
set_option maxRecDepth 100000 in
set_option maxHeartbeats 16000000 in
theorem plays_block (c0 c2 c3 c4 c5 c7 c8 c11 c12 c13 c14 c15 c16 c17 c18 c19 c20 c21 c22 c23 c24 c25 c26 c27 c28 c29 c30 c31 c32 c33 c34 c35 c36 c37 c38 c39 c40 c41 c42 c43 c44 c45 c46 c47 c48 c49 c50 c51 c52 c53 c54 c55 c56 c57 c58 c59 c60 c61 c62 c63 c64 c65 c66 c67 c68 c69 c70 c71 c72 c73 c74 c75 c76 c77 c78 c79 c80 c81 c82 c83 c84 c85 c86 c87 c88 c89 c90 c91 c92 c93 c94 c95 c96 c97 c98 c99 c100 c101 c102 c103 c104 c105 c106 c107 c108 c109 c110 c111 c112 c113 c114 c115 c116 c117 c118 c119 c120 c121 c122 c123 c124 c125 c126 c127 c128 c129 c130 c131 c132 c133 c134 c135 c136 c137 c138 c139 c140 c141 c142 c143 c144 c145 c146 c147 c148 c149 c150 c151 c152 c153 c154 c155 c156 c157 c158 c159 c160 c161 c162 c163 c164 c165 c166 c167 c168 c169 c170 c171 c172 c173 c174 c175 c176 c177 c178 c179 c180 c181 c182 c183 c184 c185 c186 c187 c188 c189 c190 c191 c192 c193 c194 c195 c196 c197 c198 c199 c200 c201 c202 c203 c204 c205 c206 c207 c208 c209 c210 c211 c212 c213 c214 c215 c216 c217 c218 c219 c220 c221 c222 c223 c224 c225 c226 c227 c228 c229 c230 c231 c232 c233 c234 c235 c236 c237 c238 c239 c240 c241 c242 c243 c244 c245 c246 c247 c248 c249 c250 c251 c252 c253 c254 c255 c256 c257 c258 c259 c260 c261 c262 c263 c264 c265 c266 c267 c268 c269 c270 c271 c272 c273 c274 c275 c276 c277 c278 : Value) (w w7 : World) (W H : Int) (n s9 bb bp cap dl : Nat) (B : Option Addr) (l : List ActD) (K : Act → World → Prop) (Q' : Exit → Act → World → Prop)
    (W1 : 1 ≤ W) (W2 : W ≤ 256) (H1 : 1 ≤ H) (H2 : H ≤ 256) (hlen : (n : Int) = W * H) (hs9 : w.heap.size ≤ s9) (hl : ActsAt w B l) (hl40 : l.length ≤ 40) (hPA : PlayAt w W H n s9 bb bp cap w7)
    (hK : ∀ (u4 u10 u11 u12 u13 u14 u15 u16 u17 u18 u19 u20 u21 u22 u23 u92 u93 u94 u95 u96 u97 u98 u99 u100 u101 u102 u103 u104 u105 u106 u107 u108 u109 u110 u111 u112 u113 u114 u115 u116 u117 u118 u119 u120 u121 u122 u123 u124 u125 u126 u127 u128 u129 u130 u131 u132 u133 u134 u135 u136 u137 u138 u139 u140 u141 u142 u143 u144 u145 u146 u147 u148 u149 u150 u151 u152 u153 u154 u155 u156 u157 u158 u159 u160 u161 u162 u163 u164 u165 u166 u167 u168 u169 u170 u171 u172 u173 u174 u175 u176 u177 u178 u179 u180 u181 u182 u183 u184 u185 u186 u187 u188 u189 u190 u191 u192 u193 u194 u195 u196 u197 u198 u199 u200 u201 u202 u203 u204 u205 u206 u207 u208 u209 u210 u211 u212 u213 u214 u215 u216 u217 u218 u219 u220 u221 u222 u223 u224 u225 u226 u227 u228 u229 u230 u231 u232 u233 u234 u235 u236 u237 u238 u239 u240 u241 u242 u243 u244 u245 u246 u247 u248 u249 u250 u251 u252 u253 u254 u255 u256 u257 u258 u259 u260 u261 u262 u263 u264 u265 u266 u267 u268 u269 u270 u271 u272 u273 u274 u275 u276 u277 : Value) (w' : World), PlayAt w W H n s9 bb bp cap w' → K { tmps := #[c0, .slice B l.length dl, c2, c3, u4, c5, .pointer (some ⟨bb, 0, none⟩), c7, c8, .pointer (some ⟨s9, 0, none⟩), u10, u11, u12, u13, u14, u15, u16, u17, u18, u19, u20, u21, u22, u23, c24, c25, c26, c27, c28, c29, c30, c31, c32, c33, c34, c35, c36, c37, c38, c39, c40, c41, c42, c43, c44, c45, c46, c47, c48, c49, c50, c51, c52, c53, c54, c55, c56, c57, c58, c59, c60, c61, c62, c63, c64, c65, c66, c67, c68, c69, c70, c71, c72, c73, c74, c75, c76, c77, c78, c79, c80, c81, c82, c83, c84, c85, c86, c87, c88, c89, c90, c91, u92, u93, u94, u95, u96, u97, u98, u99, u100, u101, u102, u103, u104, u105, u106, u107, u108, u109, u110, u111, u112, u113, u114, u115, u116, u117, u118, u119, u120, u121, u122, u123, u124, u125, u126, u127, u128, u129, u130, u131, u132, u133, u134, u135, u136, u137, u138, u139, u140, u141, u142, u143, u144, u145, u146, u147, u148, u149, u150, u151, u152, u153, u154, u155, u156, u157, u158, u159, u160, u161, u162, u163, u164, u165, u166, u167, u168, u169, u170, u171, u172, u173, u174, u175, u176, u177, u178, u179, u180, u181, u182, u183, u184, u185, u186, u187, u188, u189, u190, u191, u192, u193, u194, u195, u196, u197, u198, u199, u200, u201, u202, u203, u204, u205, u206, u207, u208, u209, u210, u211, u212, u213, u214, u215, u216, u217, u218, u219, u220, u221, u222, u223, u224, u225, u226, u227, u228, u229, u230, u231, u232, u233, u234, u235, u236, u237, u238, u239, u240, u241, u242, u243, u244, u245, u246, u247, u248, u249, u250, u251, u252, u253, u254, u255, u256, u257, u258, u259, u260, u261, u262, u263, u264, u265, u266, u267, u268, u269, u270, u271, u272, u273, u274, u275, u276, u277, c278], defers := [] } w') :
    Code.wp Try.prog lp (Exit.then K Q') { tmps := #[c0, .slice B l.length dl, c2, c3, c4, c5, .pointer (some ⟨bb, 0, none⟩), c7, c8, .pointer (some ⟨s9, 0, none⟩), .int .i64 0, c11, c12, c13, c14, c15, c16, c17, c18, c19, c20, c21, c22, c23, c24, c25, c26, c27, c28, c29, c30, c31, c32, c33, c34, c35, c36, c37, c38, c39, c40, c41, c42, c43, c44, c45, c46, c47, c48, c49, c50, c51, c52, c53, c54, c55, c56, c57, c58, c59, c60, c61, c62, c63, c64, c65, c66, c67, c68, c69, c70, c71, c72, c73, c74, c75, c76, c77, c78, c79, c80, c81, c82, c83, c84, c85, c86, c87, c88, c89, c90, c91, c92, c93, c94, c95, c96, c97, c98, c99, c100, c101, c102, c103, c104, c105, c106, c107, c108, c109, c110, c111, c112, c113, c114, c115, c116, c117, c118, c119, c120, c121, c122, c123, c124, c125, c126, c127, c128, c129, c130, c131, c132, c133, c134, c135, c136, c137, c138, c139, c140, c141, c142, c143, c144, c145, c146, c147, c148, c149, c150, c151, c152, c153, c154, c155, c156, c157, c158, c159, c160, c161, c162, c163, c164, c165, c166, c167, c168, c169, c170, c171, c172, c173, c174, c175, c176, c177, c178, c179, c180, c181, c182, c183, c184, c185, c186, c187, c188, c189, c190, c191, c192, c193, c194, c195, c196, c197, c198, c199, c200, c201, c202, c203, c204, c205, c206, c207, c208, c209, c210, c211, c212, c213, c214, c215, c216, c217, c218, c219, c220, c221, c222, c223, c224, c225, c226, c227, c228, c229, c230, c231, c232, c233, c234, c235, c236, c237, c238, c239, c240, c241, c242, c243, c244, c245, c246, c247, c248, c249, c250, c251, c252, c253, c254, c255, c256, c257, c258, c259, c260, c261, c262, c263, c264, c265, c266, c267, c268, c269, c270, c271, c272, c273, c274, c275, c276, c277, c278], defers := [] } w7 := by
  have HL := Lib.hid hlen
  have hn1 : n ≤ 65536 := by have := (mul_bd W1 W2 H1 H2).2; omega
  clear hlen
  conv => arg 2; whnf
  go_wp2_with fail
  go_loopw [10, 11, 12, 13, 14, 15, 16, 17, 18, 19, 20, 21, 22, 23] (fun i _ _ _ _ _ _ _ _ _ _ _ _ _ wr => ∃ (k : Nat), k ≤ l.length ∧ i = .int .i64 k ∧ PlayAt w W H n s9 bb bp cap wr) (fun i _ _ _ _ _ _ _ _ _ _ _ _ _ _ => l.length - (intOf i).toNat)
  case atStart => exact ⟨0, Nat.zero_le _, rfl, hPA⟩
  case round =>
    clear hPA
    obtain ⟨k, hk, rfl, px, g, d3, hpx, hE, k9, hB, hown, hgbp⟩ := hrel
    by_cases hlt : k < l.length
    · obtain ⟨b, off, rfl, h3, _, _, _, _⟩ := (hl.ext hE) k l[k] (List.getElem?_eq_getElem hlt)
      obtain ⟨hz, hzx, hac, hzn⟩ : Reads .u32 w l[k].A l[k].zs ∧ (∀ v ∈ l[k].zs, 0 ≤ v ∧ v ≤ 4294967295) ∧ (0 ≤ l[k].c ∧ l[k].c ≤ 4294967295) ∧ l[k].zs.length ≤ 9223372036854775807 := by
        obtain ⟨_, _, _, _, h⟩ := hl k l[k] (List.getElem?_eq_getElem hlt)
        exact h
      generalize l[k] = a at *
      have a0 : wr.cell? ⟨b, off + k * 17, none⟩ = some (.int .i64 a.k) := h3 0 (by decide)
      have a1 : wr.cell? ⟨b, off + k * 17 + 1, none⟩ = some (.int .i64 a.x) := h3 1 (by decide)
      have a2 : wr.cell? ⟨b, off + k * 17 + 2, none⟩ = some (.int .i64 a.y) := h3 2 (by decide)
      have a3 : wr.cell? ⟨b, off + k * 17 + 3, none⟩ = some (.int .u32 a.c) := h3 3 (by decide)
      have a4 : wr.cell? ⟨b, off + k * 17 + 4, none⟩ = some (.int .i64 a.r.x) := h3 4 (by decide)
      have a5 : wr.cell? ⟨b, off + k * 17 + 5, none⟩ = some (.int .i64 a.r.y) := h3 5 (by decide)
      have a6 : wr.cell? ⟨b, off + k * 17 + 6, none⟩ = some (.int .i64 a.r.w) := h3 6 (by decide)
      have a7 : wr.cell? ⟨b, off + k * 17 + 7, none⟩ = some (.int .i64 a.r.h) := h3 7 (by decide)
      have a8 : wr.cell? ⟨b, off + k * 17 + 8, none⟩ = some (.int .i64 a.W) := h3 8 (by decide)
      have a9 : wr.cell? ⟨b, off + k * 17 + 9, none⟩ = some (.int .i64 a.H) := h3 9 (by decide)
      have a10 : wr.cell? ⟨b, off + k * 17 + 10, none⟩ = some (.slice a.A a.zs.length a.mc) := h3 10 (by decide)
      have a11 : wr.cell? ⟨b, off + k * 17 + 11, none⟩ = some (.int .i64 a.t.x) := h3 11 (by decide)
      have a12 : wr.cell? ⟨b, off + k * 17 + 12, none⟩ = some (.int .i64 a.t.y) := h3 12 (by decide)
      have a13 : wr.cell? ⟨b, off + k * 17 + 13, none⟩ = some (.int .i64 a.t.w) := h3 13 (by decide)
      have a14 : wr.cell? ⟨b, off + k * 17 + 14, none⟩ = some (.int .i64 a.t.h) := h3 14 (by decide)
      have a15 : wr.cell? ⟨b, off + k * 17 + 15, none⟩ = some (.int .i64 a.dx) := h3 15 (by decide)
      have a16 : wr.cell? ⟨b, off + k * 17 + 16, none⟩ = some (.int .i64 a.dy) := h3 16 (by decide)
      clear h3
      have hz0 : Reads .u32 w a.A a.zs := hz
      have kx : (wr.alloc (.cells a.cells.toArray 42)).heap[wr.heap.size]? = some (.cells a.cells.toArray 42 (0, 0)) := blk_new _ _
      have hE' := hE.alloc (.cells a.cells.toArray 42)
      have hB' := hB.ext ((Ext.refl wr).alloc (.cells a.cells.toArray 42))
      have hown' := World.ownsRow.alloc hown (.cells a.cells.toArray 42)
      have k9' := blk_old k9 (.cells a.cells.toArray 42)
      have HX := Lib.hid (And.intro kx (And.intro hE' (And.intro hB' (And.intro hown' k9'))))
      clear kx hE' hB' hown' k9'
      go_upto_block 4 with fail
      refine sw_all _ _ _ _ _ _ _ _ _ _ _ _ _ _ _ _ _ _ _ _ _ _ _ _ _ _ _ _ _ _ _ _ _ _ _ _ _ _ _ _ _ _ _ _ _ _ _ _ _ _ _ _ _ _ _ _ _ _ _ _ _ _ _ _ _ _ _ _ _ _ _ _ _ _ _ _ _ _ _ _ _ _ _ _ _ _ _ _ _ _ _ _ _ _ _ _ _ _ _ _ _ _ _ _ _ _ _ _ _ _ _ _ _ _ _ _ _ _ _ _ _ _ _ _ _ _ _ _ _ _ _ _ _ _ _ _ _ _ _ _ _ _ _ _ _ _ _ _ _ _ _ _ _ _ _ _ _ _ _ _ _ _ _ _ _ _ _ _ _ _ _ _ _ _ _ _ _ _ _ _ _ _ _ _ _ _ _ _ _ _ _ _ _ _ _ _ _ _ _ _ _ _ _ _ _ _ _ _ _ _ _ _ _ _ _ _ _ _ _ _ _ _ _ _ _ _ _ _ _ _ _ _ _ _ _ _ _ _ _ _ _ _ _ _ _ _ _ _ _ _ _ _ _ _ _ _ _ _ _ _ _ _ _ _ _ _ _ _ _ _ _ _ _ _ w _ W H n s9 _ bb bp cap g d3 px a _ _ W1 W2 H1 H2 HL.out hpx hs9 HX.out.2.1 HX.out.2.2.2.2 HX.out.2.2.1 HX.out.2.2.2.1 hgbp HX.out.1 hz0 hzx hac ?_
      clear a0 a1 a2 a3 a4 a5 a6 a7 a8 a9 a10 a11 a12 a13 a14 a15 a16 HX hE k9 hB hown hz hz0 hzx hac hzn hgbp hpx
      clear px g d3
      intro u13 u14 u15 u16 u17 u18 u19 u20 u21 u22 u23 u104 u105 u106 u107 u108 u109 u110 u111 u112 u113 u114 u115 u116 u117 u118 u119 u120 u121 u122 u123 u124 u125 u126 u127 u128 u129 u130 u131 u132 u133 u134 u135 u136 u137 u138 u139 u140 u141 u142 u143 u144 u145 u146 u147 u148 u149 u150 u151 u152 u153 u154 u155 u156 u157 u158 u159 u160 u161 u162 u163 u164 u165 u166 u167 u168 u169 u170 u171 u172 u173 u174 u175 u176 u177 u178 u179 u180 u181 u182 u183 u184 u185 u186 u187 u188 u189 u190 u191 u192 u193 u194 u195 u196 u197 u198 u199 u200 u201 u202 u203 u204 u205 u206 u207 u208 u209 u210 u211 u212 u213 u214 u215 u216 u217 u218 u219 u220 u221 u222 u223 u224 u225 u226 u227 u228 u229 u230 u231 u232 u233 u234 u235 u236 u237 u238 u239 u240 u241 u242 u243 u244 u245 u246 u247 u248 u249 u250 u251 u252 u253 u254 u255 u256 u257 u258 u259 u260 u261 u262 u263 u264 u265 u266 u267 u268 wc2 hP
      obtain ⟨px, g, d3, hpx, hE, k9, hB, hown, hgbp⟩ := hP
      have himg := fun (w' : World) (h : Ext wc2 w') => image_any (hB.ext h)
      simp only [hpx] at himg
      obtain ⟨c9, f9⟩ := blk_rules k9
      have sx : ∀ w', Ext wc2 w' → Ext wc2 w' ∧ w'.cell? ⟨s9, 0, none⟩ = some (.int .i64 W) ∧ w'.cell? ⟨s9, 1, none⟩ = some (.int .i64 H) ∧ w'.cell? ⟨s9, 2, none⟩ = some (.slice (some ⟨g, 0, none⟩) n d3) := fun w' h => ⟨h, h.cellOf (c9 0), h.cellOf (c9 1), h.cellOf (c9 2)⟩
      go_wp2_with fail
      go_region_held3 (fun w' => Ext wc2 w' ∧ w'.cell? ⟨s9, 0, none⟩ = some (.int .i64 W) ∧ w'.cell? ⟨s9, 1, none⟩ = some (.int .i64 H) ∧ w'.cell? ⟨s9, 2, none⟩ = some (.slice (some ⟨g, 0, none⟩) n d3)) ((refine sx _ ?_; (repeat' (first | exact And.left (by assumption) | assumption | refine Ext.alloc ?_ _ | refine Ext.drew ?_ | exact Ext.refl wc2)))) (first | (go_at_call 34; refine (himg _ (And.left (by assumption))).mono ?_; rintro e wI ⟨gI, cI, rfl, hoI, hgI, hbI⟩; have hEI : Ext wc2 wI := Ext.trans (And.left (by assumption)) hbI) | (go_at_call 19; refine (rsame_same (by rw [← hpx] at hoI; exact hoI.readsAt) (row_reads (row_keep hown hEI) hpx) hpx (by omega)).mono ?_; rintro e wS ⟨rfl, hbS⟩; have hES : Ext wc2 wS := Ext.trans hEI hbS))
      go_wp2_with fail
      exact ⟨⟨k + 1, by omega, by go_num, px, g, d3, hpx, hE.trans hES, hES.keep k9, hB.ext hES, row_keep hown hES, hgbp⟩, by simp [intOf]; omega⟩
    · obtain rfl : k = l.length := by omega
      have hP : PlayAt w W H n s9 bb bp cap wr := ⟨px, g, d3, hpx, hE, k9, hB, hown, hgbp⟩
      clear k9 hB hown hE
      go_wp2_with fail
      exact hP
end Go.Proofs.Ytilcggkbancniaa
