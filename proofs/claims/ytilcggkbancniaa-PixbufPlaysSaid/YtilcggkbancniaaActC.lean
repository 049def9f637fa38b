/- The ways of PixbufPlays' switch: fill, set, blit. -/
import Derived.Test.YtilcggkbancniaaActB
set_option linter.unusedVariables false
set_option linter.unusedSimpArgs false
namespace Go.Proofs.Ytilcggkbancniaa
open Go.RowKit

set_option maxRecDepth 100000 in
set_option maxHeartbeats 8000000 in
theorem sw_fill (c0 c1 c2 c3 c4 c5 c7 c8 c10 c13 c14 c15 c16 c17 c18 c19 c20 c21 c22 c23 c24 c25 c26 c27 c28 c29 c30 c31 c32 c33 c34 c35 c36 c37 c38 c39 c40 c41 c42 c43 c44 c45 c46 c47 c48 c49 c50 c51 c52 c53 c54 c55 c56 c57 c58 c59 c60 c61 c62 c63 c64 c65 c66 c67 c68 c69 c70 c71 c72 c73 c74 c75 c76 c77 c78 c79 c80 c81 c82 c83 c84 c85 c86 c87 c88 c89 c90 c91 c92 c93 c94 c95 c96 c97 c98 c99 c100 c101 c102 c104 c105 c106 c107 c108 c109 c110 c111 c112 c113 c114 c115 c116 c117 c118 c119 c120 c121 c122 c123 c124 c125 c126 c127 c128 c129 c130 c131 c132 c133 c134 c135 c136 c137 c138 c139 c140 c141 c142 c143 c144 c145 c146 c147 c148 c149 c150 c151 c152 c153 c154 c155 c156 c157 c158 c159 c160 c161 c162 c163 c164 c165 c166 c167 c168 c169 c170 c171 c172 c173 c174 c175 c176 c177 c178 c179 c180 c181 c182 c183 c184 c185 c186 c187 c188 c189 c190 c191 c192 c193 c194 c195 c196 c197 c198 c199 c200 c201 c202 c203 c204 c205 c206 c207 c208 c209 c210 c211 c212 c213 c214 c215 c216 c217 c218 c219 c220 c221 c222 c223 c224 c225 c226 c227 c228 c229 c230 c231 c232 c233 c234 c235 c236 c237 c238 c239 c240 c241 c242 c243 c244 c245 c246 c247 c248 c249 c250 c251 c252 c253 c254 c255 c256 c257 c258 c259 c260 c261 c262 c263 c264 c265 c266 c267 c268 c269 c270 c271 c272 c273 c274 c275 c276 c277 c278 : Value) (w0 w : World) (W H : Int) (n s9 x11 bb bp cap g d : Nat) (px : List Int) (a : ActD) (K : Act → World → Prop) (Q' : Exit → Act → World → Prop)
    (W1 : 1 ≤ W) (W2 : W ≤ 256) (H1 : 1 ≤ H) (H2 : H ≤ 256) (hlen : (n : Int) = W * H) (hpx : px.length = n) (hs9 : w0.heap.size ≤ s9) (hE : Ext w0 w)
    (k9 : w.heap[s9]? = some (.cells #[.int .i64 W, .int .i64 H, .slice (some ⟨g, 0, none⟩) n d] 24 (0, 0))) (hB : BufAt 90 35 w w0.heap.size bb bp cap W H px)
    (hown : w.ownsRow w0.heap.size 35 1 (.slice (some ⟨g, 0, none⟩) n d) n (nums .u32 px)) (hgbp : g ≠ bp)
    (kx : w.heap[x11]? = some (.cells a.cells.toArray 42 (0, 0))) (hz : Reads .u32 w0 a.A a.zs) (hzx : ∀ v ∈ a.zs, 0 ≤ v ∧ v ≤ 4294967295) (hac : 0 ≤ a.c ∧ a.c ≤ 4294967295) (hk : a.k = 1)
    (hK : ∀ (u13 u14 u15 u16 u17 u18 u19 u20 u21 u22 u23 u104 u105 u106 u107 u108 u109 u110 u111 u112 u113 u114 u115 u116 u117 u118 u119 u120 u121 u122 u123 u124 u125 u126 u127 u128 u129 u130 u131 u132 u133 u134 u135 u136 u137 u138 u139 u140 u141 u142 u143 u144 u145 u146 u147 u148 u149 u150 u151 u152 u153 u154 u155 u156 u157 u158 u159 u160 u161 u162 u163 u164 u165 u166 u167 u168 u169 u170 u171 u172 u173 u174 u175 u176 u177 u178 u179 u180 u181 u182 u183 u184 u185 u186 u187 u188 u189 u190 u191 u192 u193 u194 u195 u196 u197 u198 u199 u200 u201 u202 u203 u204 u205 u206 u207 u208 u209 u210 u211 u212 u213 u214 u215 u216 u217 u218 u219 u220 u221 u222 u223 u224 u225 u226 u227 u228 u229 u230 u231 u232 u233 u234 u235 u236 u237 u238 u239 u240 u241 u242 u243 u244 u245 u246 u247 u248 u249 u250 u251 u252 u253 u254 u255 u256 u257 u258 u259 u260 u261 u262 u263 u264 u265 u266 u267 u268 : Value) (w' : World), PlayAt w0 W H n s9 bb bp cap w' → K { tmps := #[c0, c1, c2, c3, c4, c5, .pointer (some ⟨bb, 0, none⟩), c7, c8, .pointer (some ⟨s9, 0, none⟩), c10, .pointer (some ⟨x11, 0, none⟩), .bool true, u13, u14, u15, u16, u17, u18, u19, u20, u21, u22, u23, c24, c25, c26, c27, c28, c29, c30, c31, c32, c33, c34, c35, c36, c37, c38, c39, c40, c41, c42, c43, c44, c45, c46, c47, c48, c49, c50, c51, c52, c53, c54, c55, c56, c57, c58, c59, c60, c61, c62, c63, c64, c65, c66, c67, c68, c69, c70, c71, c72, c73, c74, c75, c76, c77, c78, c79, c80, c81, c82, c83, c84, c85, c86, c87, c88, c89, c90, c91, c92, c93, c94, c95, c96, c97, c98, c99, c100, c101, c102, .int .i64 a.k, u104, u105, u106, u107, u108, u109, u110, u111, u112, u113, u114, u115, u116, u117, u118, u119, u120, u121, u122, u123, u124, u125, u126, u127, u128, u129, u130, u131, u132, u133, u134, u135, u136, u137, u138, u139, u140, u141, u142, u143, u144, u145, u146, u147, u148, u149, u150, u151, u152, u153, u154, u155, u156, u157, u158, u159, u160, u161, u162, u163, u164, u165, u166, u167, u168, u169, u170, u171, u172, u173, u174, u175, u176, u177, u178, u179, u180, u181, u182, u183, u184, u185, u186, u187, u188, u189, u190, u191, u192, u193, u194, u195, u196, u197, u198, u199, u200, u201, u202, u203, u204, u205, u206, u207, u208, u209, u210, u211, u212, u213, u214, u215, u216, u217, u218, u219, u220, u221, u222, u223, u224, u225, u226, u227, u228, u229, u230, u231, u232, u233, u234, u235, u236, u237, u238, u239, u240, u241, u242, u243, u244, u245, u246, u247, u248, u249, u250, u251, u252, u253, u254, u255, u256, u257, u258, u259, u260, u261, u262, u263, u264, u265, u266, u267, u268, c269, c270, c271, c272, c273, c274, c275, c276, c277, c278], defers := [] } w') :
    Code.wp Try.prog sw (Exit.then K Q') { tmps := #[c0, c1, c2, c3, c4, c5, .pointer (some ⟨bb, 0, none⟩), c7, c8, .pointer (some ⟨s9, 0, none⟩), c10, .pointer (some ⟨x11, 0, none⟩), .bool true, c13, c14, c15, c16, c17, c18, c19, c20, c21, c22, c23, c24, c25, c26, c27, c28, c29, c30, c31, c32, c33, c34, c35, c36, c37, c38, c39, c40, c41, c42, c43, c44, c45, c46, c47, c48, c49, c50, c51, c52, c53, c54, c55, c56, c57, c58, c59, c60, c61, c62, c63, c64, c65, c66, c67, c68, c69, c70, c71, c72, c73, c74, c75, c76, c77, c78, c79, c80, c81, c82, c83, c84, c85, c86, c87, c88, c89, c90, c91, c92, c93, c94, c95, c96, c97, c98, c99, c100, c101, c102, .int .i64 a.k, c104, c105, c106, c107, c108, c109, c110, c111, c112, c113, c114, c115, c116, c117, c118, c119, c120, c121, c122, c123, c124, c125, c126, c127, c128, c129, c130, c131, c132, c133, c134, c135, c136, c137, c138, c139, c140, c141, c142, c143, c144, c145, c146, c147, c148, c149, c150, c151, c152, c153, c154, c155, c156, c157, c158, c159, c160, c161, c162, c163, c164, c165, c166, c167, c168, c169, c170, c171, c172, c173, c174, c175, c176, c177, c178, c179, c180, c181, c182, c183, c184, c185, c186, c187, c188, c189, c190, c191, c192, c193, c194, c195, c196, c197, c198, c199, c200, c201, c202, c203, c204, c205, c206, c207, c208, c209, c210, c211, c212, c213, c214, c215, c216, c217, c218, c219, c220, c221, c222, c223, c224, c225, c226, c227, c228, c229, c230, c231, c232, c233, c234, c235, c236, c237, c238, c239, c240, c241, c242, c243, c244, c245, c246, c247, c248, c249, c250, c251, c252, c253, c254, c255, c256, c257, c258, c259, c260, c261, c262, c263, c264, c265, c266, c267, c268, c269, c270, c271, c272, c273, c274, c275, c276, c277, c278], defers := [] } w := by
  conv => arg 2; whnf
  have hpb : ∀ v ∈ px, 0 ≤ v ∧ v ≤ 4294967295 := fun v hv => ⟨(hB.pix v hv).1, by have := (hB.pix v hv).2; omega⟩
  have hn : n ≤ 65536 := by have := (mul_bd W1 W2 H1 H2).2; omega
  have hn0 : 0 < n := by have := (mul_bd W1 W2 H1 H2).1; omega
  have hmc : px.map cut24 = px := map_cut hB.pix
  have hpl : (px.length : Int) = W * H := by rw [hpx]; exact hlen
  have HL := Lib.hid hlen
  have HPL := Lib.hid hpl
  obtain ⟨cx, fx⟩ := blk_rules kx
  simp only [ActD.cells] at cx
  clear hlen hpl
  rw [hk] at hK ⊢
  clear hk
  go_wp2_with fail
  refine (fill_any hB a.r.x a.r.y a.r.w a.r.h a.c hac.1 hac.2).mono ?_
  rintro e w1 ⟨rfl, hB1, hg1⟩
  rw [show Rect.mk a.r.x a.r.y a.r.w a.r.h = a.r from rfl, fill_ref W1 W2 H1 H2 HPL.out] at hB1
  have hbase := own_base hB.row
  replace kx := hB.far hg1 kx (by decide)
  replace k9 := hB.far hg1 k9 (by decide)
  replace hown := World.ownsRow.kept hown hg1 (.inr (by simp [Value.ownBlock]; exact hgbp))
  replace hE := Ext.grownRow hE hg1 hbase
  have hbpl := (World.ownsRow.lt hB1.row bp (by simp [Value.ownBlock])).2
  clear cx fx hB hg1 hbase
  obtain ⟨cx, fx⟩ := blk_rules kx
  simp only [ActD.cells] at cx
  obtain ⟨c9, f9⟩ := blk_rules k9
  go_wp2_with fail
  have hf := rfill_any W H (some ⟨g, 0, none⟩) d px a.r a.c w1 (row_reads hown hpx) hpb (by omega) W1 W2 hac
  rw [hpx, hmc] at hf
  refine hf.mono ?_
  rintro e w2 ⟨B2, d2, rfl, hown2, hb2⟩
  clear hf
  obtain ⟨g2, rfl, hg2⟩ := row_form hown2 hn0
  have hown2' := World.ownsRow.base_le (base' := w0.heap.size) hown2 hE.size
  have k9' := hb2.keep k9
  have hB2 := hB1.ext hb2
  have hE2 := hE.trans hb2
  skip
  clear c9 f9 cx fx
  obtain ⟨c9, f9⟩ := blk_rules k9'
  have HC := Lib.hid (PlayAt.close (d := d2) hE2 hs9 k9' hB2 hown2' (by first | rw [mapAt_length]; exact hpx | exact hpx) (by omega))
  go_wp2_with fail
  exact HC.out

set_option maxRecDepth 100000 in
set_option maxHeartbeats 8000000 in
theorem sw_set (c0 c1 c2 c3 c4 c5 c7 c8 c10 c13 c14 c15 c16 c17 c18 c19 c20 c21 c22 c23 c24 c25 c26 c27 c28 c29 c30 c31 c32 c33 c34 c35 c36 c37 c38 c39 c40 c41 c42 c43 c44 c45 c46 c47 c48 c49 c50 c51 c52 c53 c54 c55 c56 c57 c58 c59 c60 c61 c62 c63 c64 c65 c66 c67 c68 c69 c70 c71 c72 c73 c74 c75 c76 c77 c78 c79 c80 c81 c82 c83 c84 c85 c86 c87 c88 c89 c90 c91 c92 c93 c94 c95 c96 c97 c98 c99 c100 c101 c102 c104 c105 c106 c107 c108 c109 c110 c111 c112 c113 c114 c115 c116 c117 c118 c119 c120 c121 c122 c123 c124 c125 c126 c127 c128 c129 c130 c131 c132 c133 c134 c135 c136 c137 c138 c139 c140 c141 c142 c143 c144 c145 c146 c147 c148 c149 c150 c151 c152 c153 c154 c155 c156 c157 c158 c159 c160 c161 c162 c163 c164 c165 c166 c167 c168 c169 c170 c171 c172 c173 c174 c175 c176 c177 c178 c179 c180 c181 c182 c183 c184 c185 c186 c187 c188 c189 c190 c191 c192 c193 c194 c195 c196 c197 c198 c199 c200 c201 c202 c203 c204 c205 c206 c207 c208 c209 c210 c211 c212 c213 c214 c215 c216 c217 c218 c219 c220 c221 c222 c223 c224 c225 c226 c227 c228 c229 c230 c231 c232 c233 c234 c235 c236 c237 c238 c239 c240 c241 c242 c243 c244 c245 c246 c247 c248 c249 c250 c251 c252 c253 c254 c255 c256 c257 c258 c259 c260 c261 c262 c263 c264 c265 c266 c267 c268 c269 c270 c271 c272 c273 c274 c275 c276 c277 c278 : Value) (w0 w : World) (W H : Int) (n s9 x11 bb bp cap g d : Nat) (px : List Int) (a : ActD) (K : Act → World → Prop) (Q' : Exit → Act → World → Prop)
    (W1 : 1 ≤ W) (W2 : W ≤ 256) (H1 : 1 ≤ H) (H2 : H ≤ 256) (hlen : (n : Int) = W * H) (hpx : px.length = n) (hs9 : w0.heap.size ≤ s9) (hE : Ext w0 w)
    (k9 : w.heap[s9]? = some (.cells #[.int .i64 W, .int .i64 H, .slice (some ⟨g, 0, none⟩) n d] 24 (0, 0))) (hB : BufAt 90 35 w w0.heap.size bb bp cap W H px)
    (hown : w.ownsRow w0.heap.size 35 1 (.slice (some ⟨g, 0, none⟩) n d) n (nums .u32 px)) (hgbp : g ≠ bp)
    (kx : w.heap[x11]? = some (.cells a.cells.toArray 42 (0, 0))) (hz : Reads .u32 w0 a.A a.zs) (hzx : ∀ v ∈ a.zs, 0 ≤ v ∧ v ≤ 4294967295) (hac : 0 ≤ a.c ∧ a.c ≤ 4294967295) (hk : a.k = 0)
    (hK : ∀ (u13 u14 u15 u16 u17 u18 u19 u20 u21 u22 u23 u104 u105 u106 u107 u108 u109 u110 u111 u112 u113 u114 u115 u116 u117 u118 u119 u120 u121 u122 u123 u124 u125 u126 u127 u128 u129 u130 u131 u132 u133 u134 u135 u136 u137 u138 u139 u140 u141 u142 u143 u144 u145 u146 u147 u148 u149 u150 u151 u152 u153 u154 u155 u156 u157 u158 u159 u160 u161 u162 u163 u164 u165 u166 u167 u168 u169 u170 u171 u172 u173 u174 u175 u176 u177 u178 u179 u180 u181 u182 u183 u184 u185 u186 u187 u188 u189 u190 u191 u192 u193 u194 u195 u196 u197 u198 u199 u200 u201 u202 u203 u204 u205 u206 u207 u208 u209 u210 u211 u212 u213 u214 u215 u216 u217 u218 u219 u220 u221 u222 u223 u224 u225 u226 u227 u228 u229 u230 u231 u232 u233 u234 u235 u236 u237 u238 u239 u240 u241 u242 u243 u244 u245 u246 u247 u248 u249 u250 u251 u252 u253 u254 u255 u256 u257 u258 u259 u260 u261 u262 u263 u264 u265 u266 u267 u268 : Value) (w' : World), PlayAt w0 W H n s9 bb bp cap w' → K { tmps := #[c0, c1, c2, c3, c4, c5, .pointer (some ⟨bb, 0, none⟩), c7, c8, .pointer (some ⟨s9, 0, none⟩), c10, .pointer (some ⟨x11, 0, none⟩), .bool true, u13, u14, u15, u16, u17, u18, u19, u20, u21, u22, u23, c24, c25, c26, c27, c28, c29, c30, c31, c32, c33, c34, c35, c36, c37, c38, c39, c40, c41, c42, c43, c44, c45, c46, c47, c48, c49, c50, c51, c52, c53, c54, c55, c56, c57, c58, c59, c60, c61, c62, c63, c64, c65, c66, c67, c68, c69, c70, c71, c72, c73, c74, c75, c76, c77, c78, c79, c80, c81, c82, c83, c84, c85, c86, c87, c88, c89, c90, c91, c92, c93, c94, c95, c96, c97, c98, c99, c100, c101, c102, .int .i64 a.k, u104, u105, u106, u107, u108, u109, u110, u111, u112, u113, u114, u115, u116, u117, u118, u119, u120, u121, u122, u123, u124, u125, u126, u127, u128, u129, u130, u131, u132, u133, u134, u135, u136, u137, u138, u139, u140, u141, u142, u143, u144, u145, u146, u147, u148, u149, u150, u151, u152, u153, u154, u155, u156, u157, u158, u159, u160, u161, u162, u163, u164, u165, u166, u167, u168, u169, u170, u171, u172, u173, u174, u175, u176, u177, u178, u179, u180, u181, u182, u183, u184, u185, u186, u187, u188, u189, u190, u191, u192, u193, u194, u195, u196, u197, u198, u199, u200, u201, u202, u203, u204, u205, u206, u207, u208, u209, u210, u211, u212, u213, u214, u215, u216, u217, u218, u219, u220, u221, u222, u223, u224, u225, u226, u227, u228, u229, u230, u231, u232, u233, u234, u235, u236, u237, u238, u239, u240, u241, u242, u243, u244, u245, u246, u247, u248, u249, u250, u251, u252, u253, u254, u255, u256, u257, u258, u259, u260, u261, u262, u263, u264, u265, u266, u267, u268, c269, c270, c271, c272, c273, c274, c275, c276, c277, c278], defers := [] } w') :
    Code.wp Try.prog sw (Exit.then K Q') { tmps := #[c0, c1, c2, c3, c4, c5, .pointer (some ⟨bb, 0, none⟩), c7, c8, .pointer (some ⟨s9, 0, none⟩), c10, .pointer (some ⟨x11, 0, none⟩), .bool true, c13, c14, c15, c16, c17, c18, c19, c20, c21, c22, c23, c24, c25, c26, c27, c28, c29, c30, c31, c32, c33, c34, c35, c36, c37, c38, c39, c40, c41, c42, c43, c44, c45, c46, c47, c48, c49, c50, c51, c52, c53, c54, c55, c56, c57, c58, c59, c60, c61, c62, c63, c64, c65, c66, c67, c68, c69, c70, c71, c72, c73, c74, c75, c76, c77, c78, c79, c80, c81, c82, c83, c84, c85, c86, c87, c88, c89, c90, c91, c92, c93, c94, c95, c96, c97, c98, c99, c100, c101, c102, .int .i64 a.k, c104, c105, c106, c107, c108, c109, c110, c111, c112, c113, c114, c115, c116, c117, c118, c119, c120, c121, c122, c123, c124, c125, c126, c127, c128, c129, c130, c131, c132, c133, c134, c135, c136, c137, c138, c139, c140, c141, c142, c143, c144, c145, c146, c147, c148, c149, c150, c151, c152, c153, c154, c155, c156, c157, c158, c159, c160, c161, c162, c163, c164, c165, c166, c167, c168, c169, c170, c171, c172, c173, c174, c175, c176, c177, c178, c179, c180, c181, c182, c183, c184, c185, c186, c187, c188, c189, c190, c191, c192, c193, c194, c195, c196, c197, c198, c199, c200, c201, c202, c203, c204, c205, c206, c207, c208, c209, c210, c211, c212, c213, c214, c215, c216, c217, c218, c219, c220, c221, c222, c223, c224, c225, c226, c227, c228, c229, c230, c231, c232, c233, c234, c235, c236, c237, c238, c239, c240, c241, c242, c243, c244, c245, c246, c247, c248, c249, c250, c251, c252, c253, c254, c255, c256, c257, c258, c259, c260, c261, c262, c263, c264, c265, c266, c267, c268, c269, c270, c271, c272, c273, c274, c275, c276, c277, c278], defers := [] } w := by
  conv => arg 2; whnf
  have hpb : ∀ v ∈ px, 0 ≤ v ∧ v ≤ 4294967295 := fun v hv => ⟨(hB.pix v hv).1, by have := (hB.pix v hv).2; omega⟩
  have hn : n ≤ 65536 := by have := (mul_bd W1 W2 H1 H2).2; omega
  have hn0 : 0 < n := by have := (mul_bd W1 W2 H1 H2).1; omega
  have hmc : px.map cut24 = px := map_cut hB.pix
  have hpl : (px.length : Int) = W * H := by rw [hpx]; exact hlen
  have HL := Lib.hid hlen
  have HPL := Lib.hid hpl
  obtain ⟨cx, fx⟩ := blk_rules kx
  simp only [ActD.cells] at cx
  clear hlen hpl
  rw [hk] at hK ⊢
  clear hk
  have hq := fun w => rphas_any W H (some ⟨g, 0, none⟩) d n a.x a.y w
  rw [picHas_px W1 W2 H1 H2] at hq
  go_wp2_with fail
  cases hh : hasPx W H a.x a.y
  · simp only [hh] at hq
    refine (set_out hB a.x a.y a.c hh).mono ?_
    rintro e w1 ⟨rfl, hb⟩
    replace kx := hb.keep kx
    replace k9 := hb.keep k9
    replace hown := row_keep hown hb
    replace hE := hE.trans hb
    replace hB := hB.ext hb
    have hbpl := (World.ownsRow.lt hB.row bp (by simp [Value.ownBlock])).2
    clear cx fx hb
    obtain ⟨cx, fx⟩ := blk_rules kx
    simp only [ActD.cells] at cx
    obtain ⟨c9, f9⟩ := blk_rules k9
    go_wp2_with fail
    refine (hq _).mono ?_
    rintro e w2 ⟨rfl, hb⟩
    have HC : PlayAt w0 W H n s9 bb bp cap w2 := ⟨px, g, d, hpx, hE.trans hb, hb.keep k9, hB.ext hb, row_keep hown hb, hgbp⟩
    clear hq
    go_wp2_with fail
    exact HC
  · simp only [hh] at hq
    refine (set_in hB a.x a.y a.c hh hac.1 hac.2).mono ?_
    rintro e w1 ⟨rfl, hB1, hg1⟩
    rw [set_ref W1 W2 H1 H2 HPL.out hh] at hB1
    have hbase := own_base hB.row
    replace kx := hB.far hg1 kx (by decide)
    replace k9 := hB.far hg1 k9 (by decide)
    replace hown := World.ownsRow.kept hown hg1 (.inr (by simp [Value.ownBlock]; exact hgbp))
    replace hE := Ext.grownRow hE hg1 hbase
    have hbpl := (World.ownsRow.lt hB1.row bp (by simp [Value.ownBlock])).2
    clear cx fx hB hg1 hbase
    obtain ⟨cx, fx⟩ := blk_rules kx
    simp only [ActD.cells] at cx
    obtain ⟨c9, f9⟩ := blk_rules k9
    go_wp2_with fail
    refine (hq _).mono ?_
    rintro e w3 ⟨rfl, hb⟩
    replace kx := hb.keep kx
    replace k9 := hb.keep k9
    replace hown := row_keep hown hb
    replace hE := hE.trans hb
    replace hB1 := hB1.ext hb
    replace hbpl := Nat.lt_of_lt_of_le hbpl hb.size
    clear cx fx c9 f9 hb hq
    obtain ⟨cx, fx⟩ := blk_rules kx
    simp only [ActD.cells] at cx
    obtain ⟨c9, f9⟩ := blk_rules k9
    go_wp2_with fail
    have hf := rfill_any W H (some ⟨g, 0, none⟩) d px ⟨a.x, a.y, 1, 1⟩ a.c w3 (row_reads hown hpx) hpb (by omega) W1 W2 hac
    rw [hpx, hmc] at hf
    refine hf.mono ?_
    rintro e w2 ⟨B2, d2, rfl, hown2, hb2⟩
    clear hf
    obtain ⟨g2, rfl, hg2⟩ := row_form hown2 hn0
    have hown2' := World.ownsRow.base_le (base' := w0.heap.size) hown2 hE.size
    have k9' := hb2.keep k9
    have hB2 := hB1.ext hb2
    have hE2 := hE.trans hb2
    skip
    clear c9 f9 cx fx
    obtain ⟨c9, f9⟩ := blk_rules k9'
    have HC := Lib.hid (PlayAt.close (d := d2) hE2 hs9 k9' hB2 hown2' (by first | rw [mapAt_length]; exact hpx | exact hpx) (by omega))
    go_wp2_with fail
    exact HC.out

set_option maxRecDepth 100000 in
set_option maxHeartbeats 8000000 in
theorem sw_blit (c0 c1 c2 c3 c4 c5 c7 c8 c10 c13 c14 c15 c16 c17 c18 c19 c20 c21 c22 c23 c24 c25 c26 c27 c28 c29 c30 c31 c32 c33 c34 c35 c36 c37 c38 c39 c40 c41 c42 c43 c44 c45 c46 c47 c48 c49 c50 c51 c52 c53 c54 c55 c56 c57 c58 c59 c60 c61 c62 c63 c64 c65 c66 c67 c68 c69 c70 c71 c72 c73 c74 c75 c76 c77 c78 c79 c80 c81 c82 c83 c84 c85 c86 c87 c88 c89 c90 c91 c92 c93 c94 c95 c96 c97 c98 c99 c100 c101 c102 c104 c105 c106 c107 c108 c109 c110 c111 c112 c113 c114 c115 c116 c117 c118 c119 c120 c121 c122 c123 c124 c125 c126 c127 c128 c129 c130 c131 c132 c133 c134 c135 c136 c137 c138 c139 c140 c141 c142 c143 c144 c145 c146 c147 c148 c149 c150 c151 c152 c153 c154 c155 c156 c157 c158 c159 c160 c161 c162 c163 c164 c165 c166 c167 c168 c169 c170 c171 c172 c173 c174 c175 c176 c177 c178 c179 c180 c181 c182 c183 c184 c185 c186 c187 c188 c189 c190 c191 c192 c193 c194 c195 c196 c197 c198 c199 c200 c201 c202 c203 c204 c205 c206 c207 c208 c209 c210 c211 c212 c213 c214 c215 c216 c217 c218 c219 c220 c221 c222 c223 c224 c225 c226 c227 c228 c229 c230 c231 c232 c233 c234 c235 c236 c237 c238 c239 c240 c241 c242 c243 c244 c245 c246 c247 c248 c249 c250 c251 c252 c253 c254 c255 c256 c257 c258 c259 c260 c261 c262 c263 c264 c265 c266 c267 c268 c269 c270 c271 c272 c273 c274 c275 c276 c277 c278 : Value) (w0 w : World) (W H : Int) (n s9 x11 bb bp cap g d : Nat) (px : List Int) (a : ActD) (K : Act → World → Prop) (Q' : Exit → Act → World → Prop)
    (W1 : 1 ≤ W) (W2 : W ≤ 256) (H1 : 1 ≤ H) (H2 : H ≤ 256) (hlen : (n : Int) = W * H) (hpx : px.length = n) (hs9 : w0.heap.size ≤ s9) (hE : Ext w0 w)
    (k9 : w.heap[s9]? = some (.cells #[.int .i64 W, .int .i64 H, .slice (some ⟨g, 0, none⟩) n d] 24 (0, 0))) (hB : BufAt 90 35 w w0.heap.size bb bp cap W H px)
    (hown : w.ownsRow w0.heap.size 35 1 (.slice (some ⟨g, 0, none⟩) n d) n (nums .u32 px)) (hgbp : g ≠ bp)
    (kx : w.heap[x11]? = some (.cells a.cells.toArray 42 (0, 0))) (hz : Reads .u32 w0 a.A a.zs) (hzx : ∀ v ∈ a.zs, 0 ≤ v ∧ v ≤ 4294967295) (hac : 0 ≤ a.c ∧ a.c ≤ 4294967295) (hk : a.k = 2)
    (hK : ∀ (u13 u14 u15 u16 u17 u18 u19 u20 u21 u22 u23 u104 u105 u106 u107 u108 u109 u110 u111 u112 u113 u114 u115 u116 u117 u118 u119 u120 u121 u122 u123 u124 u125 u126 u127 u128 u129 u130 u131 u132 u133 u134 u135 u136 u137 u138 u139 u140 u141 u142 u143 u144 u145 u146 u147 u148 u149 u150 u151 u152 u153 u154 u155 u156 u157 u158 u159 u160 u161 u162 u163 u164 u165 u166 u167 u168 u169 u170 u171 u172 u173 u174 u175 u176 u177 u178 u179 u180 u181 u182 u183 u184 u185 u186 u187 u188 u189 u190 u191 u192 u193 u194 u195 u196 u197 u198 u199 u200 u201 u202 u203 u204 u205 u206 u207 u208 u209 u210 u211 u212 u213 u214 u215 u216 u217 u218 u219 u220 u221 u222 u223 u224 u225 u226 u227 u228 u229 u230 u231 u232 u233 u234 u235 u236 u237 u238 u239 u240 u241 u242 u243 u244 u245 u246 u247 u248 u249 u250 u251 u252 u253 u254 u255 u256 u257 u258 u259 u260 u261 u262 u263 u264 u265 u266 u267 u268 : Value) (w' : World), PlayAt w0 W H n s9 bb bp cap w' → K { tmps := #[c0, c1, c2, c3, c4, c5, .pointer (some ⟨bb, 0, none⟩), c7, c8, .pointer (some ⟨s9, 0, none⟩), c10, .pointer (some ⟨x11, 0, none⟩), .bool true, u13, u14, u15, u16, u17, u18, u19, u20, u21, u22, u23, c24, c25, c26, c27, c28, c29, c30, c31, c32, c33, c34, c35, c36, c37, c38, c39, c40, c41, c42, c43, c44, c45, c46, c47, c48, c49, c50, c51, c52, c53, c54, c55, c56, c57, c58, c59, c60, c61, c62, c63, c64, c65, c66, c67, c68, c69, c70, c71, c72, c73, c74, c75, c76, c77, c78, c79, c80, c81, c82, c83, c84, c85, c86, c87, c88, c89, c90, c91, c92, c93, c94, c95, c96, c97, c98, c99, c100, c101, c102, .int .i64 a.k, u104, u105, u106, u107, u108, u109, u110, u111, u112, u113, u114, u115, u116, u117, u118, u119, u120, u121, u122, u123, u124, u125, u126, u127, u128, u129, u130, u131, u132, u133, u134, u135, u136, u137, u138, u139, u140, u141, u142, u143, u144, u145, u146, u147, u148, u149, u150, u151, u152, u153, u154, u155, u156, u157, u158, u159, u160, u161, u162, u163, u164, u165, u166, u167, u168, u169, u170, u171, u172, u173, u174, u175, u176, u177, u178, u179, u180, u181, u182, u183, u184, u185, u186, u187, u188, u189, u190, u191, u192, u193, u194, u195, u196, u197, u198, u199, u200, u201, u202, u203, u204, u205, u206, u207, u208, u209, u210, u211, u212, u213, u214, u215, u216, u217, u218, u219, u220, u221, u222, u223, u224, u225, u226, u227, u228, u229, u230, u231, u232, u233, u234, u235, u236, u237, u238, u239, u240, u241, u242, u243, u244, u245, u246, u247, u248, u249, u250, u251, u252, u253, u254, u255, u256, u257, u258, u259, u260, u261, u262, u263, u264, u265, u266, u267, u268, c269, c270, c271, c272, c273, c274, c275, c276, c277, c278], defers := [] } w') :
    Code.wp Try.prog sw (Exit.then K Q') { tmps := #[c0, c1, c2, c3, c4, c5, .pointer (some ⟨bb, 0, none⟩), c7, c8, .pointer (some ⟨s9, 0, none⟩), c10, .pointer (some ⟨x11, 0, none⟩), .bool true, c13, c14, c15, c16, c17, c18, c19, c20, c21, c22, c23, c24, c25, c26, c27, c28, c29, c30, c31, c32, c33, c34, c35, c36, c37, c38, c39, c40, c41, c42, c43, c44, c45, c46, c47, c48, c49, c50, c51, c52, c53, c54, c55, c56, c57, c58, c59, c60, c61, c62, c63, c64, c65, c66, c67, c68, c69, c70, c71, c72, c73, c74, c75, c76, c77, c78, c79, c80, c81, c82, c83, c84, c85, c86, c87, c88, c89, c90, c91, c92, c93, c94, c95, c96, c97, c98, c99, c100, c101, c102, .int .i64 a.k, c104, c105, c106, c107, c108, c109, c110, c111, c112, c113, c114, c115, c116, c117, c118, c119, c120, c121, c122, c123, c124, c125, c126, c127, c128, c129, c130, c131, c132, c133, c134, c135, c136, c137, c138, c139, c140, c141, c142, c143, c144, c145, c146, c147, c148, c149, c150, c151, c152, c153, c154, c155, c156, c157, c158, c159, c160, c161, c162, c163, c164, c165, c166, c167, c168, c169, c170, c171, c172, c173, c174, c175, c176, c177, c178, c179, c180, c181, c182, c183, c184, c185, c186, c187, c188, c189, c190, c191, c192, c193, c194, c195, c196, c197, c198, c199, c200, c201, c202, c203, c204, c205, c206, c207, c208, c209, c210, c211, c212, c213, c214, c215, c216, c217, c218, c219, c220, c221, c222, c223, c224, c225, c226, c227, c228, c229, c230, c231, c232, c233, c234, c235, c236, c237, c238, c239, c240, c241, c242, c243, c244, c245, c246, c247, c248, c249, c250, c251, c252, c253, c254, c255, c256, c257, c258, c259, c260, c261, c262, c263, c264, c265, c266, c267, c268, c269, c270, c271, c272, c273, c274, c275, c276, c277, c278], defers := [] } w := by
  conv => arg 2; whnf
  have hpb : ∀ v ∈ px, 0 ≤ v ∧ v ≤ 4294967295 := fun v hv => ⟨(hB.pix v hv).1, by have := (hB.pix v hv).2; omega⟩
  have hn : n ≤ 65536 := by have := (mul_bd W1 W2 H1 H2).2; omega
  have hn0 : 0 < n := by have := (mul_bd W1 W2 H1 H2).1; omega
  have hmc : px.map cut24 = px := map_cut hB.pix
  have hpl : (px.length : Int) = W * H := by rw [hpx]; exact hlen
  have HL := Lib.hid hlen
  have HPL := Lib.hid hpl
  obtain ⟨cx, fx⟩ := blk_rules kx
  simp only [ActD.cells] at cx
  clear hlen hpl
  rw [hk] at hK ⊢
  clear hk
  go_wp2_with fail
  cases hp : isPic a.W a.H a.zs.length
  · refine (blit_bad a.x a.y a.W a.H a.A a.mc a.zs a.r.x a.r.y a.r.w a.r.h hp).mono ?_
    rintro e w1 ⟨rfl, hb⟩
    replace kx := hb.keep kx
    replace k9 := hb.keep k9
    replace hown := row_keep hown hb
    replace hE := hE.trans hb
    replace hB := hB.ext hb
    have hbpl := (World.ownsRow.lt hB.row bp (by simp [Value.ownBlock])).2
    clear cx fx hb
    obtain ⟨cx, fx⟩ := blk_rules kx
    simp only [ActD.cells] at cx
    obtain ⟨c9, f9⟩ := blk_rules k9
    have hB1 := hB
    go_wp2_with fail
    have hf := rblit_bad W H (some ⟨g, 0, none⟩) d px a.x a.y a.W a.H a.A a.mc a.zs.length a.r w1 (row_reads hown hpx) hpb (by omega) hp
    rw [hpx, hmc] at hf
    refine hf.mono ?_
    rintro e w2 ⟨B2, d2, rfl, hown2, hb2⟩
    clear hf
    obtain ⟨g2, rfl, hg2⟩ := row_form hown2 hn0
    have hown2' := World.ownsRow.base_le (base' := w0.heap.size) hown2 hE.size
    have k9' := hb2.keep k9
    have hB2 := hB1.ext hb2
    have hE2 := hE.trans hb2
    skip
    clear c9 f9 cx fx
    obtain ⟨c9, f9⟩ := blk_rules k9'
    have HC := Lib.hid (PlayAt.close (d := d2) hE2 hs9 k9' hB2 hown2' (by first | rw [mapAt_length]; exact hpx | exact hpx) (by omega))
    go_wp2_with fail
    exact HC.out
  · refine (blit_good hB a.x a.y a.W a.H a.A a.mc a.zs a.r.x a.r.y a.r.w a.r.h hp (hz.ext hE) hzx).mono ?_
    rintro e w1 ⟨rfl, hB1, hg1⟩
    rw [show Rect.mk a.r.x a.r.y a.r.w a.r.h = a.r from rfl, blit_ref W1 W2 H1 H2 HPL.out hp] at hB1
    have hbase := own_base hB.row
    replace kx := hB.far hg1 kx (by decide)
    replace k9 := hB.far hg1 k9 (by decide)
    replace hown := World.ownsRow.kept hown hg1 (.inr (by simp [Value.ownBlock]; exact hgbp))
    replace hE := Ext.grownRow hE hg1 hbase
    have hbpl := (World.ownsRow.lt hB1.row bp (by simp [Value.ownBlock])).2
    clear cx fx hB hg1 hbase
    obtain ⟨cx, fx⟩ := blk_rules kx
    simp only [ActD.cells] at cx
    obtain ⟨c9, f9⟩ := blk_rules k9
    go_wp2_with fail
    have hf := rblit_good W H (some ⟨g, 0, none⟩) d px a.x a.y a.W a.H a.A a.mc a.zs a.r w1 (row_reads hown hpx) hpb (by omega) W1 W2 hp (hz.ext hE) hzx
    rw [hpx, hmc] at hf
    refine hf.mono ?_
    rintro e w2 ⟨B2, d2, rfl, hown2, hb2⟩
    clear hf
    obtain ⟨g2, rfl, hg2⟩ := row_form hown2 hn0
    have hown2' := World.ownsRow.base_le (base' := w0.heap.size) hown2 hE.size
    have k9' := hb2.keep k9
    have hB2 := hB1.ext hb2
    have hE2 := hE.trans hb2
    skip
    clear c9 f9 cx fx
    obtain ⟨c9, f9⟩ := blk_rules k9'
    have HC := Lib.hid (PlayAt.close (d := d2) hE2 hs9 k9' hB2 hown2' (by first | rw [mapAt_length]; exact hpx | exact hpx) (by omega))
    go_wp2_with fail
    exact HC.out

end Go.Proofs.Ytilcggkbancniaa
