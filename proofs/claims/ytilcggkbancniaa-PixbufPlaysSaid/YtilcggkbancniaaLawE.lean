/- The law PixbufPlays walked. -/
import Derived.Test.YtilcggkbancniaaActG
set_option linter.unusedVariables false
set_option linter.unusedSimpArgs false
namespace Go.Proofs.Ytilcggkbancniaa
open Go.RowKit

set_option maxRecDepth 100000 in
set_option maxHeartbeats 16000000 in
theorem plays_any (W H : Int) (A : Option Addr) (c : Nat) (xs : List Int) (B : Option Addr) (d : Nat) (l : List ActD) (w : World) (hx : Reads .u32 w A xs) (hxb : ∀ v ∈ xs, 0 ≤ v ∧ v ≤ 4294967295) (hn : xs.length ≤ 9223372036854775807) (hc : A = none → c = 0) (hl : ActsAt w B l) (hm : l.length ≤ 9223372036854775807) :
    Calls Try.prog 3 #[.agg #[.int .i64 W, .int .i64 H, .slice A xs.length c], .slice B l.length d] w fun e w' => e = .returned (.bool true) ∧ Ext w w' := by
  have g1 := fun (w' : World) (h : Ext w w') => great_any W H A c xs.length B d l w' hn (hl.ext h) hm
  by_cases hg : greatB xs.length l = true
  · simp only [hg] at g1
    go_enter Try.func3, Try.ntmps3
    go_wp2_with fail
    refine (g1 _ ((Ext.refl w).alloc _)).mono ?_
    rintro e w1 ⟨rfl, hb⟩
    obtain ⟨k0, hE⟩ := ext1 hb
    clear hb g1
    go_wp2_with fail
    refine (wakes3_any _).mono ?_
    rintro e w2 ⟨rfl, hb⟩
    go_wp2
    go_ret
    exact ⟨rfl, hE.trans hb⟩
  have hg : greatB xs.length l = false := by simpa using hg
  simp only [hg] at g1
  have hn1 : xs.length ≤ 1000 ∧ l.length ≤ 40 := by
    simp only [greatB, Bool.or_eq_false_iff, decide_eq_false_iff_not] at hg
    omega
  obtain ⟨hn1, hl40⟩ := hn1
  clear hg hn hm
  go_enter Try.func3, Try.ntmps3
  go_wp2_with fail
  refine (g1 _ ((Ext.refl w).alloc _)).mono ?_
  rintro e w1 ⟨rfl, hb⟩
  obtain ⟨k0, hE⟩ := ext1 hb
  obtain ⟨c0, f0⟩ := blk_rules k0
  clear hb g1
  go_wp2_with fail
  go_cut [5] from 28 to 35 (fun p wx => ∃ G B' d', p = .pointer (some ⟨G, 0, none⟩) ∧ wx.heap[G]? = some (.cells #[.int .i64 W, .int .i64 H, .slice B' xs.length d'] 24 (0, 0)) ∧ wx.ownsRow w.heap.size 35 1 (.slice B' xs.length d') xs.length (nums .u32 xs) ∧ Ext w1 wx ∧ w1.heap.size ≤ G)
  case first =>
    have sx : ∀ w', Ext w1 w' → Ext w1 w' ∧ w'.cell? ⟨w.heap.size, 0, none⟩ = some (.int .i64 W) ∧ w'.cell? ⟨w.heap.size, 1, none⟩ = some (.int .i64 H) ∧ w'.cell? ⟨w.heap.size, 2, none⟩ = some (.slice A xs.length c) := fun w' h => ⟨h, h.cellOf (c0 0), h.cellOf (c0 1), h.cellOf (c0 2)⟩
    go_region_held3 (fun w' => Ext w1 w' ∧ w'.cell? ⟨w.heap.size, 0, none⟩ = some (.int .i64 W) ∧ w'.cell? ⟨w.heap.size, 1, none⟩ = some (.int .i64 H) ∧ w'.cell? ⟨w.heap.size, 2, none⟩ = some (.slice A xs.length c)) ((refine sx _ ?_; (repeat' (first | exact And.left (by assumption) | assumption | refine Ext.alloc ?_ _ | refine Ext.set ?_ ?_ _ | refine Ext.drew ?_ | exact Ext.refl w1 | exact Nat.le_refl _ | exact Below.size (by assumption) | (simp; done))))) (first | ((refine step_app w.heap.size rfl (.const (.slice none 0 0)) (.tmp 33) 22 35 (.int .u32 0) 1 4 rfl Try.underlying22 info_u32 rfl (by decide) (by decide) (.slice none 0 0) 0 (nums .u32 []) rfl (World.ownsRow_nil _ _ _ _) A xs.length c (nums .u32 xs) rfl hc (by rw [nums_length]; simp) (Reads.shows (hx.ext (hE.trans (And.left (by assumption))))) nums_one (by omega) (Below.size (hE.trans (And.left (by assumption)))) (fun B' d' w' hown' hg => ?_); have hEw : Ext w1 w' := ext_none (And.left (by assumption)) hg; (first | (have kZ := (ext_none (Ext.refl _) hg).keep (blk_new_drew _ _); obtain ⟨dz, gz⟩ := blk_rules kZ) | skip))))
    all_goals
      rw [Nat.zero_add] at hown'
      have hown1 : w'.ownsRow w.heap.size 35 1 (.slice B' xs.length d') xs.length (nums .u32 xs) := hown'
    · go_wp2_with fail
      go_meet
      case rel => exact ⟨_, _, _, rfl, blk_new _ _, World.ownsRow.alloc hown1 _, hEw.alloc _, hEw.size⟩
    · go_wp2_with fail
      go_meet
      case rel => exact ⟨_, _, _, rfl, blk_set (blk_set (blk_set kZ 0 (.int .i64 W)) 1 (.int .i64 H)) 2 (.slice B' xs.length d'), row_set (row_set (row_set hown1 kZ (by decide) 0 (.int .i64 W)) (blk_set kZ 0 (.int .i64 W)) (by decide) 1 (.int .i64 H)) (blk_set (blk_set kZ 0 (.int .i64 W)) 1 (.int .i64 H)) (by decide) 2 (.slice B' xs.length d'), ((hEw.set (Nat.le_refl _) _).set (Nat.le_refl _) _).set (Nat.le_refl _) _, Nat.le_refl _⟩
  case rest =>
    obtain ⟨G, B', d', rfl, kI, hownI, hEc, hG⟩ := hcut
    replace k0 := hEc.keep k0
    have hE2 := hE.trans hEc
    have hGw : w.heap.size ≤ G := Nat.le_trans hE.size hG
    have hrI : Reads .u32 wc B' xs := by
      obtain ⟨A2, c2, hv, hr2, _⟩ := Own.reads (show Own .u32 35 wc w.heap.size (.slice B' xs.length d') xs from hownI)
      injection hv with e1 e2 e3
      rw [e1]
      exact hr2
    clear c0 f0 hE hEc hG
    obtain ⟨cI, fI⟩ := blk_rules kI
    go_wp2_with fail
    have hgiW : ∀ gi, B' = some ⟨gi, 0, none⟩ → gi < wc.heap.size := fun gi e => by
      subst e
      obtain ⟨_, cur, hcc⟩ := row_block hownI (g := gi) (by simp [Value.ownBlock])
      exact blk_lt hcc
    cases hp : isPic W H xs.length
    · refine (from_bad _ _ _ _ _ _ hp).mono ?_
      rintro e w3 ⟨rfl, hb⟩
      replace k0 := hb.keep k0
      replace hE2 := hE2.trans hb
      clear cI fI hb kI hownI hrI
      obtain ⟨c0, f0⟩ := blk_rules k0
      have hI := fun w => ris_any W H A c xs.length w
      simp only [hp] at hI
      go_wp2_with fail
      refine (hI _).mono ?_
      rintro e w4 ⟨rfl, hb4⟩
      clear c0 f0
      go_wp2_with fail
      refine (wakes3_any _).mono ?_
      rintro e w5 ⟨rfl, hb5⟩
      go_wp2
      go_ret
      exact ⟨rfl, (hE2.trans hb4).trans hb5⟩
    refine (from_good _ _ _ _ _ _ hp hrI hxb).mono ?_
    rintro e w3 ⟨bb, bp, cap, rfl, hB, hb⟩
    have hbpI := World.ownsRow.lt hB.row bp (by simp [Value.ownBlock])
    replace hB := hB.base_le (base' := w.heap.size) hE2.size
    have hbpG := blk_lt kI
    replace k0 := hb.keep k0
    replace kI := hb.keep kI
    replace hownI := row_keep hownI hb
    replace hrI := hrI.ext hb
    replace hE2 := hE2.trans hb
    clear cI fI hb
    obtain ⟨c0, f0⟩ := blk_rules k0
    have hI := fun w => ris_any W H A c xs.length w
    simp only [hp] at hI
    go_wp2_with fail
    refine (hI _).mono ?_
    rintro e w4 ⟨rfl, hb⟩
    replace k0 := hb.keep k0
    replace kI := hb.keep kI
    replace hownI := row_keep hownI hb
    replace hrI := hrI.ext hb
    replace hB := hB.ext hb
    replace hE2 := hE2.trans hb
    clear c0 f0 hb hI
    go_wp2_with fail
    have hx4 := hx.ext hE2
    have j0 := After.blk k0
    have jI := After.blk kI
    have hsm : ∀ y : After w4, Calls Try.prog 19 #[.agg #[.int .i64 W, .int .i64 H, .slice B' xs.length d'], .agg #[.int .i64 W, .int .i64 H, .slice A xs.length c]] y.now fun e w' => e = .returned (.bool true) ∧ Ext y.now w' := fun y => rsame_same (hrI.ext y.ext) (hx4.ext y.ext) rfl (by omega)
    refine wp_region_after (by kernel_rfl) (by kernel_rfl) ?_
    repeat (go_big_quiet_step (first | with_reducible exact Calls.after (hsm _) | with_reducible exact Calls.after_same (w_any (hB.ext (After.ext _))) | with_reducible exact Calls.after_same (h_any (hB.ext (After.ext _)))))
    refine wpQuiet_nil ?_
    intro _ hw'
    obtain ⟨z, rfl⟩ := hw'
    clear j0 jI hsm hx4
    replace k0 := z.ext.keep k0
    replace kI := z.ext.keep kI
    replace hownI := row_keep hownI z.ext
    replace hB := hB.ext z.ext
    replace hE2 := hE2.trans z.ext
    clear hrI
    generalize z.now = w5 at *
    have hp' : 1 ≤ W ∧ W ≤ 256 ∧ 1 ≤ H ∧ H ≤ 256 ∧ (xs.length : Int) = W * H := by simpa [isPic, and_assoc] using hp
    obtain ⟨W1, W2, H1, H2, hlen⟩ := hp'
    obtain ⟨m1, m2⟩ := mul_bd W1 W2 H1 H2
    have hn0 : 0 < xs.length := by omega
    have HL := Lib.hid hlen
    clear hlen m1 m2
    obtain ⟨gi, rfl, hgi⟩ := row_form hownI hn0
    have hgibp : gi ≠ bp := by have := hgiW gi rfl; omega
    have hgiG : gi ≠ G := fun e => by
      obtain ⟨_, cur, hcc⟩ := row_block hownI (g := gi) (by simp [Value.ownBlock])
      rw [e, kI] at hcc; injection hcc with hcc; injection hcc with _ hcc _; exact absurd hcc (by decide)
    clear hgiW hbpG hp
    go_wp2_with fail
    go_loopw [8] (fun i wr => ∃ (k : Nat) (L : List Int), k ≤ xs.length ∧ i = .int .i64 k ∧ L.length = xs.length ∧ Ext w wr ∧ wr.heap[w.heap.size]? = some (.cells #[.int .i64 W, .int .i64 H, .slice A xs.length c] 24 (0, 0)) ∧ wr.heap[G]? = some (.cells #[.int .i64 W, .int .i64 H, .slice (some ⟨gi, 0, none⟩) xs.length d'] 24 (0, 0)) ∧ BufAt 90 35 wr w.heap.size bb bp cap W H (xs.map cut24) ∧ wr.ownsRow w.heap.size 35 1 (.slice (some ⟨gi, 0, none⟩) xs.length d') xs.length (nums .u32 L)) (fun i _ => xs.length - (intOf i).toNat)
    case atStart => exact ⟨0, xs, Nat.zero_le _, rfl, rfl, hE2, k0, kI, hB, hownI⟩
    case round =>
      clear hE2 k0 kI hB hownI
      obtain ⟨k, L, hk, rfl, hL, hE2, k0, kI, hB, hownI⟩ := hrel
      obtain ⟨cI, fI⟩ := blk_rules kI
      by_cases hlt : k < xs.length
      · have hrc := World.ownsRow.cellAt hownI k (by omega)
        rw [nums_get (by omega)] at hrc
        have hrf := fun j => World.ownsRow.frozenAt hownI j
        have hs := World.ownsRow.stored hownI k (.int .u32 77)
        have hset : (nums .u32 L).set k (.int .u32 77) = nums .u32 (L.set k 77) := by simp [nums, List.map_set]
        have Hs := Lib.hid (hset ▸ hs.1)
        have Hg := Lib.hid hs.2
        clear hs hset
        have hgb : gi ≠ bb := fun e => by
          obtain ⟨_, cur, hcc⟩ := row_block hownI (g := gi) (by simp [Value.ownBlock])
          rw [e, hB.head] at hcc; injection hcc with hcc; injection hcc with _ hcc _; exact absurd hcc (by decide)
        have hg0 : gi ≠ w.heap.size := fun e => by
          obtain ⟨_, cur, hcc⟩ := row_block hownI (g := gi) (by simp [Value.ownBlock])
          rw [e, k0] at hcc; injection hcc with hcc; injection hcc with _ hcc _; exact absurd hcc (by decide)
        go_wp2_with fail
        go_roundw
        case rel => exact ⟨k + 1, L.set k 77, by omega, by go_num, by rw [List.length_set]; exact hL, hE2.set (by simpa using hgi) _, blk_set_ne k0 (Ne.symm hg0) _ _, blk_set_ne kI (Ne.symm hgiG) _ _, hB.keptT Hg.out (by simpa using hgb) (by simpa using hgibp), Hs.out⟩
        case measure => simp [intOf]; omega
      · obtain rfl : k = xs.length := by omega
        clear hownI kI hL
        obtain ⟨c0, f0⟩ := blk_rules k0
        go_wp2_with fail
        clear cI fI
        refine (rown_any W H A c xs _ (hx.ext hE2) hxb (by omega)).mono ?_
        rintro e w6 ⟨B9, d9, rfl, hown, hb⟩
        have hbp := blk_lt hB.head
        have hbp2 := World.ownsRow.lt hB.row bp (by simp [Value.ownBlock])
        obtain ⟨g9, rfl, hg9⟩ := row_form hown hn0
        replace hown := World.ownsRow.base_le (base' := w.heap.size) hown hE2.size
        replace hB := hB.ext hb
        replace hE2 := hE2.trans hb
        have hg9bp : g9 ≠ bp := by omega
        clear hb k0 c0 f0
        have k9 := blk_new w6 (.cells #[.int .i64 W, .int .i64 H, .slice (some ⟨g9, 0, none⟩) xs.length d9] 24)
        have hPA : PlayAt w W H xs.length w6.heap.size bb bp cap (w6.alloc (.cells #[.int .i64 W, .int .i64 H, .slice (some ⟨g9, 0, none⟩) xs.length d9] 24)) :=
          ⟨xs.map cut24, g9, d9, by simp, hE2.alloc _, k9, hB.ext ((Ext.refl _).alloc _), World.ownsRow.alloc hown _, hg9bp⟩
        have hs9 := hE2.size
        clear k9 hown hB hE2 hg9bp
        go_upto_block 2 with fail
        obtain ⟨s9, hs9'⟩ : ∃ s9, w6.heap.size = s9 := ⟨_, rfl⟩
        rw [hs9'] at hPA hs9
        simp only [hs9']
        generalize w6.alloc (.cells #[.int .i64 W, .int .i64 H, .slice (some ⟨g9, 0, none⟩) xs.length d9] 24) = w7 at *
        clear hs9' hbp hbp2 hg9 hk hlt
        refine plays_block _ _ _ _ _ _ _ _ _ _ _ _ _ _ _ _ _ _ _ _ _ _ _ _ _ _ _ _ _ _ _ _ _ _ _ _ _ _ _ _ _ _ _ _ _ _ _ _ _ _ _ _ _ _ _ _ _ _ _ _ _ _ _ _ _ _ _ _ _ _ _ _ _ _ _ _ _ _ _ _ _ _ _ _ _ _ _ _ _ _ _ _ _ _ _ _ _ _ _ _ _ _ _ _ _ _ _ _ _ _ _ _ _ _ _ _ _ _ _ _ _ _ _ _ _ _ _ _ _ _ _ _ _ _ _ _ _ _ _ _ _ _ _ _ _ _ _ _ _ _ _ _ _ _ _ _ _ _ _ _ _ _ _ _ _ _ _ _ _ _ _ _ _ _ _ _ _ _ _ _ _ _ _ _ _ _ _ _ _ _ _ _ _ _ _ _ _ _ _ _ _ _ _ _ _ _ _ _ _ _ _ _ _ _ _ _ _ _ _ _ _ _ _ _ _ _ _ _ _ _ _ _ _ _ _ _ _ _ _ _ _ _ _ _ _ _ _ _ _ _ _ _ _ _ _ _ _ _ _ _ _ _ _ _ _ _ _ _ _ _ _ _ _ _ _ w _ W H xs.length s9 bb bp cap _ _ l _ _ W1 W2 H1 H2 HL.out hs9 hl hl40 hPA ?_
        intro u4 u10 u11 u12 u13 u14 u15 u16 u17 u18 u19 u20 u21 u22 u23 u92 u93 u94 u95 u96 u97 u98 u99 u100 u101 u102 u103 u104 u105 u106 u107 u108 u109 u110 u111 u112 u113 u114 u115 u116 u117 u118 u119 u120 u121 u122 u123 u124 u125 u126 u127 u128 u129 u130 u131 u132 u133 u134 u135 u136 u137 u138 u139 u140 u141 u142 u143 u144 u145 u146 u147 u148 u149 u150 u151 u152 u153 u154 u155 u156 u157 u158 u159 u160 u161 u162 u163 u164 u165 u166 u167 u168 u169 u170 u171 u172 u173 u174 u175 u176 u177 u178 u179 u180 u181 u182 u183 u184 u185 u186 u187 u188 u189 u190 u191 u192 u193 u194 u195 u196 u197 u198 u199 u200 u201 u202 u203 u204 u205 u206 u207 u208 u209 u210 u211 u212 u213 u214 u215 u216 u217 u218 u219 u220 u221 u222 u223 u224 u225 u226 u227 u228 u229 u230 u231 u232 u233 u234 u235 u236 u237 u238 u239 u240 u241 u242 u243 u244 u245 u246 u247 u248 u249 u250 u251 u252 u253 u254 u255 u256 u257 u258 u259 u260 u261 u262 u263 u264 u265 u266 u267 u268 u269 u270 u271 u272 u273 u274 u275 u276 u277 wc2 hP
        obtain ⟨px, g, d3, hpx, hE, k9, hB, hown, hgbp⟩ := hP
        clear k9 hB hown
        go_wp2_with fail
        refine (wakes3_any _).mono ?_
        rintro e w8 ⟨rfl, hb8⟩
        go_wp2
        go_ret
        exact ⟨rfl, hE.trans hb8⟩
end Go.Proofs.Ytilcggkbancniaa
