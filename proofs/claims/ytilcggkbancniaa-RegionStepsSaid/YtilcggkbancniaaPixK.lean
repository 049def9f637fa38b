/- The reference's Same of two pictures. -/
import Derived.Test.YtilcggkbancniaaPixJ
set_option linter.unusedVariables false
set_option linter.unusedSimpArgs false
namespace Go.Proofs.Ytilcggkbancniaa
open Go.RowKit

def picEq (W H : Int) (xs : List Int) (W' H' : Int) (ys : List Int) : Bool := W == W' && (H == H' && eqL xs ys)
set_option maxHeartbeats 2000000 in
theorem rsame_any (W H W' H' : Int) (A B : Option Addr) (c d : Nat) (xs ys : List Int) (w : World) (hx : Reads .u32 w A xs) (hy : Reads .u32 w B ys) (hn : xs.length ≤ 65536) (hm : ys.length ≤ 65536) :
    Calls Try.prog 19 #[.agg #[.int .i64 W, .int .i64 H, .slice A xs.length c], .agg #[.int .i64 W', .int .i64 H', .slice B ys.length d]] w fun e w' => e = .returned (.bool (picEq W H xs W' H' ys)) ∧ Ext w w' := by
  have hE0 := ((Ext.refl w).alloc (.cells #[.int .i64 W, .int .i64 H, .slice A xs.length c] 24)).alloc (.cells #[.int .i64 W', .int .i64 H', .slice B ys.length d] 24)
  have k0 := blk_old (blk_new w (.cells #[.int .i64 W, .int .i64 H, .slice A xs.length c] 24)) (.cells #[.int .i64 W', .int .i64 H', .slice B ys.length d] 24)
  have k1 := blk_new1 w (.cells #[.int .i64 W, .int .i64 H, .slice A xs.length c] 24) (.cells #[.int .i64 W', .int .i64 H', .slice B ys.length d] 24)
  by_cases hW : W = W'
  · by_cases hH : H = H'
    · by_cases hl : xs.length = ys.length
      · have hl1 : ((xs.length : Nat) != ys.length) = false := by simp [hl]
        subst hW; subst hH
        have hpe : picEq W H xs W H ys = eqL xs ys := by simp [picEq]
        rw [hpe]
        go_enter Try.func19, Try.ntmps19
        have Hl := Lib.hid hl
        clear hl
        go_wp2_with fail
        replace hx := hx.ext hE0
        replace hy := hy.ext hE0
        generalize (w.alloc (.cells #[.int .i64 W, .int .i64 H, .slice A xs.length c] 24)).alloc (.cells #[.int .i64 W, .int .i64 H, .slice B ys.length d] 24) = w2 at *
        go_loopw [5] (fun i wr => ∃ k : Nat, k ≤ xs.length ∧ i = .int .i64 k ∧ xs.take k = ys.take k ∧ Ext w2 wr) (fun i _ => xs.length - (intOf i).toNat)
        case atStart => exact ⟨0, Nat.zero_le _, rfl, by simp, Ext.refl _⟩
        case round =>
          obtain ⟨k, hk, rfl, ht, hE⟩ := hrel
          have Ht := Lib.hid ht
          clear ht
          obtain ⟨c0, f0⟩ := blk_rules (hE.keep k0)
          obtain ⟨c1, f1⟩ := blk_rules (hE.keep k1)
          by_cases hlt : k < xs.length
          · have hlt2 : k < ys.length := by have := Hl.out; omega
            obtain ⟨b1, o1, rfl, h1⟩ := (hx.ext hE).form (by omega)
            obtain ⟨b2, o2, rfl, h2⟩ := (hy.ext hE).form (by omega)
            have h1 := h1 k hlt
            have h2 := h2 k hlt2
            have t1 := List.take_succ_eq_append_getElem hlt
            have t2 := List.take_succ_eq_append_getElem hlt2
            have Ht2 : Hid (xs[k] = ys[k] → xs.take (k + 1) = ys.take (k + 1)) := fun e => by rw [t1, t2, Ht.out, e]
            have Ht3 : Hid (xs[k] ≠ ys[k] → eqL xs ys = false) := fun e => by
              simp only [eqL, decide_eq_false_iff_not]
              intro e2
              subst e2
              exact e rfl
            simp only [List.getD_eq_getElem?_getD, List.getElem?_eq_getElem hlt, List.getElem?_eq_getElem hlt2, Option.getD_some] at h1 h2
            clear t1 t2
            generalize xs[k] = p at *
            generalize ys[k] = q at *
            go_wp2_with fail
            go_quiet (fail)
            go_wp2_with fail
            · go_ret
              have hne : p ≠ q := by first | assumption | (intro e; simp_all)
              exact ⟨by rw [Ht3.out hne]; rfl, hE0.trans (hE.drewN _)⟩
            · have he : p = q := by first | assumption | (simp_all; done)
              exact ⟨⟨k + 1, by omega, by go_num, Ht2.out he, hE.drewN _⟩, by simp [intOf]; omega⟩
          · have he : eqL xs ys = true := by
              have := Ht.out
              have h2 := Hl.out
              rw [List.take_of_length_le (by omega), List.take_of_length_le (by omega)] at this
              simpa [eqL] using this
            have He := Lib.hid he
            clear he
            go_wp2_with fail
            go_ret
            exact ⟨by rw [He.out]; rfl, hE0.trans hE⟩
      · subst hW; subst hH
        have hl1 : ((xs.length : Nat) != ys.length) = true := by simpa using hl
        have hpe : picEq W H xs W H ys = false := by
          have : eqL xs ys = false := by simp only [eqL, decide_eq_false_iff_not]; intro e; exact hl (by rw [e])
          simp [picEq, this]
        rw [hpe]
        clear hpe
        go_enter Try.func19, Try.ntmps19
        go_wp2_with fail
        go_ret
        exact ⟨rfl, hE0⟩
    · subst hW
      have hH1 : (H != H') = true := by simpa using hH
      have hpe : picEq W H xs W H' ys = false := by simp [picEq, hH]
      rw [hpe]
      clear hpe
      go_enter Try.func19, Try.ntmps19
      go_wp2_with fail
      go_ret
      exact ⟨rfl, hE0⟩
  · have hW1 : (W != W') = true := by simpa using hW
    have hpe : picEq W H xs W' H' ys = false := by simp [picEq, hW]
    rw [hpe]
    clear hpe
    go_enter Try.func19, Try.ntmps19
    go_wp2_with fail
    go_ret
    exact ⟨rfl, hE0⟩
end Go.Proofs.Ytilcggkbancniaa
