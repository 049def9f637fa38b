/- The law PixbufTwo: all inputs. -/
import Derived.Test.YtjghghbldifhaaaTwoA
set_option linter.unusedVariables false
set_option linter.unusedSimpArgs false
namespace Go.Proofs.Ytjghghbldifhaaa
open Go.RowKit

set_option maxRecDepth 100000 in
set_option maxHeartbeats 32000000 in
theorem two_any (W H W' H' : Int) (A A' : Option Addr) (c c' : Nat) (xs ys : List Int) (p q : Int) (w : World) (rx : Reads .u32 w A xs) (ry : Reads .u32 w A' ys) (hx : ∀ x ∈ xs, 0 ≤ x ∧ x ≤ 4294967295) (hy : ∀ x ∈ ys, 0 ≤ x ∧ x ≤ 4294967295) (hxl : xs.length ≤ 9223372036854775807) (hyl : ys.length ≤ 9223372036854775807) :
    Calls Try.prog 11 #[.agg #[.int .i64 W, .int .i64 H, .slice A xs.length c], .agg #[.int .i64 W', .int .i64 H', .slice A' ys.length c'], .int .i64 p, .int .i64 q] w fun e w' => e = .returned (.bool true) ∧ Ext w w' := by
  by_cases h1 : 1000 < xs.length
  · have g1 := fun w => great_nil W H A c xs.length w hxl
    simp only [decide_eq_true h1] at g1
    clear rx ry hx hy h1
    go_enter Try.func11, Try.ntmps11
    go_wp2_with fail
    refine (g1 _).mono ?_
    rintro e w1 ⟨rfl, E⟩
    have hE : Ext w w1 := Ext.of_allocs2 E
    clear E g1
    go_wp2_with fail
    refine (wakes3_any _).mono ?_
    rintro e w2 ⟨rfl, E⟩
    go_wp2_with fail
    go_ret
    exact ⟨rfl, hE.trans E⟩
  by_cases h2 : 1000 < ys.length
  · have g1 := fun w => great_nil W H A c xs.length w hxl
    have g2 := fun w => great_nil W' H' A' c' ys.length w hyl
    simp only [decide_eq_false h1] at g1
    simp only [decide_eq_true h2] at g2
    clear rx ry hx hy h1 h2
    go_enter Try.func11, Try.ntmps11
    go_wp2_with fail
    refine (g1 _).mono ?_
    rintro e w1 ⟨rfl, E⟩
    have kb := E.keep (blk_new1 w (.cells #[.int .i64 W, .int .i64 H, .slice A xs.length c] 43) (.cells #[.int .i64 W', .int .i64 H', .slice A' ys.length c'] 43))
    obtain ⟨c1, f1⟩ := blk_rules kb
    have hE : Ext w w1 := Ext.of_allocs2 E
    clear E g1
    go_wp2_with fail
    refine (g2 _).mono ?_
    rintro e w2 ⟨rfl, E⟩
    replace hE := hE.trans E
    clear E g2 c1 f1
    go_wp2_with fail
    refine (wakes3_any _).mono ?_
    rintro e w3 ⟨rfl, E⟩
    go_wp2_with fail
    go_ret
    exact ⟨rfl, hE.trans E⟩
  exact two_in W H W' H' A A' c c' xs ys p q w rx ry hx hy (by omega) (by omega)
end Go.Proofs.Ytjghghbldifhaaa
