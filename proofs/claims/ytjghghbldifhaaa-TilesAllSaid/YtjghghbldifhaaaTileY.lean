/- The law TilesAll: sizes that there are none of; all inputs. -/
import Derived.Test.YtjghghbldifhaaaTileX
set_option linter.unusedVariables false
set_option linter.unusedSimpArgs false
namespace Go.Proofs.Ytjghghbldifhaaa
open Go.RowKit

set_option maxRecDepth 100000 in
set_option maxHeartbeats 4000000 in
theorem all_bad (aA : Option Addr) (ca : Nat) (l : List Rect) (wd ht : Int) (w : World) (hl : RectsAt w aA l) (hln : l.length ≤ 16) (hok : sizeOk wd ht = false) :
    Calls Try.prog 7 #[.slice aA l.length ca, .int .i64 wd, .int .i64 ht] w fun e w' => e = .returned (.bool true) ∧ Ext w w' := by
  have hbad : wd < 1 ∨ ¬ wd < 1 ∧ 256 < wd ∨ ¬ wd < 1 ∧ ¬ 256 < wd ∧ ht < 1 ∨ ¬ wd < 1 ∧ ¬ 256 < wd ∧ ¬ ht < 1 ∧ 256 < ht := by
    have hno : ¬ (sizeOk wd ht = true) := by rw [hok]; simp
    rw [sizeOk_iff] at hno
    omega
  have cg := grid_any wd ht
  have cs := fun w (h : RectsAt w aA l) => split_any aA ca l wd ht w h (by omega)
  have ct := fun w (h : RectsAt w aA l) => touched_any aA ca l wd ht w h (by omega)
  have g0 : gridOf wd ht = [] := by unfold gridOf; rw [tileN_none hok]; rfl
  have s0 : splitOf l wd ht = [] := by unfold splitOf; rw [tileN_none hok]; rfl
  have t0 : natsI (touchedOf l wd ht) = [] := by unfold touchedOf; rw [tileN_none hok]; rfl
  rw [g0] at cg
  simp only [s0] at cs
  simp only [t0] at ct
  have HL := Lib.hid hl
  have d1 : ((16 : Int) < l.length) = False := by simp; omega
  clear hl g0 s0 t0 hok
  rcases hbad with h1 | ⟨h1, h2⟩ | ⟨h1, h2, h3⟩ | ⟨h1, h2, h3, h4⟩
  all_goals
    go_enter Try.func7, Try.ntmps7
    go_wp2_with fail
    refine (cg w).mono ?_
    rintro e w1 ⟨B1, e1, rfl, o1, n1, E⟩
    have hE := E
    replace HL := Lib.hid (HL.out.ext E)
    clear o1 n1 E cg
    simp only [List.length_nil]
    go_wp2_with fail
    refine (cs w1 HL.out).mono ?_
    rintro e w2 ⟨B2, e2, rfl, o2, n2, E⟩
    replace hE := hE.trans E
    replace HL := Lib.hid (HL.out.ext E)
    clear o2 n2 E cs
    simp only [List.length_nil]
    go_wp2_with fail
    refine (ct w2 HL.out).mono ?_
    rintro e w3 hg
    obtain ⟨B3, e3, rfl, r3, E⟩ := hg.reads
    replace hE := hE.trans E
    clear hg r3 E ct HL
    simp only [List.length_nil]
    go_wp2_with fail
    refine (wakes10_any _).mono ?_
    rintro e w4 ⟨rfl, E⟩
    go_wp2_with fail
    go_ret
    exact ⟨rfl, hE.trans E⟩
set_option maxRecDepth 100000 in
theorem all_any10 (aA : Option Addr) (ca : Nat) (l : List Rect) (wd ht : Int) (w : World) (hl : RectsAt w aA l) :
    Calls Try.prog 7 #[.slice aA l.length ca, .int .i64 wd, .int .i64 ht] w fun e w' => e = .returned (.bool true) ∧ Ext w w' := by
  by_cases h1 : l.length ≤ 16
  · cases hok : sizeOk wd ht
    · exact all_bad aA ca l wd ht w hl h1 hok
    · exact all_good aA ca l wd ht w hl h1 hok
  · have d1 : ((16 : Int) < l.length) = True := by simp; omega
    clear hl
    go_enter Try.func7, Try.ntmps7
    go_wp2_with fail
    refine (wakes10_any _).mono ?_
    rintro e w1 ⟨rfl, hE⟩
    go_wp2_with fail
    go_ret
    exact ⟨rfl, hE⟩
end Go.Proofs.Ytjghghbldifhaaa
