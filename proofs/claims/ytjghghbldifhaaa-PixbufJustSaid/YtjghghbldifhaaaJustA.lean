/- (*pixbuf.Buf).Copy, told in one; great with one act; a buffer that another one's turn leaves. -/
import Derived.Test.YtjghghbldifhaaaJustP
import Derived.Test.YtjghghbldifhaaaLawN
set_option linter.unusedVariables false
set_option linter.unusedSimpArgs false
namespace Go.Proofs.Ytjghghbldifhaaa
open Go.RowKit

theorem BufAt.grow {T e : TypeId} {w w1 : World} {base bb bp cap : Nat} {W H : Int} {px : List Int} (h : BufAt T e w base bb bp cap W H px) (row : Option Nat) (hE : Ext w w1) : BufAt T e w1 base bb bp cap W H px ∧ w.grownBy w1 row := ⟨h.ext hE, Ext.grow hE row⟩
theorem copy_law {w : World} {base bb bp cap : Nat} {W H : Int} {px : List Int} (hB : BufAt 117 58 w base bb bp cap W H px) (x y a b dx dy : Int) :
    Calls Try.prog 71 #[.pointer (some ⟨bb, 0, none⟩), .agg #[.int .i64 x, .int .i64 y, .int .i64 a, .int .i64 b, .int .i64 dx, .int .i64 dy]] w fun e w' => ∃ f px', e = .returned (.int .i64 f) ∧ BufAt 117 58 w' base bb bp cap W H px' ∧ w.grownBy w' (some bp) ∧ CopyTold W H px px' ⟨x, y, a, b⟩ dx dy f := by
  cases h1 : Rect.empty ⟨x, y, a, b⟩
  · have far : farB dx = true ∨ farB dx = false ∧ farB dy = true ∨ farB dx = false ∧ farB dy = false ∧ Rect.within ⟨x, y, a, b⟩ ⟨0, 0, W, H⟩ = false ∨ farB dx = false ∧ farB dy = false ∧ Rect.within ⟨x, y, a, b⟩ ⟨0, 0, W, H⟩ = true := by
      cases farB dx <;> cases farB dy <;> cases Rect.within ⟨x, y, a, b⟩ ⟨0, 0, W, H⟩ <;> simp
    have tell5 : ∀ {e : Ending} {w' : World}, e = .returned (.int .i64 5) ∧ Ext w w' → ∃ f px', e = .returned (.int .i64 f) ∧ BufAt 117 58 w' base bb bp cap W H px' ∧ w.grownBy w' (some bp) ∧ CopyTold W H px px' ⟨x, y, a, b⟩ dx dy f := fun {e w'} h => ⟨5, px, h.1, hB.ext h.2, Ext.grow h.2 _, copyTold_same⟩
    rcases far with h | h | h | ⟨h2, h3, h4⟩
    · exact (copy_far hB x y a b dx dy h1 (.inl h)).mono fun e w' h => tell5 h
    · exact (copy_far hB x y a b dx dy h1 (.inr (.inl h))).mono fun e w' h => tell5 h
    · exact (copy_far hB x y a b dx dy h1 (.inr (.inr h))).mono fun e w' h => tell5 h
    · obtain ⟨F, hF⟩ : ∃ F, Rect.shift ⟨x, y, a, b⟩ (-dx) (-dy) = F := ⟨_, rfl⟩
      cases h5 : F.empty
      · cases h6 : Rect.within F ⟨0, 0, W, H⟩
        · exact (copy_bad hB x y a b dx dy h1 h2 h3 h4 hF (.inr ⟨h5, h6⟩)).mono fun e w' h => tell5 h
        · exact (copy_good hB x y a b dx dy h1 h2 h3 h4 hF h5 h6).mono fun e w' h => ⟨0, _, h.1, h.2.1, h.2.2, copyTold_good hB.w1 hB.w2 hB.h1 hB.h2 hB.len hB.pix h1 h4 hF h5 h6⟩
      · exact (copy_bad hB x y a b dx dy h1 h2 h3 h4 hF (.inl h5)).mono fun e w' h => tell5 h
  · exact (copy_empty (w := w) (p := ⟨bb, 0, none⟩) x y a b dx dy h1).mono fun e w' h => ⟨0, px, h.1, hB.ext h.2, Ext.grow h.2 _, copyTold_empty h1⟩
theorem acts_block {w : World} {B : Nat} {t : TypeId} {fr : Nat × Nat} {a : ActD} (h : w.heap[B]? = some (.cells a.cells.toArray t fr)) (hr : Reads .u32 w a.A a.zs) (hx : ∀ v ∈ a.zs, 0 ≤ v ∧ v ≤ 4294967295) (hc : 0 ≤ a.c ∧ a.c ≤ 4294967295) (hn : a.zs.length ≤ 9223372036854775807) : ActsAt w (some ⟨B, 0, none⟩) [a] := fun i b hi => by
  have hi0 : i = 0 := by
    have := (List.getElem?_eq_some_iff.1 hi).1
    simp at this
    omega
  subst hi0
  have : b = a := by simpa using hi.symm
  subst this
  refine ⟨B, 0, rfl, fun j hj => ?_, hr, hx, hc, hn⟩
  rw [show 0 + 0 * 17 + j = j by omega, blk_cell h j, ← Array.getElem?_toList]
end Go.Proofs.Ytjghghbldifhaaa
