/- What a region 'x, y := Own(a), Own(b)' needs: three that may come up; a row of numbers, and where it lies. -/
import Derived.Test.YtjghghbldifhaaaSched
import Derived.Test.YtjghghbldifhaaaRegY
import Derived.Test.YtjghghbldifhaaaRefD
set_option linter.unusedVariables false
set_option linter.unusedSimpArgs false
namespace Go.Proofs.Ytjghghbldifhaaa
open Go.RowKit Go.Shelf

/-- The first region of that number. -/
def findRegion (n : Nat) : Code → Option Code
  | .region m l b => if m = n then some (.region m l b) else none
  | .block _ c => findRegion n c
  | .seq a b => match findRegion n a with
    | some x => some x
    | none => findRegion n b
  | .loop c => findRegion n c
  | .scope c => findRegion n c
  | .cond _ a b => match findRegion n a with
    | some x => some x
    | none => findRegion n b
  | _ => none
section
variable {P : Program} {ops : Array Oper} {md : Region.Mode} {C : World → Prop}
theorem held_many {ks : List Nat} {listed : Array Bool} {a : Act} {w : World} {fuel : Nat} {Post : Act → World → Prop} (hr : Region.ready md ops listed = ks) (hne : ks ≠ [])
    (h : ∀ k ∈ ks, ∃ o, ops[k]? = some o ∧ wpList P ops (NormalOnly (fun a' w' => C w' ∧ wpAnyH P md ops (NormalOnly Post) C fuel (listed.setIfInBounds k true) a' w')) [o] a w) : wpAnyH P md ops (NormalOnly Post) C (fuel + 1) listed a w := by
  refine wpAnyH_all hr hne fun k hk => ?_
  obtain ⟨o, hk, h⟩ := h k hk
  unfold wpOp
  simp only [hk]
  simp only [wpList] at h
  by_cases hw : Region.wanted o (yielded ops a.tmps) = true
  · rw [if_pos hw] at h ⊢
    rcases h with h | h
    · left
      unfold Oper.wp at h ⊢
      generalize (execOp a.eval o).run P w = r at h ⊢
      cases r with
      | ok x w' =>
        cases x <;> simp only [Oper.upon] at h ⊢
        case enter f args =>
          refine Calls.mono h ?_
          intro e w'' he
          cases e with
          | returned v => exact he
          | panicked c => exact he.elim
          | outgrown => exact absurd he NormalOnly.shut
        all_goals exact h
      | halt x w' => cases x <;> simp only [Oper.upon] at h ⊢ <;> exact h.elim
    · exact absurd h.2 NormalOnly.shut
  · rw [if_neg hw] at h ⊢
    exact h
theorem held_two' {k1 k2 : Nat} {o1 o2 : Oper} {listed : Array Bool} {a : Act} {w : World} {fuel : Nat} {Post : Act → World → Prop} (hk1 : ops[k1]? = some o1) (hk2 : ops[k2]? = some o2) (hr : Region.ready md ops listed = [k1, k2])
    (h1 : wpList P ops (NormalOnly (fun a' w' => C w' ∧ wpAnyH P md ops (NormalOnly Post) C fuel (listed.setIfInBounds k1 true) a' w')) [o1] a w)
    (h2 : wpList P ops (NormalOnly (fun a' w' => C w' ∧ wpAnyH P md ops (NormalOnly Post) C fuel (listed.setIfInBounds k2 true) a' w')) [o2] a w) : wpAnyH P md ops (NormalOnly Post) C (fuel + 1) listed a w :=
  held_many hr (by simp) fun k hk => by
    rcases (by simpa using hk : k = k1 ∨ k = k2) with rfl | rfl
    · exact ⟨_, hk1, h1⟩
    · exact ⟨_, hk2, h2⟩
theorem held_three {k1 k2 k3 : Nat} {o1 o2 o3 : Oper} {listed : Array Bool} {a : Act} {w : World} {fuel : Nat} {Post : Act → World → Prop} (hk1 : ops[k1]? = some o1) (hk2 : ops[k2]? = some o2) (hk3 : ops[k3]? = some o3) (hr : Region.ready md ops listed = [k1, k2, k3])
    (h1 : wpList P ops (NormalOnly (fun a' w' => C w' ∧ wpAnyH P md ops (NormalOnly Post) C fuel (listed.setIfInBounds k1 true) a' w')) [o1] a w)
    (h2 : wpList P ops (NormalOnly (fun a' w' => C w' ∧ wpAnyH P md ops (NormalOnly Post) C fuel (listed.setIfInBounds k2 true) a' w')) [o2] a w)
    (h3 : wpList P ops (NormalOnly (fun a' w' => C w' ∧ wpAnyH P md ops (NormalOnly Post) C fuel (listed.setIfInBounds k3 true) a' w')) [o3] a w) : wpAnyH P md ops (NormalOnly Post) C (fuel + 1) listed a w :=
  held_many hr (by simp) fun k hk => by
    rcases (by simpa using hk : k = k1 ∨ k = k2 ∨ k = k3) with rfl | rfl | rfl
    · exact ⟨_, hk1, h1⟩
    · exact ⟨_, hk2, h2⟩
    · exact ⟨_, hk3, h3⟩
end
/-- A row of numbers that is owned from a size on. -/
structure RowHas (w : World) (lo : Nat) (B : Option Addr) (n d : Nat) (px : List Int) : Prop where
  own : w.ownsRow lo 58 1 (.slice B n d) n (nums .u32 px)
  len : px.length = n
theorem RowHas.of {w : World} {lo n d : Nat} {B : Option Addr} {xs : List Int} (h : w.ownsRow lo 58 1 (.slice B n d) n (nums .u32 (xs.map cut24))) (hl : (xs.map cut24).length = n := by simp) : RowHas w lo B n d (xs.map cut24) := ⟨h, hl⟩
theorem RowHas.ext {w w' : World} {lo n d : Nat} {B : Option Addr} {px : List Int} (h : RowHas w lo B n d px) (hE : Ext w w') : RowHas w' lo B n d px := ⟨row_keep h.own hE, h.len⟩
/-- It lies apart from a block. -/
def ApartP (B : Option Addr) (n d g : Nat) : Prop := (Value.slice B n d).ownBlock = none ∨ (Value.slice B n d).ownBlock ≠ some g
theorem RowHas.apart {w : World} {lo n d g : Nat} {B : Option Addr} {px : List Int} (h : RowHas w lo B n d px) (hg : w.heap.size ≤ g) : ApartP B n d g := .inr fun e => by
  have := (World.ownsRow.lt h.own g e).2
  omega
theorem RowHas.behind {w : World} {lo n d g : Nat} {B : Option Addr} {px : List Int} (h : RowHas w lo B n d px) (hg : g < lo) : ApartP B n d g := .inr fun e => by
  have := (World.ownsRow.lt h.own g e).1
  omega
theorem RowHas.set {w : World} {lo n d g j : Nat} {u : Value} {B : Option Addr} {px : List Int} (h : RowHas w lo B n d px) (ha : ApartP B n d g) : RowHas (w.setCell ⟨g, j, none⟩ u) lo B n d px :=
  ⟨World.ownsRow.kept h.own (grown_set w g j u) (by rcases ha with h | h; exact .inl h; exact .inr fun e => h e), h.len⟩
theorem RowHas.reads {w : World} {lo n d : Nat} {B : Option Addr} {px : List Int} (h : RowHas w lo B n d px) : Reads .u32 w B px := row_reads' h.own h.len
end Go.Proofs.Ytjghghbldifhaaa
