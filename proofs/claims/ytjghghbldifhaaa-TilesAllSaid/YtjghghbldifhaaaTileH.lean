/- The law TilesTwice. Printed by gen_twice.py. -/
import Derived.Test.YtjghghbldifhaaaTileF
set_option linter.unusedVariables false
set_option linter.unusedSimpArgs false
namespace Go.Proofs.Ytjghghbldifhaaa
open Go.RowKit
attribute [local go_sem ↓] neq_rect

theorem hasL_cut (l : List Rect) (w h : Int) (is : List Nat) (x y : Int) : hasL (cutL l w h is) x y = (hasL l x y && is.any fun i => hasL [tileR w h i] x y) := by
  induction is with
  | nil => simp [cutL, hasL]
  | cons i is ih =>
    show hasL (listOf 2 l [tileR w h i] ++ cutL l w h is) x y = _
    have happ : ∀ a b : List Rect, hasL (a ++ b) x y = (hasL a x y || hasL b x y) := fun a b => by unfold hasL; rw [List.any_append]
    rw [happ, ih, listOf_has, List.any_cons]
    cases hasL l x y <;> cases hasL [tileR w h i] x y <;> simp [meant]
theorem flatMap_same {f g : Nat → List Rect} : ∀ {is : List Nat}, (∀ i ∈ is, f i = g i) → is.flatMap f = is.flatMap g
  | [], _ => rfl
  | i :: is, h => by
    show f i ++ is.flatMap f = g i ++ is.flatMap g
    rw [h i (by simp), flatMap_same (is := is) fun j hj => h j (by simp [hj])]
theorem split_twice (l : List Rect) (w h : Int) : splitOf (splitOf l w h) w h = splitOf l w h := by
  unfold splitOf cutL
  refine flatMap_same fun i hi => ?_
  refine listOf_eq fun x y => ?_
  have h1 := hasL_cut l w h (List.range (tileN w h)) x y
  unfold cutL at h1
  rw [h1]
  cases hc : hasL [tileR w h i] x y
  · cases hasL l x y <;> simp [meant]
  · have : ((List.range (tileN w h)).any fun i => hasL [tileR w h i] x y) = true := List.any_eq_true.2 ⟨i, hi, hc⟩
    rw [this, Bool.and_true]
theorem touchB_app (a b : List Rect) (t : Rect) : touchB (a ++ b) t = (touchB a t || touchB b t) := by unfold touchB; rw [List.any_append]
theorem touched_left (a b : List Rect) (w h : Int) : (touchedOf (a ++ b) w h).filter (fun i => touchB a (tileR w h i)) = touchedOf a w h := by
  unfold touchedOf
  rw [List.filter_filter]
  congr 1
  funext i
  rw [touchB_app]
  cases touchB a (tileR w h i) <;> simp
theorem touched_right (a b : List Rect) (w h : Int) : (touchedOf (a ++ b) w h).filter (fun i => touchB b (tileR w h i)) = touchedOf b w h := by
  unfold touchedOf
  rw [List.filter_filter]
  congr 1
  funext i
  rw [touchB_app]
  cases touchB b (tileR w h i) <;> simp
theorem pick_step {T : List Nat} (hT : T.Pairwise (· < ·)) (f : Nat → Bool) {j t : Nat} (hj : T[j]? = some t) :
    (f t = true → (T.filter f)[((T.take j).filter f).length]? = some t ∧ ((T.take (j + 1)).filter f).length = ((T.take j).filter f).length + 1) ∧
    (f t = false → (∀ u, (T.filter f)[((T.take j).filter f).length]? = some u → u ≠ t) ∧ ((T.take (j + 1)).filter f).length = ((T.take j).filter f).length) := by
  have hjl : j < T.length := (List.getElem?_eq_some_iff.1 hj).1
  have htk : T.take (j + 1) = T.take j ++ [t] := by rw [List.take_add_one, hj]; rfl
  have hsp : T = T.take j ++ t :: T.drop (j + 1) := by
    conv => lhs; rw [← List.take_append_drop (j + 1) T, htk]
    simp
  have hd : ∀ u ∈ T.drop (j + 1), t < u := by
    rw [hsp] at hT
    exact (List.pairwise_cons.1 (List.pairwise_append.1 hT).2.1).1
  have hX : T.filter f = (T.take j).filter f ++ (t :: T.drop (j + 1)).filter f := by
    conv => lhs; rw [hsp]
    rw [List.filter_append]
  rw [htk, List.filter_append, hX, List.getElem?_append_right (Nat.le_refl _), Nat.sub_self, List.length_append]
  constructor
  · intro hf
    rw [List.filter_cons_of_pos hf, List.filter_cons_of_pos hf]
    exact ⟨rfl, rfl⟩
  · intro hf
    rw [List.filter_cons_of_neg (by rw [hf]; simp), List.filter_cons_of_neg (by rw [hf]; simp)]
    refine ⟨fun u hu => ?_, rfl⟩
    have hm : u ∈ (T.drop (j + 1)).filter f := List.mem_of_getElem? hu
    have := hd u (List.mem_filter.1 hm).1
    omega
theorem natsI_get {T : List Nat} {i t : Nat} (h : T[i]? = some t) : (natsI T).getD i 0 = (t : Int) := by
  unfold natsI
  rw [List.getD_eq_getElem?_getD, List.getElem?_map, h]
  rfl
theorem natsI_length (T : List Nat) : (natsI T).length = T.length := by unfold natsI; rw [List.length_map]
theorem reads_nat {T : List Nat} {w : World} {A : Option Addr} {i t : Nat} (h : Reads .i64 w A (natsI T)) (hi : T[i]? = some t) : ∃ b o, A = some ⟨b, o, none⟩ ∧ w.cell? ⟨b, o + i, none⟩ = some (.int .i64 (t : Int)) := by
  have hl : i < T.length := (List.getElem?_eq_some_iff.1 hi).1
  obtain ⟨b, o, e, hc⟩ := h i (by rw [natsI_length]; exact hl)
  exact ⟨b, o, e, by rw [hc, natsI_get hi]⟩

end Go.Proofs.Ytjghghbldifhaaa
