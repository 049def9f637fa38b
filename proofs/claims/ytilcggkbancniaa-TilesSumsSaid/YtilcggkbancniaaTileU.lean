/- The plain law of TilesSums: what a tile's sum hangs on. -/
import Derived.Test.YtilcggkbancniaaTileS
set_option linter.unusedVariables false
set_option linter.unusedSimpArgs false
namespace Go.Proofs.Ytilcggkbancniaa
open Go.RowKit

/-- A bit above the colour is turned. -/
def turn24 (x : Int) : Int := bits .xor .u32 x 16777216
theorem cut_turn {x : Int} (h₀ : 0 ≤ x) (h₁ : x ≤ 4294967295) : cut24 (turn24 x) = cut24 x := by
  obtain ⟨a, rfl⟩ : ∃ a : Nat, (a : Int) = x := ⟨x.toNat, by omega⟩
  have ha : a < 4294967296 := by omega
  have hx : a ^^^ 16777216 < 2 ^ 32 := Nat.xor_lt_two_pow (by omega) (by omega)
  have h1 : (BitVec.ofInt 32 (a : Int)).toNat = a := by
    rw [BitVec.ofInt_natCast, BitVec.toNat_ofNat]; exact Nat.mod_eq_of_lt (by omega)
  have h2 : (BitVec.ofInt 32 (16777216 : Int)).toNat = 16777216 := by decide
  have h3 : turn24 (a : Int) = ((a ^^^ 16777216 : Nat) : Int) := by
    show IntKind.u32.wrap ((BitVec.ofInt 32 (a : Int) ^^^ BitVec.ofInt 32 (16777216 : Int)).toNat : Int) = _
    rw [BitVec.toNat_xor, h1, h2]
    exact wraps_u32 _ (by omega) (by omega)
  have h4 : (a ^^^ 16777216) % 2 ^ 24 = a % 2 ^ 24 := by
    rw [Nat.xor_mod_two_pow]
    simp
  unfold cut24
  rw [h3]
  omega
theorem eat3_cut {h c d : Int} (e : cut24 c = cut24 d) : eat3 h c = eat3 h d := by
  unfold cut24 at e
  have e1 : c / 65536 % 256 = d / 65536 % 256 := by omega
  have e2 : c / 256 % 256 = d / 256 % 256 := by omega
  have e3 : c % 256 = d % 256 := by omega
  show eatS (eatS (eatS h (c / 65536 % 256)) (c / 256 % 256)) (c % 256) = eatS (eatS (eatS h (d / 65536 % 256)) (d / 256 % 256)) (d % 256)
  rw [e1, e2, e3]
theorem seg_eq {p q : List Int} (hl : p.length = q.length) {a : Nat} : ∀ {n : Nat}, a + n ≤ p.length → (∀ i, a ≤ i → i < a + n → cut24 (p.getD i 0) = cut24 (q.getD i 0)) → ∀ h, ((p.drop a).take n).foldl eat3 h = ((q.drop a).take n).foldl eat3 h
  | 0, _, _, h => by simp
  | n + 1, hn, he, h => by
    rw [foldl_take (by omega), foldl_take (by omega), seg_eq hl (by omega) (fun i h1 h2 => he i h1 (by omega)) h, eat3_cut (he (a + n) (by omega) (by omega))]
theorem foldl_ext {α : Type} {f g : Int → α → Int} : ∀ {l : List α} {h : Int}, (∀ x ∈ l, ∀ h, f h x = g h x) → l.foldl f h = l.foldl g h
  | [], _, _ => rfl
  | x :: l, h, e => by
    rw [List.foldl_cons, List.foldl_cons, e x (by simp)]
    exact foldl_ext fun y hy => e y (by simp [hy])
/-- A picture's pixels, the bit above the colour turned, one pixel set. -/
def turned (px : List Int) (a : Nat) (c : Int) : List Int := (mapAt (fun _ x => turn24 x) px).set a c
theorem turned_length (px : List Int) (a : Nat) (c : Int) : (turned px a c).length = px.length := by unfold turned; rw [List.length_set, mapAt_length]
theorem turned_cut {px : List Int} (hx : ∀ x ∈ px, 0 ≤ x ∧ x ≤ 4294967295) {a : Nat} {c : Int} {i : Nat} (hi : i < px.length) (h : i = a → cut24 c = cut24 (px.getD a 0)) : cut24 (px.getD i 0) = cut24 ((turned px a c).getD i 0) := by
  have hg : (px.getD i 0) ∈ px := by
    rw [List.getD_eq_getElem?_getD, List.getElem?_eq_getElem hi]
    exact List.getElem_mem _
  have hb := hx _ hg
  unfold turned
  rw [List.getD_eq_getElem?_getD (l := (mapAt (fun _ x => turn24 x) px).set a c), List.getElem?_set]
  split
  · rename_i hai
    subst hai
    rw [if_pos (by rw [mapAt_length]; exact hi)]
    exact (h rfl).symm
  · rw [← List.getD_eq_getElem?_getD, mapAt_getD _ _ hi]
    exact (cut_turn hb.1 hb.2).symm
theorem rowEat_eq {px : List Int} (hx : ∀ x ∈ px, 0 ≤ x ∧ x ≤ 4294967295) {a : Nat} {c : Int} {W : Nat} {X Y TW TH j : Nat} (hb : X ≤ 256 ∧ Y ≤ 256 ∧ TW ≤ 16 ∧ TH ≤ 16) (hXW : X + TW ≤ W) (hend : (Y + j) * W + X + TW ≤ px.length)
    (h : cut24 c = cut24 (px.getD a 0) ∨ Rect.has ⟨X, Y, TW, TH⟩ ((a : Int) % (W : Int)) ((a : Int) / (W : Int)) = false) (hj : j < TH) (h0 : Int) : rowEat px W ⟨X, Y, TW, TH⟩ h0 j = rowEat (turned px a c) W ⟨X, Y, TW, TH⟩ h0 j := by
  unfold rowEat
  dsimp only [Int.toNat_natCast]
  refine seg_eq (turned_length px a c).symm hend (fun i h1 h2 => turned_cut hx (by omega) fun hia => ?_) h0
  subst hia
  rcases h with h | h
  · exact h
  · exfalso
    obtain ⟨r, hr⟩ : ∃ r, i = (Y + j) * W + r := ⟨i - (Y + j) * W, by omega⟩
    have hrW : r < W := by omega
    have e1 : i / W = Y + j := by
      rw [hr, Nat.mul_comm, Nat.mul_add_div (by omega), Nat.div_eq_of_lt hrW, Nat.add_zero]
    have e2 : i % W = r := by
      rw [hr, Nat.mul_comm, Nat.mul_add_mod, Nat.mod_eq_of_lt hrW]
    have e3 : ((i : Int) % (W : Int)) = (r : Int) := by rw [← Int.natCast_emod, e2]
    have e4 : ((i : Int) / (W : Int)) = ((Y : Int) + (j : Int)) := by rw [← Int.natCast_ediv, e1]; simp
    rw [e3, e4] at h
    have : Rect.has ⟨X, Y, TW, TH⟩ (r : Int) ((Y : Int) + (j : Int)) = true := Rect.has_inside.2 ⟨Rect.empty_iff.2 (by dsimp only; omega), by dsimp only; omega, by dsimp only; omega, by dsimp only; omega, by dsimp only; omega⟩
    rw [this] at h
    cases h
theorem tileSum_eq {W H : Int} {px : List Int} (hok : sumsOk W H px = true) (hx : ∀ x ∈ px, 0 ≤ x ∧ x ≤ 4294967295) {a : Nat} {c : Int} {i : Nat} (hi : i < tileN W H)
    (h : cut24 c = cut24 (px.getD a 0) ∨ (tileR W H i).has ((a : Int) % W) ((a : Int) / W) = false) : tileSum px W.toNat (tileR W H i) = tileSum (turned px a c) W.toNat (tileR W H i) := by
  unfold sumsOk at hok
  rw [Bool.and_eq_true, decide_eq_true_eq] at hok
  obtain ⟨hsz, hlen⟩ := hok
  obtain ⟨⟨w1', w2'⟩, w3', w4'⟩ := sizeOk_iff.1 hsz
  obtain ⟨P, Q, _, _, p1, q1, hq⟩ := tileR_spec hsz hi
  obtain ⟨X, hX⟩ : ∃ X : Nat, X = P * 16 := ⟨_, rfl⟩
  obtain ⟨Y, hY⟩ : ∃ Y : Nat, Y = Q * 16 := ⟨_, rfl⟩
  obtain ⟨TW, hTW⟩ : ∃ n : Nat, (n : Int) = min 16 (W - (P : Int) * 16) := ⟨(min 16 (W - (P : Int) * 16)).toNat, by omega⟩
  obtain ⟨TH, hTH⟩ : ∃ n : Nat, (n : Int) = min 16 (H - (Q : Int) * 16) := ⟨(min 16 (H - (Q : Int) * 16)).toNat, by omega⟩
  obtain ⟨W', hW'⟩ : ∃ n : Nat, (n : Int) = W := ⟨W.toNat, by omega⟩
  obtain ⟨H', hH'⟩ : ∃ n : Nat, (n : Int) = H := ⟨H.toNat, by omega⟩
  rw [← hTW, ← hTH, show (P : Int) * 16 = (X : Int) by omega, show (Q : Int) * 16 = (Y : Int) by omega] at hq
  have hXW : X + TW ≤ W' := by omega
  have hYH : Y + TH ≤ H' := by omega
  have hpn : px.length = W' * H' := by
    rw [← hW', ← hH', ← Int.natCast_mul] at hlen
    omega
  rw [hq] at h ⊢
  subst hW'
  unfold tileSum
  dsimp only [Int.toNat_natCast]
  refine foldl_ext fun j hj h0 => ?_
  rw [List.mem_range] at hj
  refine rowEat_eq hx ⟨by omega, by omega, by omega, by omega⟩ hXW ?_ h hj h0
  have h1 : (Y + j + 1) * W' ≤ H' * W' := Nat.mul_le_mul_right _ (by omega)
  rw [hpn, Nat.mul_comm W' H']
  rw [Nat.add_mul, Nat.one_mul] at h1
  omega
theorem sumsOk_turned (W H : Int) (px : List Int) (a : Nat) (c : Int) : sumsOk W H (turned px a c) = sumsOk W H px := by unfold sumsOk; rw [turned_length]
theorem sumsL_get {W H : Int} {px : List Int} (hok : sumsOk W H px = true) {i : Nat} (hi : i < tileN W H) : (sumsL W H px).getD i 0 = tileSum px W.toNat (tileR W H i) := by
  unfold sumsL
  rw [if_pos hok]
  unfold sumsOf
  rw [List.getD_eq_getElem?_getD, List.getElem?_map, List.getElem?_range hi]
  rfl
theorem sumsL_len {W H : Int} {px : List Int} (hok : sumsOk W H px = true) : (sumsL W H px).length = tileN W H := by
  unfold sumsL
  rw [if_pos hok]
  unfold sumsOf
  rw [List.length_map, List.length_range]
theorem tileN_pos {w h : Int} (hok : sizeOk w h = true) : 0 < tileN w h := by
  obtain ⟨⟨w1, w2⟩, w3, w4⟩ := sizeOk_iff.1 hok
  have a1 := tilesIn_bd w1 w2
  have b1 := tilesIn_bd w3 w4
  unfold tileN
  rw [hok, if_pos rfl]
  exact Nat.mul_pos (by omega) (by omega)
end Go.Proofs.Ytilcggkbancniaa
