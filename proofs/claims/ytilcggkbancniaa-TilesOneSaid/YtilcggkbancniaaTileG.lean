/- The law TilesOne. -/
import Derived.Test.YtilcggkbancniaaTileF
set_option linter.unusedVariables false
set_option linter.unusedSimpArgs false
namespace Go.Proofs.Ytilcggkbancniaa
open Go.RowKit

/-- Is there such a pixel, and in which tile? -/
def hitB (w h x y : Int) : Bool := sizeOk w h && decide ((0 ≤ x ∧ x < w) ∧ 0 ≤ y ∧ y < h)
def hitAt (w x y : Int) : Nat := (y / 16).toNat * tilesIn w + (x / 16).toNat
theorem hitB_iff {w h x y : Int} : hitB w h x y = true ↔ sizeOk w h = true ∧ (0 ≤ x ∧ x < w) ∧ 0 ≤ y ∧ y < h := by
  unfold hitB
  rw [Bool.and_eq_true, decide_eq_true_eq]
theorem tile_has {w h x y : Int} (hok : sizeOk w h = true) {i : Nat} (hi : i < tileN w h) : (tileR w h i).has x y = (hitB w h x y && decide (i = hitAt w x y)) := by
  obtain ⟨P, Q, hP, hQ, p1, q1, hq⟩ := tileR_spec hok hi
  obtain ⟨⟨w1, w2⟩, w3, w4⟩ := sizeOk_iff.1 hok
  have a1 := tilesIn_bd w1 w2
  rw [hq, Bool.eq_iff_iff, Rect.has_inside, Bool.and_eq_true, hitB_iff, decide_eq_true_eq, Rect.empty_iff]
  have hdm := Nat.div_add_mod i (tilesIn w)
  rw [← hP, ← hQ] at hdm
  dsimp only
  unfold hitAt
  constructor
  · rintro ⟨_, h1, h2, h3, h4⟩
    have e1 : (x / 16).toNat = P := by omega
    have e2 : (y / 16).toNat = Q := by omega
    rw [e1, e2]
    refine ⟨⟨hok, by omega, by omega⟩, ?_⟩
    rw [Nat.mul_comm Q]
    omega
  · rintro ⟨⟨_, h1, h2⟩, he⟩
    have hx : (x / 16).toNat < tilesIn w := by unfold tilesIn; omega
    have eP : P = (x / 16).toNat := by rw [hP, he, Nat.mul_comm, Nat.mul_add_mod, Nat.mod_eq_of_lt hx]
    have eQ : Q = (y / 16).toNat := by rw [hQ, he, Nat.mul_comm, Nat.mul_add_div (by omega), Nat.div_eq_of_lt hx, Nat.add_zero]
    refine ⟨by omega, by omega, by omega, by omega, by omega⟩
theorem hitAt_lt {w h x y : Int} (hh : hitB w h x y = true) : hitAt w x y < tileN w h := by
  obtain ⟨hok, ⟨x1, x2⟩, y1, y2⟩ := hitB_iff.1 hh
  obtain ⟨⟨w1, w2⟩, w3, w4⟩ := sizeOk_iff.1 hok
  have hN : tileN w h = tilesIn w * tilesIn h := by unfold tileN; rw [hok]; rfl
  have hx : (x / 16).toNat < tilesIn w := by unfold tilesIn; omega
  have hy : (y / 16).toNat + 1 ≤ tilesIn h := by unfold tilesIn; omega
  have h1 := Nat.mul_le_mul_right (tilesIn w) hy
  rw [hN, Nat.mul_comm (tilesIn w)]
  unfold hitAt
  rw [Nat.add_mul] at h1
  omega
theorem tileN_none {w h : Int} (hok : sizeOk w h = false) : tileN w h = 0 := by unfold tileN; rw [hok]; rfl
theorem tile_ok {w h : Int} {i : Nat} (hi : i < tileN w h) : sizeOk w h = true := by
  cases hok : sizeOk w h
  · rw [tileN_none hok] at hi; omega
  · rfl
theorem has_corner {r : Rect} (h : r.empty = false) : r.has r.x r.y = true := by
  have := Rect.empty_iff.1 h
  exact Rect.has_inside.2 ⟨h, by omega, by omega, by omega, by omega⟩
theorem touch_one {w h x y : Int} {i : Nat} (hi : i < tileN w h) : touchB [⟨x, y, 1, 1⟩] (tileR w h i) = (hitB w h x y && decide (i = hitAt w x y)) := by
  have hok := tile_ok hi
  rw [← tile_has hok hi]
  unfold touchB
  simp only [List.any_cons, List.any_nil, Bool.or_false]
  obtain ⟨t, ht⟩ : ∃ t, tileR w h i = t := ⟨_, rfl⟩
  rw [ht]
  cases hem : (Rect.and ⟨x, y, 1, 1⟩ t).empty
  · have h1 := has_corner hem
    rw [Rect.and_has, Bool.and_eq_true] at h1
    obtain ⟨_, g1, g2, g3, g4⟩ := Rect.has_inside.1 h1.1
    dsimp only at g1 g2 g3 g4
    have e1 : (Rect.and ⟨x, y, 1, 1⟩ t).x = x := by omega
    have e2 : (Rect.and ⟨x, y, 1, 1⟩ t).y = y := by omega
    rw [e1, e2] at h1
    rw [h1.2]
    rfl
  · cases hh : t.has x y
    · rfl
    · exfalso
      obtain ⟨he, g1, g2, g3, g4⟩ := Rect.has_inside.1 hh
      have hg := Rect.empty_iff.1 he
      have h2 : Rect.has ⟨x, y, 1, 1⟩ x y = true := Rect.has_inside.2 ⟨Rect.empty_iff.2 (by dsimp only; omega), by dsimp only; omega, by dsimp only; omega, by dsimp only; omega, by dsimp only; omega⟩
      have h3 : (Rect.and ⟨x, y, 1, 1⟩ t).has x y = true := by rw [Rect.and_has, h2, hh]; rfl
      rw [(Rect.has_inside.1 h3).1] at hem
      cases hem
theorem touched_one (w h x y : Int) : touchedOf [⟨x, y, 1, 1⟩] w h = if hitB w h x y then [hitAt w x y] else [] := by
  have hm : ∀ i, i ∈ touchedOf [⟨x, y, 1, 1⟩] w h ↔ hitB w h x y = true ∧ i = hitAt w x y := fun i => by
    rw [touchedOf_mem]
    constructor
    · rintro ⟨h1, h2⟩
      rw [touch_one h1, Bool.and_eq_true, decide_eq_true_eq] at h2
      exact h2
    · rintro ⟨h1, rfl⟩
      have hlt := hitAt_lt h1
      exact ⟨hlt, by rw [touch_one hlt, h1]; simp⟩
  have hs := touchedOf_sorted [⟨x, y, 1, 1⟩] w h
  cases hh : hitB w h x y
  · rw [if_neg (by simp)]
    refine List.eq_nil_iff_forall_not_mem.2 fun i hi => ?_
    have := ((hm i).1 hi).1
    rw [hh] at this
    cases this
  · rw [if_pos rfl]
    match hT : touchedOf [⟨x, y, 1, 1⟩] w h, hs, hm with
    | [], _, hm => exact absurd ((hm (hitAt w x y)).2 ⟨hh, rfl⟩) (by simp)
    | [a], _, hm => rw [((hm a).1 (by simp)).2]
    | a :: b :: l, hs, hm =>
      have h1 := ((hm a).1 (by simp)).2
      have h2 := ((hm b).1 (by simp)).2
      have h3 := (List.pairwise_cons.1 hs).1 b (by simp)
      omega
/-- What the loop of TilesOne has counted. -/
theorem one_snoc {w h x y : Int} {k : Nat} (hk : k < tileN w h) : ((tileR w h k).has x y = true → (if hitB w h x y && decide (hitAt w x y < k) then (1 : Int) else 0) = 0 ∧ (if hitB w h x y && decide (hitAt w x y < k + 1) then (1 : Int) else 0) = 1 ∧ (if hitB w h x y && decide (hitAt w x y < k + 1) then (hitAt w x y : Int) else -1) = k) ∧
    ((tileR w h k).has x y = false → (if hitB w h x y && decide (hitAt w x y < k + 1) then (1 : Int) else 0) = (if hitB w h x y && decide (hitAt w x y < k) then (1 : Int) else 0) ∧ (if hitB w h x y && decide (hitAt w x y < k + 1) then (hitAt w x y : Int) else -1) = (if hitB w h x y && decide (hitAt w x y < k) then (hitAt w x y : Int) else -1)) := by
  rw [tile_has (tile_ok hk) hk]
  cases hh : hitB w h x y
  · simp
  · by_cases he : k = hitAt w x y
    · rw [← he]
      simp
    · have h1 : decide (hitAt w x y < k + 1) = decide (hitAt w x y < k) := by
        rw [decide_eq_decide]
        omega
      rw [h1, decide_eq_false he]
      simp

set_option maxHeartbeats 8000000 in
theorem one_any (w h x y : Int) (W : World) : Calls Try.prog 14 #[.int .i64 w, .int .i64 h, .int .i64 x, .int .i64 y] W fun e w' => e = .returned (.bool true) ∧ Ext W w' := by
  have hNb := tileN_bd w h
  have hgl : (gridOf w h).length = tileN w h := by unfold gridOf; rw [List.length_map, List.length_range]
  have hgi : ∀ k, k < tileN w h → (gridOf w h)[k]? = some (tileR w h k) := fun k hk => by
    unfold gridOf
    rw [List.getElem?_map, List.getElem?_range hk]
    rfl
  obtain ⟨N, hN⟩ : ∃ N, tileN w h = N := ⟨_, rfl⟩
  have hsn := fun k hk => one_snoc (w := w) (h := h) (x := x) (y := y) (k := k) hk
  have htc := fun (W1 : World) (B : Nat) (k : W1.heap[B]? = some (.cells #[.int .i64 x, .int .i64 y, .int .i64 1, .int .i64 1] 38 (0, 0))) => touched_any (some ⟨B, 0, none⟩) 1 [⟨x, y, 1, 1⟩] w h W1 (rects_block k rfl) (by simp)
  rw [hN] at hNb hgl
  simp only [hN] at hgi hsn
  obtain ⟨G, hG⟩ : ∃ G, gridOf w h = G := ⟨_, rfl⟩
  have hgc := grid_any w h
  simp only [hG] at hgl hgi hgc
  have HGI := Lib.hid hgi
  have HSN := Lib.hid hsn
  have HTC := Lib.hid htc
  have HN := Lib.hid hN
  clear hgi hsn hN htc hG
  go_enter Try.func14, Try.ntmps14
  go_wp2_with fail
  refine (hgc _).mono ?_
  rintro e w1 ⟨B, d, rfl, hM, nM, hE⟩
  have hr := OwnR.at hM
  rw [hgl]
  clear hM hgc
  go_wp2_with fail
  go_loopw [10, 11, 12] (fun iv av kv wr => ∃ k : Nat, k ≤ N ∧ kv = .int .i64 k ∧ iv = .int .i64 (if hitB w h x y && decide (hitAt w x y < k) then (1 : Int) else 0) ∧ av = .int .i64 (if hitB w h x y && decide (hitAt w x y < k) then (hitAt w x y : Int) else -1) ∧ Ext w1 wr) (fun _ _ kv _ => N - (intOf kv).toNat)
  case atStart => exact ⟨0, Nat.zero_le _, rfl, by simp, by simp, Ext.refl _⟩
  case round =>
    obtain ⟨k, hk, rfl, rfl, rfl, hE2⟩ := hrel
    by_cases hlt : k < N
    · obtain ⟨b, off, rfl, hc⟩ := (hr.ext hE2).form (by omega)
      obtain ⟨h0, h1, h2, h3⟩ := hc k _ (HGI.out k hlt)
      obtain ⟨s1, s2⟩ := HSN.out k hlt
      obtain ⟨q, hq⟩ : ∃ q, tileR w h k = q := ⟨_, rfl⟩
      rw [hq] at h0 h1 h2 h3 s1 s2
      have hh := fun w => has_any q.x q.y q.w q.h x y w
      simp only [show Rect.mk q.x q.y q.w q.h = q from rfl] at hh
      obtain ⟨i0, hi0⟩ : ∃ v : Int, (if hitB w h x y && decide (hitAt w x y < k) then (1 : Int) else 0) = v := ⟨_, rfl⟩
      obtain ⟨a0, ha0⟩ : ∃ v : Int, (if hitB w h x y && decide (hitAt w x y < k) then (hitAt w x y : Int) else -1) = v := ⟨_, rfl⟩
      obtain ⟨i1, hi1⟩ : ∃ v : Int, (if hitB w h x y && decide (hitAt w x y < k + 1) then (1 : Int) else 0) = v := ⟨_, rfl⟩
      obtain ⟨a1, ha1⟩ : ∃ v : Int, (if hitB w h x y && decide (hitAt w x y < k + 1) then (hitAt w x y : Int) else -1) = v := ⟨_, rfl⟩
      rw [hi0, hi1, ha1] at s1
      rw [hi0, hi1, ha1, ha0] at s2
      simp only [hi0, ha0]
      have HI1 := Lib.hid hi1
      have HA1 := Lib.hid ha1
      clear hc hi0 ha0 hi1 ha1 hq
      cases hb : q.has x y
      · obtain ⟨t1, t2⟩ := s2 hb
        simp only [hb] at hh
        have T1 := Lib.hid t1
        have T2 := Lib.hid t2
        clear s1 s2 hb t1 t2
        go_wp2_with fail
        refine (hh _).mono ?_
        rintro e w2 ⟨rfl, hb2⟩
        have hE3 := hE2.trans hb2
        clear hh h0 h1 h2 h3 hb2
        go_wp2_with fail
        exact ⟨⟨k + 1, by omega, by go_num, by rw [HI1.out, T1.out], by rw [HA1.out, T2.out], hE3⟩, by simp [intOf]; omega⟩
      · obtain ⟨t0, t1, t2⟩ := s1 hb
        simp only [hb] at hh
        have T1 := Lib.hid t1
        have T2 := Lib.hid t2
        subst t0
        clear s1 s2 hb t1 t2
        go_wp2_with fail
        refine (hh _).mono ?_
        rintro e w2 ⟨rfl, hb2⟩
        have hE3 := hE2.trans hb2
        clear hh h0 h1 h2 h3 hb2
        go_wp2_with fail
        exact ⟨⟨k + 1, by omega, by go_num, by rw [HI1.out, T1.out], by rw [HA1.out, T2.out], hE3⟩, by simp [intOf]; omega⟩
    · obtain rfl : k = N := by omega
      replace hE := hE.trans hE2
      have htc := HTC.out
      clear hE2 hr HGI HSN hlt hk HTC
      by_cases c1 : k = 0
      · have hh : hitB w h x y = false := by
          cases hh : hitB w h x y
          · rfl
          · have := hitAt_lt hh
            rw [HN.out] at this
            omega
        have d1 : ((k : Int) == 0) = true := by simp [c1]
        clear c1
        have hin : (if hitB w h x y && decide (hitAt w x y < k) then (1 : Int) else 0) = 0 := by rw [hh]; rfl
        have hat : (if hitB w h x y && decide (hitAt w x y < k) then (hitAt w x y : Int) else -1) = -1 := by rw [hh]; rfl
        have hto : natsI (touchedOf [⟨x, y, 1, 1⟩] w h) = [] := by rw [touched_one, hh]; rfl
        rw [hto] at htc
        simp only [hin, hat]
        clear hin hat hto hh
        go_wp2_with fail
        refine (htc _ _ (blk_new _ _)).mono ?_
        rintro e w3 hg
        obtain ⟨B3, d3, rfl, r3, E3⟩ := hg.reads
        replace hE := hE.trans (Ext.of_alloc E3)
        clear E3 r3 hg htc
        go_wp2_with fail
        refine (wakes10_any _).mono ?_
        rintro e w4 ⟨rfl, E4⟩
        go_wp2_with fail
        go_ret
        exact ⟨rfl, hE.trans E4⟩

      have d1 : ((k : Int) == 0) = false := by simp [c1]
      by_cases c2 : x < 0
      · have hh : hitB w h x y = false := by
          cases hh : hitB w h x y
          · rfl
          · have := hitB_iff.1 hh
            omega
        have d2 : (x < 0) = True := by simp [c2]
        clear c2
        have hin : (if hitB w h x y && decide (hitAt w x y < k) then (1 : Int) else 0) = 0 := by rw [hh]; rfl
        have hat : (if hitB w h x y && decide (hitAt w x y < k) then (hitAt w x y : Int) else -1) = -1 := by rw [hh]; rfl
        have hto : natsI (touchedOf [⟨x, y, 1, 1⟩] w h) = [] := by rw [touched_one, hh]; rfl
        rw [hto] at htc
        simp only [hin, hat]
        clear hin hat hto hh
        go_wp2_with fail
        refine (htc _ _ (blk_new _ _)).mono ?_
        rintro e w3 hg
        obtain ⟨B3, d3, rfl, r3, E3⟩ := hg.reads
        replace hE := hE.trans (Ext.of_alloc E3)
        clear E3 r3 hg htc
        go_wp2_with fail
        refine (wakes10_any _).mono ?_
        rintro e w4 ⟨rfl, E4⟩
        go_wp2_with fail
        go_ret
        exact ⟨rfl, hE.trans E4⟩

      have d2 : (x < 0) = False := by simp [c2]
      by_cases c3 : y < 0
      · have hh : hitB w h x y = false := by
          cases hh : hitB w h x y
          · rfl
          · have := hitB_iff.1 hh
            omega
        have d3 : (y < 0) = True := by simp [c3]
        clear c3
        have hin : (if hitB w h x y && decide (hitAt w x y < k) then (1 : Int) else 0) = 0 := by rw [hh]; rfl
        have hat : (if hitB w h x y && decide (hitAt w x y < k) then (hitAt w x y : Int) else -1) = -1 := by rw [hh]; rfl
        have hto : natsI (touchedOf [⟨x, y, 1, 1⟩] w h) = [] := by rw [touched_one, hh]; rfl
        rw [hto] at htc
        simp only [hin, hat]
        clear hin hat hto hh
        go_wp2_with fail
        refine (htc _ _ (blk_new _ _)).mono ?_
        rintro e w3 hg
        obtain ⟨B3, d3, rfl, r3, E3⟩ := hg.reads
        replace hE := hE.trans (Ext.of_alloc E3)
        clear E3 r3 hg htc
        go_wp2_with fail
        refine (wakes10_any _).mono ?_
        rintro e w4 ⟨rfl, E4⟩
        go_wp2_with fail
        go_ret
        exact ⟨rfl, hE.trans E4⟩

      have d3 : (y < 0) = False := by simp [c3]
      by_cases c4 : w ≤ x
      · have hh : hitB w h x y = false := by
          cases hh : hitB w h x y
          · rfl
          · have := hitB_iff.1 hh
            omega
        have d4 : (w ≤ x) = True := by simp [c4]
        clear c4
        have hin : (if hitB w h x y && decide (hitAt w x y < k) then (1 : Int) else 0) = 0 := by rw [hh]; rfl
        have hat : (if hitB w h x y && decide (hitAt w x y < k) then (hitAt w x y : Int) else -1) = -1 := by rw [hh]; rfl
        have hto : natsI (touchedOf [⟨x, y, 1, 1⟩] w h) = [] := by rw [touched_one, hh]; rfl
        rw [hto] at htc
        simp only [hin, hat]
        clear hin hat hto hh
        go_wp2_with fail
        refine (htc _ _ (blk_new _ _)).mono ?_
        rintro e w3 hg
        obtain ⟨B3, d3, rfl, r3, E3⟩ := hg.reads
        replace hE := hE.trans (Ext.of_alloc E3)
        clear E3 r3 hg htc
        go_wp2_with fail
        refine (wakes10_any _).mono ?_
        rintro e w4 ⟨rfl, E4⟩
        go_wp2_with fail
        go_ret
        exact ⟨rfl, hE.trans E4⟩

      have d4 : (w ≤ x) = False := by simp [c4]
      by_cases c5 : h ≤ y
      · have hh : hitB w h x y = false := by
          cases hh : hitB w h x y
          · rfl
          · have := hitB_iff.1 hh
            omega
        have d5 : (h ≤ y) = True := by simp [c5]
        clear c5
        have hin : (if hitB w h x y && decide (hitAt w x y < k) then (1 : Int) else 0) = 0 := by rw [hh]; rfl
        have hat : (if hitB w h x y && decide (hitAt w x y < k) then (hitAt w x y : Int) else -1) = -1 := by rw [hh]; rfl
        have hto : natsI (touchedOf [⟨x, y, 1, 1⟩] w h) = [] := by rw [touched_one, hh]; rfl
        rw [hto] at htc
        simp only [hin, hat]
        clear hin hat hto hh
        go_wp2_with fail
        refine (htc _ _ (blk_new _ _)).mono ?_
        rintro e w3 hg
        obtain ⟨B3, d3, rfl, r3, E3⟩ := hg.reads
        replace hE := hE.trans (Ext.of_alloc E3)
        clear E3 r3 hg htc
        go_wp2_with fail
        refine (wakes10_any _).mono ?_
        rintro e w4 ⟨rfl, E4⟩
        go_wp2_with fail
        go_ret
        exact ⟨rfl, hE.trans E4⟩

      have d5 : (h ≤ y) = False := by simp [c5]
      have hok : sizeOk w h = true := tile_ok (i := 0) (by rw [HN.out]; omega)
      have hh : hitB w h x y = true := hitB_iff.2 ⟨hok, by omega, by omega⟩
      obtain ⟨⟨w1', w2'⟩, w3', w4'⟩ := sizeOk_iff.1 hok
      obtain ⟨b1, b2, b3⟩ := tilesIn_bd w1' w2'
      have hlt := hitAt_lt hh
      rw [HN.out] at hlt
      have hin : (if hitB w h x y && decide (hitAt w x y < k) then (1 : Int) else 0) = 1 := by rw [hh, decide_eq_true hlt]; rfl
      have hat : (if hitB w h x y && decide (hitAt w x y < k) then (hitAt w x y : Int) else -1) = (hitAt w x y : Int) := by rw [hh, decide_eq_true hlt]; rfl
      have hto : natsI (touchedOf [⟨x, y, 1, 1⟩] w h) = [(hitAt w x y : Int)] := by rw [touched_one, hh]; rfl
      have hx16 : x.tdiv 16 = ((x / 16).toNat : Int) := by rw [Int.tdiv_eq_ediv_of_nonneg (by omega)]; omega
      have hy16 : y.tdiv 16 = ((y / 16).toNat : Int) := by rw [Int.tdiv_eq_ediv_of_nonneg (by omega)]; omega
      obtain ⟨p, hp⟩ : ∃ p, (x / 16).toNat = p := ⟨_, rfl⟩
      obtain ⟨q, hq⟩ : ∃ q, (y / 16).toNat = q := ⟨_, rfl⟩
      obtain ⟨A, hA⟩ : ∃ A, tilesIn w = A := ⟨_, rfl⟩
      have hAt : (hitAt w x y : Int) = (q : Int) * (A : Int) + (p : Int) := by unfold hitAt; rw [hp, hq, hA]; simp
      simp only [hin, hat]
      clear hin hat
      obtain ⟨T, hT⟩ : ∃ T, hitAt w x y = T := ⟨_, rfl⟩
      rw [hT] at hlt hto hAt
      rw [hto] at htc
      simp only [hT]
      rw [hp] at hx16
      rw [hq] at hy16
      rw [hA] at b1 b2 b3
      have hqb : q ≤ 16 := by omega
      have hpb : p ≤ 16 := by omega
      have hqA : (q : Int) * (A : Int) ≤ 16 * 16 := Int.mul_le_mul (by omega) (by omega) (by omega) (by omega)
      have hqA0 : 0 ≤ (q : Int) * (A : Int) := Int.mul_nonneg (by omega) (by omega)
      have e1 : IntKind.i64.wrap ((q : Int) * (A : Int)) = (q : Int) * (A : Int) := IntWalk.i64_in _ (by omega)
      have e2 : IntKind.i64.wrap ((q : Int) * (A : Int) + (p : Int)) = (T : Int) := by rw [← hAt]; exact IntWalk.i64_in _ (by omega)
      have e3 : ((T : Int) == (T : Int)) = true := by simp
      have e4 : IntKind.i64.wrap (w + 16) = w + 16 := IntWalk.i64_in _ (by omega)
      have e5 : IntKind.i64.wrap (w + 16 - 1) = w + 16 - 1 := IntWalk.i64_in _ (by omega)
      clear hto hh hok hp hq hA hT c1 c2 c3 c4 c5 HN
      go_wp2_with fail
      refine (htc _ _ (blk_new _ _)).mono ?_
      rintro e w3 hg
      obtain ⟨B3, d3', rfl, r3, E3⟩ := hg.reads
      replace hE := hE.trans (Ext.of_alloc E3)
      obtain ⟨b, o, rfl, hc⟩ := r3.form (by simp)
      have hc0 := hc 0 (by simp)
      simp only [List.getD_cons_zero, Nat.add_zero] at hc0
      have HAT := Lib.hid hAt
      clear E3 r3 hg htc hc hAt
      go_wp2_with fail
      refine (wakes10_any _).mono ?_
      rintro e w4 ⟨rfl, E4⟩
      go_wp2_with fail
      go_ret
      exact ⟨rfl, hE.trans E4⟩
end Go.Proofs.Ytilcggkbancniaa
