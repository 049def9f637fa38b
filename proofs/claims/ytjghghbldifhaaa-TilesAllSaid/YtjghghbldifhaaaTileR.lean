/- The reference's tiles: vignetteref10.Grid, Touched, Split. -/
import Derived.Test.YtjghghbldifhaaaTileF
set_option linter.unusedVariables false
set_option linter.unusedSimpArgs false
namespace Go.Proofs.Ytjghghbldifhaaa
open Go.RowKit

theorem tile_raw {w : Int} {i j : Nat} (hi : i < tilesIn w) : tileRaw w (j * tilesIn w + i) = ⟨(i : Int) * 16, (j : Int) * 16, 16, 16⟩ := by
  unfold tileRaw
  rw [Nat.mul_comm j, Nat.mul_add_mod, Nat.mod_eq_of_lt hi, Nat.mul_add_div (by omega), Nat.div_eq_of_lt hi, Nat.add_zero]
def gridTo (w h : Int) (k : Nat) : List Rect := (List.range k).map (tileR w h)
theorem gridTo_succ (w h : Int) (k : Nat) : gridTo w h (k + 1) = gridTo w h k ++ [tileR w h k] := by unfold gridTo; rw [List.range_succ, List.map_append]; rfl
theorem gridTo_length (w h : Int) (k : Nat) : (gridTo w h k).length = k := by unfold gridTo; rw [List.length_map, List.length_range]

theorem rgrid_bad (w h : Int) (W : World) (hok : sizeOk w h = false) : Calls Try.prog 40 #[.int .i64 w, .int .i64 h] W (GivesR [] W) := by
  have hbad : w < 1 ∨ ¬ w < 1 ∧ (256 < w ∨ ¬ 256 < w ∧ (h < 1 ∨ ¬ h < 1 ∧ 256 < h)) := by
    have hno : ¬ (sizeOk w h = true) := by rw [hok]; simp
    rw [sizeOk_iff] at hno
    omega
  clear hok
  rcases hbad with h1 | ⟨h1, h2 | ⟨h2, h3 | ⟨h3, h4⟩⟩⟩
  all_goals
    go_enter Try.func40, Try.ntmps40
    go_wp2_with fail
    go_ret
    exact ⟨none, 0, rfl, World.ownsRow_nil _ _ _ _, fun _ => rfl, Ext.refl _⟩

set_option maxHeartbeats 4000000 in
theorem rgrid_good (w h : Int) (W : World) (hok : sizeOk w h = true) : Calls Try.prog 40 #[.int .i64 w, .int .i64 h] W (GivesR (gridOf w h) W) := by
  obtain ⟨⟨w1, w2⟩, w3, w4⟩ := sizeOk_iff.1 hok
  obtain ⟨a1, a2, a3⟩ := tilesIn_bd w1 w2
  obtain ⟨b1, b2, b3⟩ := tilesIn_bd w3 w4
  have hN : gridOf w h = gridTo w h (tilesIn h * tilesIn w) := by
    unfold gridOf gridTo tileN
    rw [hok, if_pos rfl, Nat.mul_comm]
  have ha : (tilesIn w : Int) = (w + 15) / 16 := by unfold tilesIn; omega
  have hb : (tilesIn h : Int) = (h + 15) / 16 := by unfold tilesIn; omega
  have hraw := fun (i j : Nat) (hi : i < tilesIn w) => tile_raw (w := w) (j := j) hi
  have htl : ∀ k, tileR w h k = (tileRaw w k).and ⟨0, 0, w, h⟩ := fun k => rfl
  obtain ⟨A, hA⟩ : ∃ A, tilesIn w = A := ⟨_, rfl⟩
  obtain ⟨B, hB⟩ : ∃ A, tilesIn h = A := ⟨_, rfl⟩
  rw [hA, hB] at hN
  rw [hA] at a1 a2 ha
  rw [hB] at b1 b2 hb
  simp only [hA] at hraw
  have d1 : (w < 1) = False := by simp; omega
  have d2 : ((256 : Int) < w) = False := by simp; omega
  have d3 : (h < 1) = False := by simp; omega
  have d4 : ((256 : Int) < h) = False := by simp; omega
  have HN := Lib.hid hN
  have HRAW := Lib.hid hraw
  have HTL := Lib.hid htl
  clear hok hN hraw htl hA hB a3 b3
  go_enter Try.func40, Try.ntmps40
  go_wp2_with fail
  clear d1 d2 d3 d4
  go_loopw [5, 6, 7] (fun ov yv _ wr => ∃ (j : Nat) (O : Option Addr) (d : Nat), j ≤ B ∧ yv = .int .i64 ((j : Int) * 16) ∧ ov = .slice O (gridTo w h (j * A)).length d ∧ OwnR wr W.heap.size (.slice O (gridTo w h (j * A)).length d) (gridTo w h (j * A)) ∧ Ext W wr) (fun _ yv _ _ => B * 16 - (intOf yv).toNat)
  case atStart => exact ⟨0, none, 0, Nat.zero_le _, rfl, by rw [gridTo_length]; simp, by rw [Nat.zero_mul]; exact World.ownsRow_nil _ _ _ _, Ext.refl _⟩
  case round =>
    obtain ⟨j, O, d, hj, rfl, rfl, hown, hE⟩ := hrel
    by_cases hlt : j < B
    · have c1 : ((j : Int) * 16 < h) = True := by simp; omega
      have HO := Lib.hid hown
      have hjA : j * A ≤ 15 * 16 := Nat.mul_le_mul (by omega) a2
      clear hown
      obtain ⟨J, hJ⟩ : ∃ J, j * A = J := ⟨_, rfl⟩
      have hJ2 : (j + 1) * A = J + A := by rw [Nat.add_mul, hJ, Nat.one_mul]
      rw [hJ] at HO hjA
      simp only [hJ]
      have HJ := Lib.hid hJ
      have HJ2 := Lib.hid hJ2
      clear hJ hJ2
      go_wp2_with fail
      go_loopw [5, 7] (fun ov xv wr => ∃ (i : Nat) (O : Option Addr) (d : Nat), i ≤ A ∧ xv = .int .i64 ((i : Int) * 16) ∧ ov = .slice O (gridTo w h (J + i)).length d ∧ OwnR wr W.heap.size (.slice O (gridTo w h (J + i)).length d) (gridTo w h (J + i)) ∧ Ext W wr) (fun _ xv _ => A * 16 - (intOf xv).toNat)
      case atStart => exact ⟨0, O, d, Nat.zero_le _, rfl, rfl, HO.out, hE⟩
      case round =>
        clear hE HO
        obtain ⟨i, O, d, hi, rfl, rfl, hown, hE⟩ := hrel
        have HO := Lib.hid hown
        clear hown
        by_cases hil : i < A
        · have c2 : ((i : Int) * 16 < w) = True := by simp; omega
          have hr := HRAW.out i j hil
          rw [HJ.out] at hr
          have ht := HTL.out (J + i)
          rw [hr] at ht
          have hs := gridTo_succ w h (J + i)
          have hl : (gridTo w h (J + i)).length ≤ 256 := by rw [gridTo_length]; omega
          obtain ⟨L, hL⟩ : ∃ L, gridTo w h (J + i) = L := ⟨_, rfl⟩
          obtain ⟨q, hq⟩ : ∃ q, tileR w h (J + i) = q := ⟨_, rfl⟩
          rw [hL, hq] at hs
          rw [hL] at HO hl
          rw [hq] at ht
          simp only [hL]
          have hand := fun W => rand_any ((i : Int) * 16) ((j : Int) * 16) 16 16 0 0 w h W
          simp only [← ht] at hand
          have HS := Lib.hid hs
          clear hr ht hs hL hq
          go_wp2_with fail
          refine (hand _).mono ?_
          rintro e w1 ⟨rfl, hE1⟩
          clear hand
          go_wp2_with (first
            | (refine wpList_app W.heap.size rfl (.tmp 32) (.tmp 40) 22 26 (.agg #[.int .i64 0, .int .i64 0, .int .i64 0, .int .i64 0]) 4 32 rfl Try.underlying22 info_rect rfl (by decide) (by decide) (.slice O L.length d) L.length (rcells L) rfl (World.ownsRow.alloc (row_keep HO.out hE1) _) (some ⟨w1.heap.size, 0, none⟩) 1 1 (rcell q) rfl (fun h => by cases h) rfl (fun _ => ⟨_, rfl, World.news_of_block (blk_new w1 _)⟩) (by simp [rcell, Value.oneCell']) (by omega) (Nat.le_trans (Nat.le_trans hE.size hE1.size) (by simp)) (fun v' w5 hr5 hg5 => ?_); obtain ⟨B5, d5, rfl⟩ := row_slice hr5))
          have hE5 := row_ext (World.ownsRow.alloc (row_keep HO.out hE1) _) ((hE.trans hE1).alloc _) hg5
          have hr6 : OwnR w5 W.heap.size (.slice B5 (L ++ [q]).length d5) (L ++ [q]) := by
            unfold OwnR
            rw [List.length_append, rcells_snoc]
            exact hr5
          exact ⟨⟨i + 1, B5, d5, by omega, by (congr 1; omega), by rw [← Nat.add_assoc, HS.out, List.length_append]; rfl, by rw [← Nat.add_assoc, HS.out]; exact hr6, hE5⟩, by simp [intOf]; omega⟩
        · obtain rfl : i = A := by omega
          have c2 : ((i : Int) * 16 < w) = False := by simp; omega
          go_wp2_with fail
          exact ⟨⟨j + 1, O, d, by omega, by (congr 1; omega), by rw [HJ2.out], by rw [HJ2.out]; exact HO.out, hE⟩, by simp [intOf]; omega⟩
    · obtain rfl : j = B := by omega
      have c1 : ((j : Int) * 16 < h) = False := by simp; omega
      have HO := Lib.hid hown
      clear hown
      go_wp2_with fail
      go_ret
      rw [HN.out]
      exact ⟨O, d, rfl, HO.out, fun e => (row_nil_of HO.out e).1, hE⟩
theorem rgrid_any (w h : Int) (W : World) : Calls Try.prog 40 #[.int .i64 w, .int .i64 h] W (GivesR (gridOf w h) W) := by
  cases hok : sizeOk w h
  · rw [show gridOf w h = [] from by unfold gridOf tileN; rw [hok]; rfl]
    exact rgrid_bad w h W hok
  · exact rgrid_good w h W hok
theorem and_empty_comm (a b : Rect) : (a.and b).empty = (b.and a).empty := by
  have key : ∀ a b : Rect, (a.and b).empty = false → (b.and a).empty = false := fun a b h => by
    have h1 : ∃ u v, (a.and b).has u v = true := ⟨_, _, by
      have := Rect.empty_iff.1 h
      exact Rect.has_inside.2 ⟨h, Int.le_refl (a.and b).x, by omega, Int.le_refl (a.and b).y, by omega⟩⟩
    obtain ⟨u, v, h1⟩ := h1
    rw [Rect.and_has, Bool.and_comm, ← Rect.and_has] at h1
    exact (Rect.has_inside.1 h1).1
  cases h1 : (a.and b).empty
  · rw [key a b h1]
  · cases h2 : (b.and a).empty
    · rw [key b a h2] at h1
      cases h1
    · rfl

set_option maxHeartbeats 4000000 in
theorem rsplit_any (aA : Option Addr) (ca : Nat) (l : List Rect) (wd ht : Int) (w : World) (hl : RectsAt w aA l) (hal : l.length ≤ 1000000) : Calls Try.prog 45 #[.slice aA l.length ca, .int .i64 wd, .int .i64 ht] w (GivesR (splitOf l wd ht) w) := by
  have hNb := tileN_bd wd ht
  have hgl : (gridOf wd ht).length = tileN wd ht := gridTo_length wd ht _
  have hgi : ∀ k, k < tileN wd ht → (gridOf wd ht)[k]? = some (tileR wd ht k) := fun k hk => by
    unfold gridOf
    rw [List.getElem?_map, List.getElem?_range hk]
    rfl
  have hgc := rgrid_any wd ht
  obtain ⟨N, hN⟩ : ∃ N, tileN wd ht = N := ⟨_, rfl⟩
  obtain ⟨G, hG⟩ : ∃ G, gridOf wd ht = G := ⟨_, rfl⟩
  rw [hN] at hNb hgl
  simp only [hN] at hgi
  simp only [hG] at hgl hgi hgc
  have HGI := Lib.hid hgi
  have HN := Lib.hid hN
  clear hgi hN hG
  go_enter Try.func45, Try.ntmps45
  go_wp2_with fail
  refine (hgc _).mono ?_
  rintro e w1 ⟨B, d, rfl, hM, nM, hE⟩
  have hr := OwnR.at hM
  rw [hgl]
  clear hM hgc
  go_wp2_with fail
  go_loopw [7, 9] (fun ov iv wr => ∃ (k : Nat) (O : Option Addr) (f : Nat), k ≤ N ∧ iv = .int .i64 k ∧ ov = .slice O (cutL l wd ht (List.range k)).length f ∧ OwnR wr w1.heap.size (.slice O (cutL l wd ht (List.range k)).length f) (cutL l wd ht (List.range k)) ∧ Ext w1 wr) (fun _ iv _ => N - (intOf iv).toNat)
  case atStart => exact ⟨0, none, 0, Nat.zero_le _, rfl, rfl, World.ownsRow_nil _ _ _ _, Ext.refl _⟩
  case round =>
    obtain ⟨k, O, f, hk, rfl, rfl, hown, hE2⟩ := hrel
    have HO := Lib.hid hown
    clear hown
    by_cases hlt : k < N
    · have hLn := cutL_length l wd ht (List.range k)
      rw [List.length_range] at hLn
      have hsn := cutL_snoc l wd ht (List.range k) k
      rw [← List.range_succ] at hsn
      obtain ⟨L, hL⟩ : ∃ L, cutL l wd ht (List.range k) = L := ⟨_, rfl⟩
      obtain ⟨q, hq⟩ : ∃ q, tileR wd ht k = q := ⟨_, rfl⟩
      have hql := cut_length l q
      have hqs : q.area ≤ 256 := hq ▸ tileR_small k
      obtain ⟨M, hM⟩ : ∃ M, listOf 2 l [q] = M := ⟨_, rfl⟩
      rw [hq] at hsn
      rw [hM] at hsn hql
      rw [hL] at hsn hLn HO
      have hgk := HGI.out k hlt
      rw [hq] at hgk
      obtain ⟨b, off, rfl, hc⟩ := (hr.ext hE2).form (by omega)
      obtain ⟨h0, h1, h2, h3⟩ := hc k q hgk
      simp only [hL]
      have hcon := fun (W1 : World) (hE : Ext wr W1) (bq : Nat) (kq : W1.heap[bq]? = some (.cells #[.int .i64 q.x, .int .i64 q.y, .int .i64 q.w, .int .i64 q.h] 26 (0, 0))) => rof_any aA (some ⟨bq, 0, none⟩) ca 1 l [q] 2 W1 (hl.ext ((Ext.trans ‹Ext w w1› hE2).trans hE)) (rects_block kq rfl) hal (by simp)
      rw [hM] at hcon
      have HS := Lib.hid hsn
      clear hsn hL hq hM hgk hc
      go_wp2_with fail
      refine (hcon _ ((Ext.refl wr).alloc _) _ (blk_new _ _)).mono ?_
      rintro e w2 ⟨Bm, dm, rfl, hM, nM', E⟩
      have hE3 : Ext wr w2 := ((Ext.refl wr).alloc _).trans E
      have hown7 := row_keep HO.out hE3
      have hsh7 := (OwnR.at hM).shows
      have hszw := hE.size
      have hszw2 := hE2.size
      have hszw3 := hE3.size
      clear E hcon h0 h1 h2 h3
      go_wp2_with (first | (refine wpList_app w1.heap.size rfl (.tmp 19) (.tmp 26) 22 26 (.agg #[.int .i64 0, .int .i64 0, .int .i64 0, .int .i64 0]) 4 32 rfl Try.underlying22 info_rect rfl (by decide) (by decide) (.slice O L.length f) L.length (rcells L) rfl hown7 Bm M.length dm (rcells M) rfl nM' (rcells_length _) hsh7 rcells_one (by omega) (by omega) (fun v' w5 hr5 hg5 => ?_); obtain ⟨B6, d6, rfl⟩ := row_slice hr5))
      have hr6 : OwnR w5 w1.heap.size (.slice B6 (L ++ M).length d6) (L ++ M) := by
        unfold OwnR
        rw [List.length_append, show rcells (L ++ M) = rcells L ++ rcells M by simp [rcells]]
        exact hr5
      have hE5 : Ext w1 w5 := row_ext hown7 (hE2.trans hE3) hg5
      exact ⟨⟨k + 1, B6, d6, by omega, by go_num, by rw [HS.out, List.length_append], by rw [HS.out]; exact hr6, hE5⟩, by simp [intOf]; omega⟩
    · obtain rfl : k = N := by omega
      go_wp2_with fail
      go_ret
      unfold splitOf
      rw [HN.out]
      exact ⟨O, f, rfl, World.ownsRow.base_le (show World.ownsRow wr w1.heap.size _ 4 _ _ (rcells _) from HO.out) hE.size, fun e => (row_nil_of HO.out e).1, hE.trans hE2⟩
end Go.Proofs.Ytjghghbldifhaaa
