/- The reference's tiles: vignetteref10.Touched. -/
import Derived.Test.YtilcggkbancniaaTileR
set_option linter.unusedVariables false
set_option linter.unusedSimpArgs false
namespace Go.Proofs.Ytilcggkbancniaa
open Go.RowKit

def tupTo (l : List Rect) (w h : Int) (k : Nat) : List Int := natsI ((List.range k).filter fun i => touchB l (tileR w h i))
theorem tupTo_succ (l : List Rect) (w h : Int) (k : Nat) : tupTo l w h (k + 1) = tupTo l w h k ++ (if touchB l (tileR w h k) then [(k : Int)] else []) := by
  unfold tupTo natsI
  rw [List.range_succ, List.filter_append, List.map_append]
  congr 1
  cases h : touchB l (tileR w h k)
  · rw [List.filter_cons_of_neg (by simpa using h)]; rfl
  · rw [List.filter_cons_of_pos (by simpa using h)]; rfl
theorem tupTo_length (l : List Rect) (w h : Int) (k : Nat) : (tupTo l w h k).length ≤ k := by
  unfold tupTo natsI
  rw [List.length_map]
  exact Nat.le_trans (List.length_filter_le _ _) (by simp)

set_option maxHeartbeats 4000000 in
theorem rtouched_any (aA : Option Addr) (ca : Nat) (l : List Rect) (wd ht : Int) (w : World) (hl : RectsAt w aA l) (hal : l.length ≤ 1000000) : Calls Try.prog 66 #[.slice aA l.length ca, .int .i64 wd, .int .i64 ht] w (GivesN (natsI (touchedOf l wd ht)) w) := by
  have hNb := tileN_bd wd ht
  have hgl : (gridOf wd ht).length = tileN wd ht := gridTo_length wd ht _
  have hgi : ∀ k, k < tileN wd ht → (gridOf wd ht)[k]? = some (tileR wd ht k) := fun k hk => by
    unfold gridOf
    rw [List.getElem?_map, List.getElem?_range hk]
    rfl
  have hend : natsI (touchedOf l wd ht) = tupTo l wd ht (tileN wd ht) := rfl
  have hgc := rgrid_any wd ht
  rw [hend]
  clear hend
  obtain ⟨N, hN⟩ : ∃ N, tileN wd ht = N := ⟨_, rfl⟩
  obtain ⟨G, hG⟩ : ∃ G, gridOf wd ht = G := ⟨_, rfl⟩
  rw [hN] at hNb hgl ⊢
  simp only [hN] at hgi
  simp only [hG] at hgl hgi hgc
  have HGI := Lib.hid hgi
  clear hgi hN hG
  go_enter Try.func66, Try.ntmps66
  go_wp2_with fail
  refine (hgc _).mono ?_
  rintro e w1 ⟨B, d, rfl, hM, nM, hE⟩
  have hr := OwnR.at hM
  rw [hgl]
  clear hM hgc
  go_wp2_with fail
  go_loopw [7, 9, 10] (fun ov iv _ wr => ∃ (k : Nat) (O : Option Addr) (f : Nat), k ≤ N ∧ iv = .int .i64 k ∧ ov = .slice O (tupTo l wd ht k).length f ∧ wr.ownsRow w1.heap.size 3 1 (.slice O (tupTo l wd ht k).length f) (tupTo l wd ht k).length (nums .i64 (tupTo l wd ht k)) ∧ Ext w1 wr) (fun _ iv _ _ => N - (intOf iv).toNat)
  case atStart => exact ⟨0, none, 0, Nat.zero_le _, rfl, rfl, World.ownsRow_nil _ _ _ _, Ext.refl _⟩
  case round =>
    obtain ⟨k, O, f, hk, rfl, rfl, hown, hE2⟩ := hrel
    have HO := Lib.hid hown
    clear hown
    by_cases hlt : k < N
    · have hLn := tupTo_length l wd ht k
      have hsn := tupTo_succ l wd ht k
      obtain ⟨L, hL⟩ : ∃ L, tupTo l wd ht k = L := ⟨_, rfl⟩
      obtain ⟨q, hq⟩ : ∃ q, tileR wd ht k = q := ⟨_, rfl⟩
      rw [hq] at hsn
      rw [hL] at hsn hLn HO
      have hgk := HGI.out k hlt
      rw [hq] at hgk
      simp only [hL]
      have HS := Lib.hid hsn
      clear hsn hL hq
      go_wp2_with fail
      go_loopw [10, 11] (fun bv jv wz => ∃ j : Nat, j ≤ l.length ∧ jv = .int .i64 j ∧ bv = .bool (touchB (l.take j) q) ∧ Ext wr wz) (fun _ jv _ => l.length - (intOf jv).toNat)
      case atStart => exact ⟨0, Nat.zero_le _, rfl, by simp [touchB], Ext.refl _⟩
      case round =>
        obtain ⟨j, hj, rfl, rfl, hE3⟩ := hrel
        obtain ⟨is, his⟩ : ∃ is, touchB (l.take j) q = is := ⟨_, rfl⟩
        rw [his]
        by_cases hjl : j < l.length
        · obtain ⟨b, off, rfl, hc⟩ := (hr.ext (hE2.trans hE3)).form (by omega)
          obtain ⟨h0, h1, h2, h3⟩ := hc k q hgk
          obtain ⟨b', off', rfl, hc'⟩ := (hl.ext (hE.trans (hE2.trans hE3))).form (by omega)
          obtain ⟨p0, p1, p2, p3⟩ := hc' j l[j] (List.getElem?_eq_getElem hjl)
          have ht := List.take_succ_eq_append_getElem hjl
          generalize l[j] = r at *
          have hsn := touchB_snoc (l.take j) r q
          rw [← ht, his, and_empty_comm] at hsn
          have HSN := Lib.hid hsn
          clear hc hc' ht hsn his
          cases is
          · have hand := fun W => rand_any q.x q.y q.w q.h r.x r.y r.w r.h W
            obtain ⟨mt, hmt⟩ : ∃ mt, q.and r = mt := ⟨_, rfl⟩
            have hemp := fun W => rempty_any mt.x mt.y mt.w mt.h W
            simp only [show Rect.mk r.x r.y r.w r.h = r from rfl, show Rect.mk q.x q.y q.w q.h = q from rfl, show Rect.mk mt.x mt.y mt.w mt.h = mt from rfl, hmt] at hand hemp
            rw [hmt, Bool.false_or] at HSN
            clear hmt
            have j0 := fun x : After wr => x.cell h0
            have j1 := fun x : After wr => x.cell h1
            have j2 := fun x : After wr => x.cell h2
            have j3 := fun x : After wr => x.cell h3
            have s0 := fun x : After wr => x.cell p0
            have s1 := fun x : After wr => x.cell p1
            have s2 := fun x : After wr => x.cell p2
            have s3 := fun x : After wr => x.cell p3
            go_wp2_with fail
            refine wp_region_after (by kernel_rfl) (by kernel_rfl) ?_
            repeat (go_big_quiet_step (first | exact Calls.after (hand _) | exact Calls.after (hemp _)))
            refine wpQuiet_nil ?_
            intro _ hw'
            obtain ⟨z, rfl⟩ := hw'
            go_wp2_with fail
            exact ⟨⟨j + 1, by omega, by go_num, by rw [HSN.out], hE3.trans z.ext⟩, by simp [intOf]; omega⟩
          · rw [Bool.true_or] at HSN
            go_wp2_with fail
            go_quiet (fail)
            go_wp2_with fail
            exact ⟨⟨j + 1, by omega, by go_num, by rw [HSN.out], hE3.drewN _⟩, by simp [intOf]; omega⟩
        · obtain rfl : j = l.length := by omega
          rw [List.take_length] at his
          have HO3 := Lib.hid (row_keep HO.out hE3)
          have hsz := (hE2.trans hE3).size
          cases is
          · have hS := HS.out
            rw [his, if_neg (by simp), List.append_nil] at hS
            have HS2 := Lib.hid hS
            clear hS his
            go_wp2_with fail
            exact ⟨⟨k + 1, O, f, by omega, by go_num, by rw [HS2.out], by rw [HS2.out]; exact HO3.out, hE2.trans hE3⟩, by simp [intOf]; omega⟩
          · have hS := HS.out
            rw [his, if_pos rfl] at hS
            have HS2 := Lib.hid hS
            clear hS his
            go_wp2_with (first
              | (refine wpList_app w1.heap.size rfl (.tmp 42) (.tmp 44) 81 3 (.int .i64 0) 1 8 rfl Try.underlying81 info_int rfl (by decide) (by decide) (.slice O L.length f) L.length (nums .i64 L) rfl (World.ownsRow.alloc HO3.out _) (some ⟨wr.heap.size, 0, none⟩) 1 1 [.int .i64 k] rfl (fun h => by cases h) rfl (fun _ => ⟨_, rfl, World.news_of_block (blk_new wr _)⟩) (by simp [Value.oneCell']) (by omega) (Nat.le_trans hsz (by simp)) (fun v' w5 hr5 hg5 => ?_); obtain ⟨B5, d5, rfl⟩ := row_slice hr5))
            have hE5 := row_ext (World.ownsRow.alloc HO3.out _) ((hE2.trans hE3).alloc _) hg5
            have hr6 : w5.ownsRow w1.heap.size 3 1 (.slice B5 (L ++ [(k : Int)]).length d5) (L ++ [(k : Int)]).length (nums .i64 (L ++ [(k : Int)])) := by
              rw [List.length_append, show nums .i64 (L ++ [(k : Int)]) = nums .i64 L ++ [.int .i64 k] by simp [nums]]
              exact hr5
            exact ⟨⟨k + 1, B5, d5, by omega, by go_num, by rw [HS2.out, List.length_append]; rfl, by rw [HS2.out]; exact hr6, hE5⟩, by simp [intOf]; omega⟩
    · obtain rfl : k = N := by omega
      go_wp2_with fail
      go_ret
      exact ⟨O, f, rfl, World.ownsRow.base_le HO.out hE.size, hE.trans hE2⟩

theorem sumsOk_isPic (W H : Int) (px : List Int) : isPic W H px.length = sumsOk W H px := by
  have h1 : sumsOk W H px = true ↔ isPic W H px.length = true := by
    unfold sumsOk
    rw [Bool.and_eq_true, sizeOk_iff]
    simp [isPic]
    omega
  cases h : sumsOk W H px
  · cases h2 : isPic W H px.length
    · rfl
    · rw [h1.2 h2] at h; cases h
  · exact h1.1 h
theorem rsums_bad (W H : Int) (pA : Option Addr) (pc : Nat) (px : List Int) (w : World) (hok : sumsOk W H px = false) : Calls Try.prog 71 #[.agg #[.int .i64 W, .int .i64 H, .slice pA px.length pc]] w (GivesU [] w) := by
  have hI := fun w => ris_any W H pA pc px.length w
  rw [sumsOk_isPic, hok] at hI
  go_enter Try.func71, Try.ntmps71
  go_wp2_with fail
  refine (hI _).mono ?_
  rintro e w1 ⟨rfl, hE⟩
  go_wp2_with fail
  go_ret
  exact ⟨none, 0, rfl, World.ownsRow_nil _ _ _ _, Ext.of_alloc hE⟩
theorem eat3_eq (h c : Int) : eat3 h c = IntKind.u32.wrap (bits BinOp.xor IntKind.u32 (IntKind.u32.wrap (bits BinOp.xor IntKind.u32 (IntKind.u32.wrap (bits BinOp.xor IntKind.u32 h (c / 65536 % 256) * 16777619)) (c / 256 % 256) * 16777619)) (c % 256) * 16777619) := rfl
set_option maxRecDepth 100000 in
set_option maxHeartbeats 8000000 in
theorem rsums_good (W H : Int) (pA : Option Addr) (pc : Nat) (px : List Int) (w : World) (hp : Reads .u32 w pA px) (hx : ∀ x ∈ px, 0 ≤ x ∧ x ≤ 4294967295) (hcap : px.length ≤ pc) (hok : sumsOk W H px = true) : Calls Try.prog 71 #[.agg #[.int .i64 W, .int .i64 H, .slice pA px.length pc]] w (GivesU (sumsOf W H px (List.range (tileN W H))) w) := by
  have hI := fun w => ris_any W H pA pc px.length w
  rw [sumsOk_isPic, hok] at hI
  unfold sumsOk at hok
  rw [Bool.and_eq_true, decide_eq_true_eq] at hok
  obtain ⟨hsz, hlen⟩ := hok
  obtain ⟨⟨w1', w2'⟩, w3', w4'⟩ := sizeOk_iff.1 hsz
  have HSZ := Lib.hid hsz
  have HLEN := Lib.hid hlen
  have HX := Lib.hid hx
  have HP := Lib.hid hp
  have hNb := tileN_bd W H
  have hgl : (gridOf W H).length = tileN W H := gridTo_length W H _
  have hgi : ∀ k, k < tileN W H → (gridOf W H)[k]? = some (tileR W H k) := fun k hk => by
    unfold gridOf
    rw [List.getElem?_map, List.getElem?_range hk]
    rfl
  have hspec := fun i (hi : i < tileN W H) => tileR_spec hsz hi
  have hgc := rgrid_any W H
  have hlb : px.length ≤ 65536 := by
    have a1 : W * H ≤ 256 * 256 := Int.mul_le_mul w2' w4' (by omega) (by omega)
    omega
  obtain ⟨N, hN⟩ : ∃ N, tileN W H = N := ⟨_, rfl⟩
  obtain ⟨G, hG⟩ : ∃ G, gridOf W H = G := ⟨_, rfl⟩
  rw [hN] at hNb hgl ⊢
  simp only [hN] at hgi hspec
  simp only [hG] at hgl hgi hgc
  have HGI := Lib.hid hgi
  have HSP := Lib.hid hspec
  clear hgi hN hG hsz hlen hx hp hspec
  go_enter Try.func71, Try.ntmps71
  go_wp2_with fail
  refine (hI _).mono ?_
  rintro e w1 ⟨rfl, hE⟩
  have km := hE.keep (blk_new w (.cells #[.int .i64 W, .int .i64 H, .slice pA px.length pc] 24))
  replace hE := Ext.of_alloc hE
  obtain ⟨cM, fM⟩ := blk_rules km
  clear hI
  go_wp2_with fail
  refine (hgc _).mono ?_
  rintro e w2 ⟨B, d, rfl, hM, nM, hE0⟩
  have hr := OwnR.at hM
  rw [hgl]
  replace km := hE0.keep km
  replace hE := hE.trans hE0
  clear hM hgc cM fM hE0
  go_wp2_with fail
  go_loopw [3, 5] (fun ov iv wr => ∃ (k : Nat) (O : Option Addr) (f : Nat), k ≤ N ∧ iv = .int .i64 k ∧ ov = .slice O (sumsOf W H px (List.range k)).length f ∧ wr.ownsRow w2.heap.size 35 1 (.slice O (sumsOf W H px (List.range k)).length f) (sumsOf W H px (List.range k)).length (nums .u32 (sumsOf W H px (List.range k))) ∧ Ext w2 wr) (fun _ iv _ => N - (intOf iv).toNat)
  case atStart => exact ⟨0, none, 0, Nat.zero_le _, rfl, rfl, World.ownsRow_nil _ _ _ _, Ext.refl _⟩
  case round =>
    obtain ⟨k, O, f, hk, rfl, rfl, hown, hE2⟩ := hrel
    have HO := Lib.hid hown
    clear hown
    by_cases hlt : k < N
    · have hLn : (sumsOf W H px (List.range k)).length ≤ k := by unfold sumsOf; rw [List.length_map, List.length_range]; exact Nat.le_refl _
      have hsn := sumsOf_snoc W H px (List.range k) k
      rw [← List.range_succ] at hsn
      obtain ⟨L, hL⟩ : ∃ L, sumsOf W H px (List.range k) = L := ⟨_, rfl⟩
      rw [hL] at hsn hLn HO
      have hgk := HGI.out k hlt
      obtain ⟨P, Q, _, _, p1, q1, hq⟩ := HSP.out k hlt
      obtain ⟨X, hX⟩ : ∃ X : Nat, X = P * 16 := ⟨_, rfl⟩
      obtain ⟨Y, hY⟩ : ∃ Y : Nat, Y = Q * 16 := ⟨_, rfl⟩
      obtain ⟨TW, hTW⟩ : ∃ n : Nat, (n : Int) = min 16 (W - (P : Int) * 16) := ⟨(min 16 (W - (P : Int) * 16)).toNat, by omega⟩
      obtain ⟨TH, hTH⟩ : ∃ n : Nat, (n : Int) = min 16 (H - (Q : Int) * 16) := ⟨(min 16 (H - (Q : Int) * 16)).toNat, by omega⟩
      obtain ⟨W', hW'⟩ : ∃ n : Nat, (n : Int) = W := ⟨W.toNat, by omega⟩
      obtain ⟨H', hH'⟩ : ∃ n : Nat, (n : Int) = H := ⟨H.toNat, by omega⟩
      rw [← hTW, ← hTH, show (P : Int) * 16 = (X : Int) by omega, show (Q : Int) * 16 = (Y : Int) by omega] at hq
      have hXW : X + TW ≤ W' := by omega
      have hYH : Y + TH ≤ H' := by omega
      have hXb : X ≤ 256 := by omega
      have hYb : Y ≤ 256 := by omega
      have hTWb : TW ≤ 16 := by omega
      have hTHb : TH ≤ 16 := by omega
      have hWb : W' ≤ 256 := by omega
      have hpn : px.length = W' * H' := by
        have := HLEN.out
        rw [← hW', ← hH', ← Int.natCast_mul] at this
        omega
      clear p1 q1 hX hY hTW hTH
      have hts : tileSum px W.toNat (tileR W H k) = (List.range TH).foldl (rowEat px W' ⟨X, Y, TW, TH⟩) 2166136261 := by rw [hq, ← hW']; rfl
      rw [hts] at hsn
      rw [hq] at hgk
      obtain ⟨q, hqq⟩ : ∃ q : Rect, q = ⟨X, Y, TW, TH⟩ := ⟨_, rfl⟩
      rw [← hqq] at hsn
      have hrow : ∀ (j : Nat) (h0 : Int), rowEat px W' q h0 j = ((px.drop ((Y + j) * W' + X)).take TW).foldl eat3 h0 := fun j h0 => by rw [hqq]; rfl
      have hin : ∀ j, j < TH → (Y + j) * W' + X + TW ≤ px.length := fun j hj => by
        have h1 : (Y + j + 1) * W' ≤ H' * W' := Nat.mul_le_mul_right _ (by omega)
        rw [hpn, Nat.mul_comm W' H']
        rw [Nat.add_mul, Nat.one_mul] at h1
        omega
      have HIN := Lib.hid hin
      have HROW := Lib.hid hrow
      have HS := Lib.hid hsn
      have HW := Lib.hid hW'
      simp only [hL]
      obtain ⟨b, off, rfl, hc⟩ := (hr.ext hE2).form (by omega)
      obtain ⟨h0, h1, h2, h3⟩ := hc k _ hgk
      dsimp only at h0 h1 h2 h3
      clear hc hsn hL hq hts hqq hrow hin hpn hgk hW' hH' hYH
      go_wp2_with fail
      go_loopw [6, 7] (fun hv yv wz => ∃ j : Nat, j ≤ TH ∧ yv = .int .i64 ((Y : Int) + (j : Int)) ∧ hv = .int .u32 ((List.range j).foldl (rowEat px W' q) 2166136261) ∧ Ext wr wz) (fun _ yv _ => Y + TH - (intOf yv).toNat)
      case atStart => exact ⟨0, Nat.zero_le _, by simp, rfl, Ext.refl _⟩
      case round =>
        obtain ⟨j, hj, rfl, rfl, hE3⟩ := hrel
        obtain ⟨h0', hh0⟩ : ∃ h0, (List.range j).foldl (rowEat px W' q) 2166136261 = h0 := ⟨_, rfl⟩
        rw [hh0]
        have HH0 := Lib.hid hh0
        clear hh0
        have e1 : IntKind.i64.wrap ((Y : Int) + (TH : Int)) = (Y : Int) + (TH : Int) := IntWalk.i64_in _ (by omega)
        replace h0 := hE3.cellOf h0
        replace h1 := hE3.cellOf h1
        replace h2 := hE3.cellOf h2
        replace h3 := hE3.cellOf h3
        by_cases hjl : j < TH
        · have c1 : ((Y : Int) + (j : Int) < (Y : Int) + (TH : Int)) := by omega
          have hb := HIN.out j hjl
          obtain ⟨a, ha⟩ : ∃ a, (Y + j) * W' + X = a := ⟨_, rfl⟩
          have hai : ((Y : Int) + (j : Int)) * (W' : Int) + (X : Int) = a := by rw [← ha]; simp
          rw [ha] at hb
          have HHA := Lib.hid ha
          have HAI := Lib.hid hai
          clear ha hai
          go_wp2_with fail
          go_quiet (fail)
          go_wp2_with fail
          go_loopw [6, 8] (fun hv xv wz => ∃ i : Nat, i ≤ TW ∧ xv = .int .i64 ((X : Int) + (i : Int)) ∧ hv = .int .u32 (((px.drop a).take i).foldl eat3 h0') ∧ Ext wr wz) (fun _ xv _ => X + TW - (intOf xv).toNat)
          case atStart => exact ⟨0, Nat.zero_le _, by simp, by simp, (Ext.refl _).drewN _⟩
          case round =>
            obtain ⟨i, hi, rfl, rfl, hE4⟩ := hrel
            replace h0 := hE4.cellOf h0
            replace h1 := hE4.cellOf h1
            replace h2 := hE4.cellOf h2
            replace h3 := hE4.cellOf h3
            have e2 : IntKind.i64.wrap ((X : Int) + (TW : Int)) = (X : Int) + (TW : Int) := IntWalk.i64_in _ (by omega)
            by_cases hil : i < TW
            · have c2 : ((X : Int) + (i : Int) < (X : Int) + (TW : Int)) := by omega
              have hEr := hE2.trans (hE3.trans hE4)
              obtain ⟨pb, po, rfl, hpc⟩ := (HP.out.ext (hE.trans hEr)).form (by omega)
              have hcell := hpc (a + i) (by omega)
              have hst := foldl_take (px := px) (a := a) (k := i) (by omega) h0'
              have hxa := HX.out _ (List.getElem_mem (show a + i < px.length by omega))
              have hga : px.getD (a + i) 0 = px[a + i] := by rw [List.getD_eq_getElem?_getD, List.getElem?_eq_getElem (by omega)]; rfl
              rw [hga] at hcell hst
              obtain ⟨c, hc⟩ : ∃ c, px[a + i]'(by omega) = c := ⟨_, rfl⟩
              rw [hc] at hcell hst hxa
              obtain ⟨g, hg⟩ : ∃ g, ((px.drop a).take i).foldl eat3 h0' = g := ⟨_, rfl⟩
              rw [hg] at hst ⊢
              have g0 := HAI.out
              have b0n : 0 ≤ ((Y : Int) + (j : Int)) * (W' : Int) := Int.mul_nonneg (by omega) (by omega)
              have g1 : IntKind.i64.wrap (((Y : Int) + (j : Int)) * (W' : Int)) = ((Y : Int) + (j : Int)) * (W' : Int) := IntWalk.i64_in _ (by omega)
              have g2 : IntKind.i64.wrap (((Y : Int) + (j : Int)) * (W' : Int) + ((X : Int) + (i : Int))) = ((Y : Int) + (j : Int)) * (W' : Int) + ((X : Int) + (i : Int)) := IntWalk.i64_in _ (by omega)
              have g3 : 0 ≤ ((Y : Int) + (j : Int)) * (W' : Int) + ((X : Int) + (i : Int)) := by omega
              have g4 : ((Y : Int) + (j : Int)) * (W' : Int) + ((X : Int) + (i : Int)) < (px.length : Int) := by omega
              have g5 : (((Y : Int) + (j : Int)) * (W' : Int) + ((X : Int) + (i : Int))).toNat = a + i := by omega
              have t1 : c.tdiv 65536 = c / 65536 := Int.tdiv_eq_ediv_of_nonneg hxa.1
              have t2 : c.tdiv 256 = c / 256 := Int.tdiv_eq_ediv_of_nonneg hxa.1
              have t3 : c.tmod 256 = c % 256 := Int.tmod_eq_emod_of_nonneg hxa.1
              have t4 : (c / 65536).tmod 256 = c / 65536 % 256 := Int.tmod_eq_emod_of_nonneg (by omega)
              have t5 : (c / 256).tmod 256 = c / 256 % 256 := Int.tmod_eq_emod_of_nonneg (by omega)
              have km2 := hEr.keep km
              obtain ⟨cM, fM⟩ := blk_rules km2
              have HST := Lib.hid hst
              have HK := Lib.hid km
              clear hga hc hg hst hpc g0 b0n hxa hb km km2
              rw [← HW.out] at cM
              go_wp2_with fail
              go_quiet (fail)
              go_wp2_with fail
              exact ⟨⟨i + 1, by omega, by congr 1, by rw [HST.out]; rfl, hE4.drewN _⟩, by simp [intOf]; omega⟩
            · obtain rfl : i = TW := by omega
              have hnx : (List.range (j + 1)).foldl (rowEat px W' q) 2166136261 = ((px.drop a).take i).foldl eat3 h0' := by
                rw [List.range_succ, List.foldl_append, HH0.out]
                show rowEat px W' q h0' j = _
                rw [HROW.out, HHA.out]
              have HNX := Lib.hid hnx
              clear hnx
              go_wp2_with fail
              go_quiet (fail)
              go_wp2_with fail
              exact ⟨⟨j + 1, by omega, by congr 1, by rw [HNX.out], hE3.trans (hE4.drewN _)⟩, by simp [intOf]; omega⟩
        · obtain rfl : j = TH := by omega
          have HO3 := Lib.hid (row_keep HO.out hE3)
          have hszw := (hE2.trans hE3).size
          go_wp2_with fail
          go_quiet (fail)
          obtain ⟨wz, hwz⟩ : ∃ wz, wr.drewN nq = wz := ⟨_, rfl⟩
          have hEz : Ext wr wz := hwz ▸ (Ext.refl wr).drewN nq
          rw [hwz]
          have HO4 := Lib.hid (row_keep HO3.out hEz)
          have hE4 := Lib.hid ((hE2.trans hE3).trans hEz)
          have hszz := hE4.out.size
          have hS := HS.out
          rw [HH0.out] at hS
          have HS2 := Lib.hid hS
          clear hwz hS h0 h1 h2 h3 e1 hE3 hEz hszw
          go_wp2_with (first
              | (refine wpList_app w2.heap.size rfl (.tmp 91) (.tmp 93) 22 35 (.int .u32 0) 1 4 rfl Try.underlying22 info_u32 rfl (by decide) (by decide) (.slice O L.length f) L.length (nums .u32 L) rfl (World.ownsRow.alloc HO4.out _) (some ⟨wz.heap.size, 0, none⟩) 1 1 [.int .u32 h0'] rfl (fun h => by cases h) rfl (fun _ => ⟨_, rfl, World.news_of_block (blk_new wz _)⟩) (by simp [Value.oneCell']) (by omega) (Nat.le_trans hszz (by simp)) (fun v' w5 hr5 hg5 => ?_); obtain ⟨B5, d5, rfl⟩ := row_slice hr5))
          have hE5 := row_ext (World.ownsRow.alloc HO4.out _) (hE4.out.alloc _) hg5
          have hr6 : w5.ownsRow w2.heap.size 35 1 (.slice B5 (L ++ [h0']).length d5) (L ++ [h0']).length (nums .u32 (L ++ [h0'])) := by
            rw [List.length_append, show nums .u32 (L ++ [h0']) = nums .u32 L ++ [.int .u32 h0'] by simp [nums]]
            exact hr5
          exact ⟨⟨k + 1, B5, d5, by omega, by go_num, by rw [HS2.out, List.length_append]; rfl, by rw [HS2.out]; exact hr6, hE5⟩, by simp [intOf]; omega⟩
    · obtain rfl : k = N := by omega
      go_wp2_with fail
      go_ret
      exact ⟨O, f, rfl, World.ownsRow.base_le HO.out hE.size, hE.trans hE2⟩
theorem rsums_any (W H : Int) (pA : Option Addr) (pc : Nat) (px : List Int) (w : World) (hp : Reads .u32 w pA px) (hx : ∀ x ∈ px, 0 ≤ x ∧ x ≤ 4294967295) (hcap : px.length ≤ pc) : Calls Try.prog 71 #[.agg #[.int .i64 W, .int .i64 H, .slice pA px.length pc]] w (GivesU (sumsL W H px) w) := by
  unfold sumsL
  cases hok : sumsOk W H px
  · exact rsums_bad W H pA pc px w hok
  · exact rsums_good W H pA pc px w hp hx hcap hok
end Go.Proofs.Ytilcggkbancniaa
