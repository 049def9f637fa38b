/- The law TilesTwice. Printed by gen_twice.py. -/
import Derived.Test.YtilcggkbancniaaTileF
set_option linter.unusedVariables false
set_option linter.unusedSimpArgs false
namespace Go.Proofs.Ytilcggkbancniaa
open Go.RowKit
attribute [local go_sem ↓] neq_rect

theorem hasL_cut (l : List Rect) (w h : Int) (is : List Nat) (x y : Int) : hasL (cutL l w h is) x y = (hasL l x y && is.any fun i => hasL [tileR w h i] x y) := by
  induction is with
  | nil => simp [cutL, hasL]
  | cons i is ih =>
    show hasL (listOf 2 l [tileR w h i] ++ cutL l w h is) x y = _
    have happ : ∀ a b : List Rect, hasL (a ++ b) x y = (hasL a x y || hasL b x y) := fun a b => by unfold hasL; rw [List.any_append]
    rw [happ, ih, listOf_has, List.any_cons]
    cases hasL l x y <;> cases hasL [tileR w h i] x y <;> simp [meant]
theorem flatMap_same {f g : Nat → List Rect} : ∀ {is : List Nat}, (∀ i ∈ is, f i = g i) → is.flatMap f = is.flatMap g
  | [], _ => rfl
  | i :: is, h => by
    show f i ++ is.flatMap f = g i ++ is.flatMap g
    rw [h i (by simp), flatMap_same (is := is) fun j hj => h j (by simp [hj])]
theorem split_twice (l : List Rect) (w h : Int) : splitOf (splitOf l w h) w h = splitOf l w h := by
  unfold splitOf cutL
  refine flatMap_same fun i hi => ?_
  refine listOf_eq fun x y => ?_
  have h1 := hasL_cut l w h (List.range (tileN w h)) x y
  unfold cutL at h1
  rw [h1]
  cases hc : hasL [tileR w h i] x y
  · cases hasL l x y <;> simp [meant]
  · have : ((List.range (tileN w h)).any fun i => hasL [tileR w h i] x y) = true := List.any_eq_true.2 ⟨i, hi, hc⟩
    rw [this, Bool.and_true]
theorem touchB_app (a b : List Rect) (t : Rect) : touchB (a ++ b) t = (touchB a t || touchB b t) := by unfold touchB; rw [List.any_append]
theorem touched_left (a b : List Rect) (w h : Int) : (touchedOf (a ++ b) w h).filter (fun i => touchB a (tileR w h i)) = touchedOf a w h := by
  unfold touchedOf
  rw [List.filter_filter]
  congr 1
  funext i
  rw [touchB_app]
  cases touchB a (tileR w h i) <;> simp
theorem touched_right (a b : List Rect) (w h : Int) : (touchedOf (a ++ b) w h).filter (fun i => touchB b (tileR w h i)) = touchedOf b w h := by
  unfold touchedOf
  rw [List.filter_filter]
  congr 1
  funext i
  rw [touchB_app]
  cases touchB b (tileR w h i) <;> simp
theorem pick_step {T : List Nat} (hT : T.Pairwise (· < ·)) (f : Nat → Bool) {j t : Nat} (hj : T[j]? = some t) :
    (f t = true → (T.filter f)[((T.take j).filter f).length]? = some t ∧ ((T.take (j + 1)).filter f).length = ((T.take j).filter f).length + 1) ∧
    (f t = false → (∀ u, (T.filter f)[((T.take j).filter f).length]? = some u → u ≠ t) ∧ ((T.take (j + 1)).filter f).length = ((T.take j).filter f).length) := by
  have hjl : j < T.length := (List.getElem?_eq_some_iff.1 hj).1
  have htk : T.take (j + 1) = T.take j ++ [t] := by rw [List.take_add_one, hj]; rfl
  have hsp : T = T.take j ++ t :: T.drop (j + 1) := by
    conv => lhs; rw [← List.take_append_drop (j + 1) T, htk]
    simp
  have hd : ∀ u ∈ T.drop (j + 1), t < u := by
    rw [hsp] at hT
    exact (List.pairwise_cons.1 (List.pairwise_append.1 hT).2.1).1
  have hX : T.filter f = (T.take j).filter f ++ (t :: T.drop (j + 1)).filter f := by
    conv => lhs; rw [hsp]
    rw [List.filter_append]
  rw [htk, List.filter_append, hX, List.getElem?_append_right (Nat.le_refl _), Nat.sub_self, List.length_append]
  constructor
  · intro hf
    rw [List.filter_cons_of_pos hf, List.filter_cons_of_pos hf]
    exact ⟨rfl, rfl⟩
  · intro hf
    rw [List.filter_cons_of_neg (by rw [hf]; simp), List.filter_cons_of_neg (by rw [hf]; simp)]
    refine ⟨fun u hu => ?_, rfl⟩
    have hm : u ∈ (T.drop (j + 1)).filter f := List.mem_of_getElem? hu
    have := hd u (List.mem_filter.1 hm).1
    omega
theorem natsI_get {T : List Nat} {i t : Nat} (h : T[i]? = some t) : (natsI T).getD i 0 = (t : Int) := by
  unfold natsI
  rw [List.getD_eq_getElem?_getD, List.getElem?_map, h]
  rfl
theorem natsI_length (T : List Nat) : (natsI T).length = T.length := by unfold natsI; rw [List.length_map]
theorem reads_nat {T : List Nat} {w : World} {A : Option Addr} {i t : Nat} (h : Reads .i64 w A (natsI T)) (hi : T[i]? = some t) : ∃ b o, A = some ⟨b, o, none⟩ ∧ w.cell? ⟨b, o + i, none⟩ = some (.int .i64 (t : Int)) := by
  have hl : i < T.length := (List.getElem?_eq_some_iff.1 hi).1
  obtain ⟨b, o, e, hc⟩ := h i (by rw [natsI_length]; exact hl)
  exact ⟨b, o, e, by rw [hc, natsI_get hi]⟩

set_option maxHeartbeats 16000000 in
set_option maxRecDepth 10000 in
theorem twice_in (aA bA : Option Addr) (ca cb : Nat) (a b : List Rect) (wd ht : Int) (w : World) (ra : Hid (RectsAt w aA a)) (rb : Hid (RectsAt w bA b)) (na : aA = none → ca = 0) (nb : bA = none → cb = 0) (hla : a.length ≤ 16) (hlb : b.length ≤ 16) :
    Calls Try.prog 12 #[.slice aA a.length ca, .slice bA b.length cb, .int .i64 wd, .int .i64 ht] w fun e w' => e = .returned (.bool true) ∧ Ext w w' := by
  have hSl := cutL_length a wd ht (List.range (tileN wd ht))
  have hNb := tileN_bd wd ht
  rw [List.length_range] at hSl
  obtain ⟨S, hS⟩ : ∃ S, splitOf a wd ht = S := ⟨_, rfl⟩
  have hSl2 : S.length ≤ 65536 := by
    rw [← hS]
    unfold splitOf
    have := Nat.mul_le_mul_right 256 hNb
    omega
  have hS2 := split_twice a wd ht
  rw [hS] at hS2
  have hTs := touchedOf_sorted (a ++ b) wd ht
  have hTl := touchedOf_length (a ++ b) wd ht
  have hXl := touchedOf_length a wd ht
  have hYl := touchedOf_length b wd ht
  have hX := touched_left a b wd ht
  have hY := touched_right a b wd ht
  have hTm : ∀ t ∈ touchedOf (a ++ b) wd ht, touchB a (tileR wd ht t) = true ∨ touchB b (tileR wd ht t) = true := fun t htm => by
    have := (touchedOf_mem.1 htm).2
    rw [touchB_app, Bool.or_eq_true] at this
    exact this
  obtain ⟨T, hT⟩ : ∃ T, touchedOf (a ++ b) wd ht = T := ⟨_, rfl⟩
  obtain ⟨X, hXX⟩ : ∃ T, touchedOf a wd ht = T := ⟨_, rfl⟩
  obtain ⟨Y, hYY⟩ : ∃ T, touchedOf b wd ht = T := ⟨_, rfl⟩
  rw [hT] at hTs hTl hX hY hTm
  rw [hXX] at hX hXl
  rw [hYY] at hY hYl
  obtain ⟨f, hf⟩ : ∃ f : Nat → Bool, (fun i => touchB a (tileR wd ht i)) = f := ⟨_, rfl⟩
  obtain ⟨g, hg⟩ : ∃ f : Nat → Bool, (fun i => touchB b (tileR wd ht i)) = f := ⟨_, rfl⟩
  rw [hf] at hX
  rw [hg] at hY
  have hTm2 : ∀ t ∈ T, f t = true ∨ g t = true := fun t htm => by rw [← hf, ← hg]; exact hTm t htm
  have hpa := fun (j t : Nat) (hj : T[j]? = some t) => pick_step hTs f hj
  have hpb := fun (j t : Nat) (hj : T[j]? = some t) => pick_step hTs g hj
  rw [hX] at hpa
  rw [hY] at hpb
  have HS := Lib.hid hS
  have HS2 := Lib.hid hS2
  have HT := Lib.hid hT
  have HXX := Lib.hid hXX
  have HYY := Lib.hid hYY
  have HX := Lib.hid hX
  have HY := Lib.hid hY
  have HTM := Lib.hid hTm2
  have HPA := Lib.hid hpa
  have HPB := Lib.hid hpb
  have hE := Ext.refl w
  have d1 : ((16 : Int) < a.length) = False := by simp; omega
  have d2 : ((16 : Int) < b.length) = False := by simp; omega
  clear hS hS2 hTs hX hY hTm hTm2 hT hXX hYY hf hg hpa hpb hSl hNb
  go_enter Try.func12, Try.ntmps12
  go_wp2_with fail
  refine (split_any aA ca a wd ht _ ra.out (by omega)).mono ?_
  rw [HS.out]
  rintro e w1 ⟨B1, d1', rfl, o1, n1, E⟩
  replace ra := Lib.hid (ra.out.ext E)
  replace rb := Lib.hid (rb.out.ext E)
  have r1 := Lib.hid (OwnR.at o1)
  replace hE := hE.trans E
  clear E o1
  go_wp2_with fail
  refine (split_any B1 d1' S wd ht _ r1.out (by omega)).mono ?_
  rw [HS2.out]
  rintro e w2 ⟨B2, d2', rfl, o2, n2, E⟩
  replace ra := Lib.hid (ra.out.ext E)
  replace rb := Lib.hid (rb.out.ext E)
  replace r1 := Lib.hid (r1.out.ext E)
  have r2 := Lib.hid (OwnR.at o2)
  replace hE := hE.trans E
  clear E o2
  have ds : ((S.length : Int) != (S.length : Int)) = false := by simp
  go_wp2_with fail
  clear ds
  go_loopw [11] (fun iv wr => ∃ k : Nat, k ≤ S.length ∧ iv = .int .i64 k ∧ Ext w2 wr) (fun iv _ => S.length - (intOf iv).toNat)
  case atStart => exact ⟨0, Nat.zero_le _, rfl, Ext.refl _⟩
  case round =>
    obtain ⟨k, hk, rfl, hEk⟩ := hrel
    by_cases hlt : k < S.length
    · obtain ⟨b1, o1, rfl, hc1⟩ := (r1.out.ext hEk).form (by omega)
      obtain ⟨b2, o2, rfl, hc2⟩ := (r2.out.ext hEk).form (by omega)
      obtain ⟨p0, p1, p2, p3⟩ := hc1 k S[k] (List.getElem?_eq_getElem hlt)
      obtain ⟨q0, q1, q2, q3⟩ := hc2 k S[k] (List.getElem?_eq_getElem hlt)
      clear hc1 hc2
      generalize S[k] = r at *
      have he : Rect.eqB ⟨r.x, r.y, r.w, r.h⟩ ⟨r.x, r.y, r.w, r.h⟩ = true := Rect.eqB_iff.2 rfl
      go_wp2_with fail
      go_quiet (fail)
      go_wp2_with fail
      exact ⟨⟨k + 1, by omega, by go_num, hEk.drewN _⟩, by simp [intOf]; omega⟩
    · obtain rfl : k = S.length := by omega
      replace ra := Lib.hid (ra.out.ext hEk)
      replace rb := Lib.hid (rb.out.ext hEk)
      replace hE := hE.trans hEk
      have sa := ra.out.shows
      have sb := rb.out.shows
      clear r1 r2 hlt hk hEk
      go_wp2_with (first
        | (refine wpList_app wr.heap.size rfl (.const (.slice none 0 0)) (.tmp 56) 65 38 (.agg #[.int .i64 0, .int .i64 0, .int .i64 0, .int .i64 0]) 4 32 rfl Try.underlying65 info_rect rfl (by decide) (by decide) (.slice none 0 0) 0 [] rfl (World.ownsRow_nil _ _ _ _) aA a.length ca (rcells a) rfl na (rcells_length _) sa rcells_one (by omega) (Nat.le_refl _) (fun v' w5 hr5 hg5 => ?_); obtain ⟨B5, d5, rfl⟩ := row_slice hr5; rw [Nat.zero_add, List.nil_append] at hr5; have sb5 := (rb.out.ext (ext_none' (Ext.refl _) hg5)).shows)
        | (refine wpList_app wr.heap.size rfl (.tmp 57) (.tmp 58) 65 38 (.agg #[.int .i64 0, .int .i64 0, .int .i64 0, .int .i64 0]) 4 32 rfl Try.underlying65 info_rect rfl (by decide) (by decide) (.slice B5 a.length d5) a.length (rcells a) rfl hr5 bA b.length cb (rcells b) rfl nb (rcells_length _) sb5 rcells_one (by omega) hg5.size (fun v' w6 hr6 hg6 => ?_); obtain ⟨B6, d6, rfl⟩ := row_slice hr6))
      have hE5 : Ext wr w5 := ext_none' (Ext.refl _) hg5
      have hE6 : Ext wr w6 := row_ext hr5 hE5 hg6
      have hr7 : OwnR w6 wr.heap.size (.slice B6 (a ++ b).length d6) (a ++ b) := by
        unfold OwnR
        rw [List.length_append, show rcells (a ++ b) = rcells a ++ rcells b by simp [rcells]]
        exact hr6
      have r6 := Lib.hid (OwnR.at hr7)
      replace ra := Lib.hid (ra.out.ext hE6)
      replace rb := Lib.hid (rb.out.ext hE6)
      replace hE := hE.trans hE6
      have hlen : a.length + b.length = (a ++ b).length := by rw [List.length_append]
      have hab : (a ++ b).length ≤ 32 := by omega
      have hcon := touched_any B6 d6 (a ++ b) wd ht w6 r6.out (by omega)
      rw [HT.out] at hcon
      simp only [hlen]
      clear sa sb hr5 hr6 hg5 hg6 hE5 hE6 hr7 sb5
      go_wp2_with fail
      refine hcon.mono ?_
      rintro e w7 hg
      obtain ⟨B7, d7, rfl, r7, E⟩ := hg.reads
      replace r7 := Lib.hid r7
      replace ra := Lib.hid (ra.out.ext E)
      replace rb := Lib.hid (rb.out.ext E)
      replace hE := hE.trans E
      clear E hg hcon hlen r6
      go_wp2_with fail
      refine (touched_any aA ca a wd ht w7 ra.out (by omega)).mono ?_
      rw [HXX.out]
      rintro e w8 hg
      obtain ⟨B8, d8, rfl, r8, E⟩ := hg.reads
      replace r7 := Lib.hid (r7.out.ext E)
      replace r8 := Lib.hid r8
      replace rb := Lib.hid (rb.out.ext E)
      replace hE := hE.trans E
      clear E hg
      go_wp2_with fail
      refine (touched_any bA cb b wd ht w8 rb.out (by omega)).mono ?_
      rw [HYY.out]
      rintro e w9 hg
      obtain ⟨B9, d9, rfl, r9, E⟩ := hg.reads
      replace r7 := Lib.hid (r7.out.ext E)
      replace r8 := Lib.hid (r8.out.ext E)
      replace r9 := Lib.hid r9
      replace hE := hE.trans E
      clear E hg ra rb
      simp only [natsI_length]
      go_wp2_with fail
      go_loopw [15, 16, 17, 18] (fun iv kv jv _ wr => ∃ j : Nat, j ≤ T.length ∧ jv = .int .i64 j ∧ iv = .int .i64 ((T.take j).filter f).length ∧ kv = .int .i64 ((T.take j).filter g).length ∧ Ext w9 wr) (fun _ _ jv _ _ => T.length - (intOf jv).toNat)
      case atStart => exact ⟨0, Nat.zero_le _, rfl, rfl, rfl, Ext.refl _⟩
      case round =>
        obtain ⟨j, hj, rfl, rfl, rfl, hEj⟩ := hrel
        by_cases hjl : j < T.length
        · obtain ⟨t, hjt⟩ : ∃ t, T[j]? = some t := ⟨T[j], List.getElem?_eq_getElem hjl⟩
          obtain ⟨b7, o7, rfl, c7⟩ := reads_nat (r7.out.ext hEj) hjt
          obtain ⟨pa1, pa2⟩ := HPA.out j t hjt
          obtain ⟨pb1, pb2⟩ := HPB.out j t hjt
          have hor := HTM.out t (List.mem_of_getElem? hjt)
          obtain ⟨i, hi⟩ : ∃ i, ((T.take j).filter f).length = i := ⟨_, rfl⟩
          obtain ⟨k, hk⟩ : ∃ k, ((T.take j).filter g).length = k := ⟨_, rfl⟩
          have hib : i ≤ 256 := by rw [← hi]; have := List.length_filter_le f (T.take j); rw [List.length_take] at this; omega
          have hkb : k ≤ 256 := by rw [← hk]; have := List.length_filter_le g (T.take j); rw [List.length_take] at this; omega
          rw [hi] at pa1 pa2
          rw [hk] at pb1 pb2
          simp only [hi, hk]
          have key1 : (f t = true ∧ ∃ b8 o8, B8 = some ⟨b8, o8, none⟩ ∧ i < X.length ∧ ∀ W, Ext wr W → W.cell? ⟨b8, o8 + i, none⟩ = some (.int .i64 (t : Int))) ∨ (f t = false ∧ ¬ i < X.length) ∨ (f t = false ∧ ∃ (b8 o8 u : Nat), B8 = some ⟨b8, o8, none⟩ ∧ i < X.length ∧ u ≠ t ∧ ∀ W, Ext wr W → W.cell? ⟨b8, o8 + i, none⟩ = some (.int .i64 (u : Int))) := by
            cases hft : f t
            · by_cases hix : i < X.length
              · obtain ⟨b8, o8, e8, c8⟩ := reads_nat (r8.out.ext hEj) (List.getElem?_eq_getElem hix)
                exact .inr (.inr ⟨rfl, b8, o8, X[i], e8, hix, (pa2 hft).1 _ (List.getElem?_eq_getElem hix), fun W hW => hW.cellOf c8⟩)
              · exact .inr (.inl ⟨rfl, hix⟩)
            · have h1 := (pa1 hft).1
              obtain ⟨b8, o8, e8, c8⟩ := reads_nat (r8.out.ext hEj) h1
              exact .inl ⟨rfl, b8, o8, e8, (List.getElem?_eq_some_iff.1 h1).1, fun W hW => hW.cellOf c8⟩
          have key2 : (g t = true ∧ ∃ b9 o9, B9 = some ⟨b9, o9, none⟩ ∧ k < Y.length ∧ ∀ W, Ext wr W → W.cell? ⟨b9, o9 + k, none⟩ = some (.int .i64 (t : Int))) ∨ (g t = false ∧ ¬ k < Y.length) ∨ (g t = false ∧ ∃ (b9 o9 u : Nat), B9 = some ⟨b9, o9, none⟩ ∧ k < Y.length ∧ u ≠ t ∧ ∀ W, Ext wr W → W.cell? ⟨b9, o9 + k, none⟩ = some (.int .i64 (u : Int))) := by
            cases hgt : g t
            · by_cases hix : k < Y.length
              · obtain ⟨b9, o9, e9, c9⟩ := reads_nat (r9.out.ext hEj) (List.getElem?_eq_getElem hix)
                exact .inr (.inr ⟨rfl, b9, o9, Y[k], e9, hix, (pb2 hgt).1 _ (List.getElem?_eq_getElem hix), fun W hW => hW.cellOf c9⟩)
              · exact .inr (.inl ⟨rfl, hix⟩)
            · have h1 := (pb1 hgt).1
              obtain ⟨b9, o9, e9, c9⟩ := reads_nat (r9.out.ext hEj) h1
              exact .inl ⟨rfl, b9, o9, e9, (List.getElem?_eq_some_iff.1 h1).1, fun W hW => hW.cellOf c9⟩
          have hc7 : ∀ W, Ext wr W → W.cell? ⟨b7, o7 + j, none⟩ = some (.int .i64 (t : Int)) := fun W hW => hW.cellOf c7
          have HA1 := Lib.hid pa1
          have HA2 := Lib.hid pa2
          have HB1 := Lib.hid pb1
          have HB2 := Lib.hid pb2
          have HOR := Lib.hid hor
          have HC7 := Lib.hid hc7
          have tt : ((t : Int) == (t : Int)) = true := by simp
          clear pa1 pa2 pb1 pb2 hor hc7 c7 hi hk hjt
          rcases key1 with ⟨f1, b8, o8, rfl, x1, c8⟩ | ⟨f1, x1⟩ | ⟨f1, b8, o8, u8, rfl, x1, n8, c8⟩
          · have c7a := HC7.out wr (Ext.refl wr)
            have c8a := c8 wr (Ext.refl wr)
            have i1 : decide (i < X.length) = true := by rw [decide_eq_true_eq]; exact x1
            have F1 := Lib.hid f1
            clear c8 f1
            go_wp2_with fail
            go_quiet (fail)
            have hEj1 : Ext wr (wr.drewN nq) := (Ext.refl wr).drewN nq
            have hEj2' := hEj.trans hEj1
            have f1 := F1.out
            clear c7a c8a i1
            generalize wr.drewN nq = wq at *
            have c7b := HC7.out wq hEj1
            rcases key2 with ⟨g1, b9, o9, rfl, y1, c9⟩ | ⟨g1, y1⟩ | ⟨g1, b9, o9, u9, rfl, y1, n9, c9⟩
            · have c9b := c9 wq hEj1
              have k1 : decide (k < Y.length) = true := by rw [decide_eq_true_eq]; exact y1
              have G1 := Lib.hid g1
              clear c9 g1
              go_wp2_with fail
              go_quiet (fail)
              have hEj2 := hEj2'.trans ((Ext.refl wq).drewN nq)
              have g1 := G1.out
              go_wp2_with fail
              exact ⟨⟨j + 1, by omega, by go_num, by rw [(HA1.out f1).2]; go_num, by rw [(HB1.out g1).2]; go_num, hEj2⟩, by simp [intOf]; omega⟩
            · have k1 : decide (k < Y.length) = false := by rw [decide_eq_false_iff_not]; exact y1
              have G1 := Lib.hid g1
              clear g1
              go_wp2_with fail
              go_quiet (fail)
              have hEj2 := hEj2'.trans ((Ext.refl wq).drewN nq)
              have g1 := G1.out
              go_wp2_with fail
              exact ⟨⟨j + 1, by omega, by go_num, by rw [(HA1.out f1).2]; go_num, by rw [(HB2.out g1).2], hEj2⟩, by simp [intOf]; omega⟩
            · have c9b := c9 wq hEj1
              have k1 : decide (k < Y.length) = true := by rw [decide_eq_true_eq]; exact y1
              have k2 : ((u9 : Int) == (t : Int)) = false := by simp; omega
              have G1 := Lib.hid g1
              clear c9 g1
              go_wp2_with fail
              go_quiet (fail)
              have hEj2 := hEj2'.trans ((Ext.refl wq).drewN nq)
              have g1 := G1.out
              go_wp2_with fail
              exact ⟨⟨j + 1, by omega, by go_num, by rw [(HA1.out f1).2]; go_num, by rw [(HB2.out g1).2], hEj2⟩, by simp [intOf]; omega⟩
          · have c7a := HC7.out wr (Ext.refl wr)
            have i1 : decide (i < X.length) = false := by rw [decide_eq_false_iff_not]; exact x1
            have F1 := Lib.hid f1
            clear f1
            go_wp2_with fail
            go_quiet (fail)
            have hEj1 : Ext wr (wr.drewN nq) := (Ext.refl wr).drewN nq
            have hEj2' := hEj.trans hEj1
            have f1 := F1.out
            clear c7a i1
            generalize wr.drewN nq = wq at *
            have c7b := HC7.out wq hEj1
            rcases key2 with ⟨g1, b9, o9, rfl, y1, c9⟩ | ⟨g1, y1⟩ | ⟨g1, b9, o9, u9, rfl, y1, n9, c9⟩
            · have c9b := c9 wq hEj1
              have k1 : decide (k < Y.length) = true := by rw [decide_eq_true_eq]; exact y1
              have G1 := Lib.hid g1
              clear c9 g1
              go_wp2_with fail
              go_quiet (fail)
              have hEj2 := hEj2'.trans ((Ext.refl wq).drewN nq)
              have g1 := G1.out
              go_wp2_with fail
              exact ⟨⟨j + 1, by omega, by go_num, by rw [(HA2.out f1).2], by rw [(HB1.out g1).2]; go_num, hEj2⟩, by simp [intOf]; omega⟩
            · exact absurd HOR.out (by rw [f1, g1]; simp)
            · exact absurd HOR.out (by rw [f1, g1]; simp)
          · have c7a := HC7.out wr (Ext.refl wr)
            have c8a := c8 wr (Ext.refl wr)
            have i1 : decide (i < X.length) = true := by rw [decide_eq_true_eq]; exact x1
            have i2 : ((u8 : Int) == (t : Int)) = false := by simp; omega
            have F1 := Lib.hid f1
            clear c8 f1
            go_wp2_with fail
            go_quiet (fail)
            have hEj1 : Ext wr (wr.drewN nq) := (Ext.refl wr).drewN nq
            have hEj2' := hEj.trans hEj1
            have f1 := F1.out
            clear c7a c8a i1 i2
            generalize wr.drewN nq = wq at *
            have c7b := HC7.out wq hEj1
            rcases key2 with ⟨g1, b9, o9, rfl, y1, c9⟩ | ⟨g1, y1⟩ | ⟨g1, b9, o9, u9, rfl, y1, n9, c9⟩
            · have c9b := c9 wq hEj1
              have k1 : decide (k < Y.length) = true := by rw [decide_eq_true_eq]; exact y1
              have G1 := Lib.hid g1
              clear c9 g1
              go_wp2_with fail
              go_quiet (fail)
              have hEj2 := hEj2'.trans ((Ext.refl wq).drewN nq)
              have g1 := G1.out
              go_wp2_with fail
              exact ⟨⟨j + 1, by omega, by go_num, by rw [(HA2.out f1).2], by rw [(HB1.out g1).2]; go_num, hEj2⟩, by simp [intOf]; omega⟩
            · exact absurd HOR.out (by rw [f1, g1]; simp)
            · exact absurd HOR.out (by rw [f1, g1]; simp)
        · obtain rfl : j = T.length := by omega
          rw [List.take_length, HX.out, HY.out]
          have s1 : ((X.length : Int) == (X.length : Int)) = true := by simp
          have s2 : ((Y.length : Int) == (Y.length : Int)) = true := by simp
          go_wp2_with fail
          refine (wakes10_any _).mono ?_
          rintro e w10 ⟨rfl, E⟩
          go_wp2_with fail
          go_ret
          exact ⟨rfl, (hE.trans hEj).trans E⟩

theorem twice_any (aA : Option Addr) (ca : Nat) (a : List Rect) (bA : Option Addr) (cb : Nat) (b : List Rect) (wd ht : Int) (w : World) (ra : RectsAt w aA a) (rb : RectsAt w bA b) (na : aA = none → ca = 0) (nb : bA = none → cb = 0) :
    Calls Try.prog 12 #[.slice aA a.length ca, .slice bA b.length cb, .int .i64 wd, .int .i64 ht] w fun e w' => e = .returned (.bool true) ∧ Ext w w' := by
  by_cases h1 : a.length ≤ 16
  · by_cases h2 : b.length ≤ 16
    · exact twice_in aA bA ca cb a b wd ht w (Lib.hid ra) (Lib.hid rb) na nb h1 h2
    · have d1 : ((16 : Int) < a.length) = False := by simp; omega
      have d2 : ((16 : Int) < b.length) = True := by simp; omega
      clear ra rb
      go_enter Try.func12, Try.ntmps12
      go_wp2_with fail
      refine (wakes10_any _).mono ?_
      rintro e w1 ⟨rfl, hE⟩
      go_wp2_with fail
      go_ret
      exact ⟨rfl, hE⟩
  · have d1 : ((16 : Int) < a.length) = True := by simp; omega
    clear ra rb
    go_enter Try.func12, Try.ntmps12
    go_wp2_with fail
    refine (wakes10_any _).mono ?_
    rintro e w1 ⟨rfl, hE⟩
    go_wp2_with fail
    go_ret
    exact ⟨rfl, hE⟩
end Go.Proofs.Ytilcggkbancniaa
