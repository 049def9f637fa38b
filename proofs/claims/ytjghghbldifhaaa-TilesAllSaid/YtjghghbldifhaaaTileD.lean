/- tiles.Touched: a map's keys, sorted. -/
import Derived.Test.YtjghghbldifhaaaTileC
import Derived.Test.YtjghghbldifhaaaShelfB
import Derived.Maps.OwnIn
set_option linter.unusedVariables false
set_option linter.unusedSimpArgs false
namespace Go.Proofs.Ytjghghbldifhaaa
open Go.RowKit Go.Shelf Go.Maps
attribute [local go_sem] Oper.semAt_some

theorem sorts_any (m : Nat) : AnyZI.SortsIn Try.prog Try.laySorted_ren Fence.wide m :=
  ⟨fun blk off cap ss W hH hblk hsz => callsIn_wide.2 (AnyM.slices_Sort_int Try.laySortM blk off cap ss W hH hblk hsz),
   fun p cap W => callsIn_wide.2 (AnyM.slices_Sort_int_none Try.laySortM p cap W)⟩
theorem keys_any (mb : Option Nat) (W : World) : Calls Try.prog 97 #[.map mb] W fun e w' => e = .returned (.func (.func 124) #[] #[.pointer (some ⟨W.heap.size, 0, none⟩)]) ∧ w' = W.alloc (.cells #[.map mb] 103) :=
  callsIn_wide.1 (AnyZI.keys_in Try.layKeys Fence.wide 5 trivial rfl mb W)
theorem sorted_any {H : Type} (b nn : Nat) (D0 : DataW H) (R : Value → Option (DataW H × List MemPlace)) (w : World) (hown : w.ownsMap Try.prog 3 R b nn D0) (hmax : Maps.size D0 ≤ maxLen) (hbytes : Maps.size D0 * 8 ≤ 140737488355328) (G : Nat) (hG : G < w.heap.size) (hm : w.cell? ⟨G, 0, none⟩ = some (.map (some b))) :
    Calls Try.prog 96 #[.func (.func 124) #[] #[.pointer (some ⟨G, 0, none⟩)]] w fun e w' => ∃ (v : Value) (ss : List Int), e = .returned v ∧ ss.Perm (intKeys D0) ∧
      w'.ownsRow w.heap.size 3 1 v ss.length ((ss.mergeSort (fun x y => decide (x ≤ y))).map encZ) ∧ (v = .slice none 0 0 ↔ ss = []) ∧ Below w.heap.size w w' := by
  have hseq : SeqGives Fence.wide 2 Try.prog 124 #[.pointer (some ⟨G, 0, none⟩)] encZ (fun ss => ss.Perm (intKeys D0)) (Maps.size D0) w :=
    AnyZI.keys_gives (ρ := Try.layKeys_ren) { Try.layKeys with } Fence.wide _ trivial rfl (by omega) G b nn D0 _ hG hm hown
  exact callsIn_wide.1 (AnyZI.sorted_in Try.laySorted Fence.wide 5 trivial trivial trivial trivial rfl (by omega) (sorts_any _) (enters_of Try.func123 (by kernel_rfl) rfl) 124 #[.pointer (some ⟨G, 0, none⟩)] trivial (enters_of Try.func124 (by kernel_rfl) rfl) _ _ hmax hbytes _ hseq)

/-- Has a list a pixel of a rectangle? -/
def touchB (l : List Rect) (t : Rect) : Bool := l.any fun r => !(r.and t).empty
def touchedOf (l : List Rect) (w h : Int) : List Nat := (List.range (tileN w h)).filter fun i => touchB l (tileR w h i)
def natsI (l : List Nat) : List Int := l.map fun i : Nat => (i : Int)
theorem touchB_snoc (l : List Rect) (r t : Rect) : touchB (l ++ [r]) t = (touchB l t || !(r.and t).empty) := by simp [touchB]
/-- What a set has, as a map. -/
def KeysD {H : Type} (D : DataW H) (S : Nat → Prop) : Prop := ∀ x : Int, has D (.int .i64 x) = true ↔ ∃ i : Nat, x = i ∧ S i
theorem KeysD.put {H : Type} {D : DataW H} {S : Nat → Prop} (hm : IsMap D) (h : KeysD D S) (j : Nat) (d : DataW H) : KeysD (D.put (.int .i64 (j : Int)) d) (fun i => S i ∨ i = j) := fun x => by
  by_cases hx : x = j
  · subst hx
    rw [has_put_same hm (by simp [WideAt.IsKeyLit])]
    exact ⟨fun _ => ⟨j, rfl, .inr rfl⟩, fun _ => rfl⟩
  · rw [has_put_other (fun e => hx (by injection e))]
    rw [h x]
    constructor
    · rintro ⟨i, h1, h2⟩
      exact ⟨i, h1, .inl h2⟩
    · rintro ⟨i, h1, h2 | h2⟩
      · exact ⟨i, h1, h2⟩
      · exact absurd (by rw [h1, h2]) hx
theorem KeysD.congr {H : Type} {D : DataW H} {S T : Nat → Prop} (h : KeysD D S) (hST : ∀ i, S i ↔ T i) : KeysD D T := fun x => by
  rw [h x]
  constructor
  · rintro ⟨i, h1, h2⟩
    exact ⟨i, h1, (hST i).1 h2⟩
  · rintro ⟨i, h1, h2⟩
    exact ⟨i, h1, (hST i).2 h2⟩
/-- The keys, sorted. -/
theorem sorted_keys {H : Type} {D : DataW H} {R : Value → Option (DataW H × List MemPlace)} {w : World} {b n : Nat} (hown : w.ownsMap Try.prog 3 R b n D) {T : List Nat} (hT : T.Pairwise (· < ·)) (hk : KeysD D (· ∈ T)) {ss : List Int} (hs : ss.Perm (intKeys D)) : ss.mergeSort (fun x y => decide (x ≤ y)) = natsI T := by
  have hnd : (natsI T).Nodup := by
    unfold natsI
    refine List.pairwise_map.2 (hT.imp fun {a b} hab e => ?_)
    omega
  have hp : (natsI T).Perm (intKeys D) := CollectedI.perm (left := fun _ => false) ⟨hnd, fun x => by
    rw [hk x]
    unfold natsI
    rw [List.mem_map]
    constructor
    · rintro ⟨i, h1, h2⟩
      exact ⟨⟨i, h2.symm, h1⟩, rfl⟩
    · rintro ⟨⟨i, h1, h2⟩, _⟩
      exact ⟨i, h2, h1.symm⟩⟩ hown (Maps.int_keyed Try.underlying3) Try.underlying3 (fun _ => rfl)
  have h1 := mergeSort_of_perm_i (hs.trans hp.symm)
  show ss.mergeSort leI = _
  rw [h1]
  refine List.mergeSort_of_pairwise ?_
  unfold natsI
  refine List.pairwise_map.2 (hT.imp fun {a b} hab => ?_)
  simp
  omega
theorem touchedOf_sorted (l : List Rect) (w h : Int) : (touchedOf l w h).Pairwise (· < ·) := List.Pairwise.filter _ List.pairwise_lt_range
theorem touchedOf_mem {l : List Rect} {w h : Int} {i : Nat} : i ∈ touchedOf l w h ↔ i < tileN w h ∧ touchB l (tileR w h i) = true := by
  unfold touchedOf
  rw [List.mem_filter, List.mem_range]
theorem touchedOf_length (l : List Rect) (w h : Int) : (touchedOf l w h).length ≤ 256 := by
  have h1 := List.length_filter_le (fun i => touchB l (tileR w h i)) (List.range (tileN w h))
  rw [List.length_range] at h1
  exact Nat.le_trans h1 (tileN_bd w h)
/-- A call hands back a list of numbers, a row of its own. -/
def GivesN (T : List Int) (w : World) (e : Ending) (w' : World) : Prop := ∃ B d, e = .returned (.slice B T.length d) ∧ w'.ownsRow w.heap.size 3 1 (.slice B T.length d) T.length (nums .i64 T) ∧ Ext w w'

theorem ownsMap_ext {H : Type} {W W2 : World} {R : Value → Option (DataW H × List MemPlace)} {b n : Nat} {D : DataW H} {k : TypeId} (h : W.ownsMap Try.prog k R b n D) (hE : Ext W W2) : W2.ownsMap Try.prog k R b n D := by
  have hbl := h.lt
  obtain ⟨es, clock, hb, Ft, hs, hD⟩ := h
  exact ⟨es, clock, (hE.block b hbl).trans hb, Ft, hs, hD⟩
theorem nat_wf {i : Nat} (h : i ≤ 1000000) : (Lit.int .i64 (i : Int)).wf = true := by
  show (decide (IntKind.i64.min ≤ (i : Int)) && decide ((i : Int) ≤ IntKind.i64.max)) = true
  rw [show IntKind.i64.min = -9223372036854775808 from rfl, show IntKind.i64.max = 9223372036854775807 from rfl, Bool.and_eq_true, decide_eq_true_eq, decide_eq_true_eq]
  omega
/-- Ahead of a round of Touched: the list's box, the map's, the map. -/
structure TouchAt (w W : World) (bs : Nat) (v : Value) (n : Nat) (D : DataW Unit) : Prop where
  kl : W.heap[w.heap.size]? = some (.cells #[v] 22 (0, 0))
  km : W.heap[w.heap.size + 1 + 1]? = some (.cells #[.map (some (w.heap.size + 1))] 103 (0, 0))
  own : W.ownsMap Try.prog 3 (plainElem Try.prog 4) (w.heap.size + 1) n D
  ext : Ext w W
  size : bs ≤ W.heap.size
  sb : w.heap.size + 2 < bs
section
variable {w W W2 : World} {bs n n' : Nat} {v : Value} {D D' : DataW Unit}
theorem TouchAt.keep (h : TouchAt w W bs v n D) (hE : Ext W W2) : TouchAt w W2 bs v n D :=
  ⟨hE.keep h.kl, hE.keep h.km, ownsMap_ext h.own hE, h.ext.trans hE, Nat.le_trans h.size hE.size, h.sb⟩
theorem TouchAt.turn (h : TouchAt w W bs v n D) {row : Option Nat} (hg : W.grownBy W2 row) (hr : ∀ r, row = some r → bs ≤ r ∧ ∃ o : Obj, W.heap[r]? = some o ∧ o.isCells = false) : TouchAt w W2 bs v n D :=
  ⟨heap_turn hg (fun r e => (hr r e).2) h.kl, heap_turn hg (fun r e => (hr r e).2) h.km, h.own.kept hg (fun e => by have := (hr _ e.symm).1; have := h.sb; omega), Below.grown h.ext hg h.ext.size (fun r e => by have := (hr r e).1; have := h.sb; omega), Nat.le_trans h.size hg.size, h.sb⟩
theorem TouchAt.put (h : TouchAt w W bs v n D) (hg : W.grownBy W2 (some (w.heap.size + 1))) (ho : W2.ownsMap Try.prog 3 (plainElem Try.prog 4) (w.heap.size + 1) n' D') : TouchAt w W2 bs v n' D' :=
  ⟨(hg.block _ (blk_lt h.kl) (fun e => by injection e; omega)).trans h.kl, (hg.block _ (blk_lt h.km) (fun e => by injection e; omega)).trans h.km, ho, Below.grown h.ext hg h.ext.size (fun r e => by injection e; omega), Nat.le_trans h.size hg.size, h.sb⟩
end

set_option maxRecDepth 100000 in
set_option maxHeartbeats 16000000 in
theorem touched_any (aA : Option Addr) (ca : Nat) (l : List Rect) (wd ht : Int) (w : World) (hl : RectsAt w aA l) (hal : l.length ≤ 1000000) : Calls Try.prog 42 #[.slice aA l.length ca, .int .i64 wd, .int .i64 ht] w (GivesN (natsI (touchedOf l wd ht)) w) := by
  have hmm := @run_makeMap Try.prog
  refine (callsIn_wide (n := 5)).1 ?_
  refine callsIn_of_wp_marks Try.func42 rfl trivial ?_ rfl
  simp only [Try.ntmps42, List.size_toArray, List.length_cons, List.length_nil, Nat.reduceAdd, Nat.reduceSub, Array.replicate_succ, Array.replicate_zero, List.push_toArray, List.append_toArray, List.nil_append, List.cons_append]
  gi_wp2
  refine ⟨trivial, (callsIn_wide.2 (each_any wd ht _)).mono ?_⟩
  rintro e w1 ⟨rfl, rfl⟩
  gi_wp2
  generalize hw0 : ((((w.alloc (.cells #[.slice aA l.length ca] 22)).alloc (.map #[] 0)).alloc (.cells #[.map (some (w.heap.size + 1))] 103)).alloc (.cells #[.int .i64 wd] 3)).alloc (.cells #[.int .i64 ht] 3) = w0
  have hm0 : ((w.alloc (.cells #[.slice aA l.length ca] 22)).alloc (.map #[] 0)).ownsMap Try.prog 3 (plainElem (H := Unit) Try.prog 4) (w.heap.size + 1) 0 (.map []) := by
    have := World.ownsMap_made (w.alloc (.cells #[.slice aA l.length ca] 22)) Try.prog 3 (plainElem (H := Unit) Try.prog 4)
    simpa using this
  have hT0 : TouchAt w w0 (w.heap.size + 5) (.slice aA l.length ca) 0 (.map []) := by
    rw [← hw0]
    exact ⟨blk_old (blk_old (blk_old (blk_old (blk_newL w [] (.cells #[.slice aA l.length ca] 22)) _) _) _) _, blk_old (blk_old (blk_newL w [(.cells #[.slice aA l.length ca] 22), (.map #[] 0)] (.cells #[.map (some (w.heap.size + 1))] 103)) _) _, ((hm0.alloc _).alloc _).alloc _, (((((Ext.refl w).alloc _).alloc _).alloc _).alloc _).alloc _, by simp, by omega⟩
  have k1 : w0.heap[w.heap.size + 1 + 1 + 1]? = some (.cells #[.int .i64 wd] 3 (0, 0)) := by rw [← hw0]; exact blk_old (blk_newL w [(.cells #[.slice aA l.length ca] 22), (.map #[] 0), (.cells #[.map (some (w.heap.size + 1))] 103)] (.cells #[.int .i64 wd] 3)) _
  have k2 : w0.heap[w.heap.size + 1 + 1 + 1 + 1]? = some (.cells #[.int .i64 ht] 3 (0, 0)) := by rw [← hw0]; exact blk_newL w [(.cells #[.slice aA l.length ca] 22), (.map #[] 0), (.cells #[.map (some (w.heap.size + 1))] 103), (.cells #[.int .i64 wd] 3)] (.cells #[.int .i64 ht] 3)
  have hs0 : w0.heap.size = w.heap.size + 5 := by rw [← hw0]; simp
  have hNb := tileN_bd wd ht
  clear hw0 hm0
  refine wpIn_rangeFunc_ownH (F := Fence.wide) (n := 5) (α := Fin (tileN wd ht)) rfl (by decide) (gf := 121) (lb := #[.pointer (some ⟨w.heap.size + 1 + 1 + 1, 0, none⟩), .pointer (some ⟨w.heap.size + 1 + 1 + 1 + 1, 0, none⟩)]) rfl trivial (enters_of Try.func121 (by kernel_rfl) rfl)
    (each_stops 4 (by decide) _ _ wd ht w0 (fun k => k ≠ w.heap.size + 1) (by omega) (by omega) k1 k2) KeptP.trans (fun W l o o' _ h ho _ => keptP_b _ W l o o' h ho) (Below.refl _ _) (fun _ => rfl)
    (fun pre W1 => ∃ D n, n ≤ pre.length * l.length ∧ TouchAt w W1 (w.heap.size + 5) (.slice aA l.length ca) n D ∧ KeysD D (fun i => i ∈ pre.map Fin.val ∧ touchB l (tileR wd ht i) = true))
    (fun _ _ _ => False)
    (fun s A' B' row hs hg hr => by
      obtain ⟨D, n, hn, hs, hk⟩ := hs
      exact ⟨D, n, hn, hs.turn hg (fun r e => ⟨by have := (hr r e).1; omega, (hr r e).2⟩), hk⟩)
    (fun _ _ _ _ _ hs _ _ => hs)
    ⟨.map [], 0, Nat.zero_le _, hT0, fun x => by simp [has]⟩
    (fun i a' W => ∃ Bx, w0.heap.size ≤ Bx ∧ W.heap[Bx]? = some (.cells #[.int .i64 (tileR wd ht i.val).x, .int .i64 (tileR wd ht i.val).y, .int .i64 (tileR wd ht i.val).w, .int .i64 (tileR wd ht i.val).h] 26 (0, 0)) ∧ a' = { tmps := #[.slice aA l.length ca, .int .i64 wd, .int .i64 ht, .pointer (some ⟨w.heap.size, 0, none⟩), undef, undef, .slice none 0 0, .pointer (some ⟨w.heap.size + 1 + 1, 0, none⟩), .int .i64 i.val, .pointer (some ⟨Bx, 0, none⟩), undef, undef, .map (some (w.heap.size + 1)), .int .i64 wd, .int .i64 ht, .func (.func 121) #[] #[.pointer (some ⟨w.heap.size + 1 + 1 + 1, 0, none⟩), .pointer (some ⟨w.heap.size + 1 + 1 + 1 + 1, 0, none⟩)], .int .i64 i.val, .agg #[.int .i64 (tileR wd ht i.val).x, .int .i64 (tileR wd ht i.val).y, .int .i64 (tileR wd ht i.val).w, .int .i64 (tileR wd ht i.val).h], undef, undef, undef, undef, undef, undef, undef, undef, undef, undef, undef, undef, undef, undef, undef, undef, undef], defers := [] })
    (fun i a' => cells_turn _ _ _ _ _)
    ?assign ?body ?done ?stop
  case assign =>
    rintro m pre x W K ⟨D, n, hn, hT, hk⟩ hK
    dsimp only [tileArgs]
    gi_wp2
    exact hK _ _ ((KeepsOthers.alloc _ _).from _) (KeptP.of_ext ((Ext.refl W).alloc _)) ⟨D, n, hn, hT.keep ((Ext.refl W).alloc _), hk⟩ ⟨W.heap.size, by have := hT.size; omega, blk_new W _, rfl⟩
  case body =>
    rintro m pre x a' W hl0 ⟨r0, hr0⟩ ⟨D, n, hn, hT, hk⟩ ⟨Bx, hBx, kX, rfl⟩ hlt
    obtain ⟨c0, f0⟩ := blk_rules hT.kl
    have hNN : pre.length * l.length ≤ 256 * 1000000 := Nat.mul_le_mul (by omega) hal
    obtain ⟨N0, hN0⟩ : ∃ N0, pre.length * l.length = N0 := ⟨_, rfl⟩
    rw [hN0] at hn hNN
    obtain ⟨q, hq⟩ : ∃ q, tileR wd ht x.val = q := ⟨_, rfl⟩
    simp only [hq] at kX ⊢
    have HT := Lib.hid hT
    have HK := Lib.hid hk
    have HQ := Lib.hid hq
    have HN0 := Lib.hid hN0
    clear hT hk hq hN0
    gi_wp2
    gi_loopw [20] (fun kv wr => ∃ (k : Nat) (D : DataW Unit) (n : Nat), k ≤ l.length ∧ kv = .int .i64 k ∧ n ≤ N0 + k ∧ TouchAt w wr (w.heap.size + 5) (.slice aA l.length ca) n D ∧ KeysD D (fun i => (i ∈ pre.map Fin.val ∧ touchB l (tileR wd ht i) = true) ∨ i = x.val ∧ touchB (l.take k) q = true) ∧ KeepsFrom w0.heap.size W wr ∧ KeptP (fun k => k ≠ w.heap.size + 1) W wr) (fun kv _ => l.length - (intOf kv).toNat)
    case atStart => exact ⟨0, D, n, Nat.zero_le _, rfl, by omega, HT.out, HK.out.congr fun i => by simp [touchB], KeepsFrom.refl _ _, KeptP.refl _ _⟩
    case round =>
      clear c0 f0 hn
      obtain ⟨k, D, n, hk, rfl, hn, hT, hD, hkf, hkp⟩ := hrel
      have kXr := hkp Bx _ _ _ (by omega) kX
      by_cases hlt2 : k < l.length
      · obtain ⟨b, off, rfl, hc⟩ := (hl.ext hT.ext).form (by omega)
        obtain ⟨h0, h1, h2, h3⟩ := hc k l[k] (List.getElem?_eq_getElem hlt2)
        have ht := List.take_succ_eq_append_getElem hlt2
        clear hc
        generalize l[k] = r at *
        have hsn := touchB_snoc (l.take k) r q
        rw [← ht] at hsn
        obtain ⟨mt, hmt⟩ : ∃ mt, r.and q = mt := ⟨_, rfl⟩
        have hand := fun W => and_any r.x r.y r.w r.h q.x q.y q.w q.h W
        have hemp := fun W => empty_any mt.x mt.y mt.w mt.h W
        simp only [show Rect.mk r.x r.y r.w r.h = r from rfl, show Rect.mk q.x q.y q.w q.h = q from rfl, show Rect.mk mt.x mt.y mt.w mt.h = mt from rfl, hmt] at hand hemp
        rw [hmt] at hsn
        obtain ⟨cX, fX⟩ := blk_rules kXr
        have zX := blk_lt kXr
        have HT2 := Lib.hid hT
        have HD2 := Lib.hid hD
        have HKF := Lib.hid hkf
        have HKP := Lib.hid hkp
        have HSN := Lib.hid hsn
        clear hT hD hkf hkp ht hmt hsn kX
        gi_wp2
        refine ⟨trivial, (calls_in m (hand _)).mono ?_⟩
        rintro e W2 ⟨rfl, E2⟩
        have hE2 : Ext wr W2 := ((Ext.refl wr).alloc _).trans E2
        clear E2 cX fX zX h0 h1 h2 h3 hand
        cases hem : mt.empty
        · rw [hem] at hemp HSN
          gi_wp2
          refine ⟨trivial, (calls_in m (hemp _)).mono ?_⟩
          rintro e W3 ⟨rfl, E3⟩
          have hE3 := hE2.trans E3
          have hT3 := HT2.out.keep hE3
          have hown := hT3.own
          obtain ⟨cm, fm⟩ := blk_rules hT3.km
          have hxs : (x.val : Nat) ≤ 1000000 := by have := x.isLt; omega
          clear E3 hE2 hemp
          gi_wp2_with (gi_at_mapUpdate; refine wpListIn_mapUpdate_own _ rfl _ _ _ 103 rfl 3 4 (Maps.int_keyed Try.underlying3) Try.underlying103 _ (w.heap.size + 1) n _ rfl hown (by simp only [maxLen]; omega) _ _ _ rfl rfl (Maps.keyOf_int_mk Try.underlying3 (nat_wf hxs)) _ [] (plainElem_bool Try.underlying4 true) ?_; intro w6 hown6 hgrow6)
          have hT6 := hT3.put hgrow6 hown6
          go_roundw
          case rel => exact ⟨k + 1, _, n + 1, by omega, by go_num, by omega, hT6, (KeysD.put hown.isMap HD2.out x.val _).congr fun i => (by
            rw [HSN.out, show (!false) = true from rfl, Bool.or_true]
            constructor
            · rintro ((h | ⟨h, _⟩) | h)
              · exact .inl h
              · exact .inr ⟨h, rfl⟩
              · exact .inr ⟨h, rfl⟩
            · rintro (h | ⟨h, _⟩)
              · exact .inl (.inl h)
              · exact .inr h), HKF.out.trans (((KeepsOthers.of_ext hE3).from _).trans (KeepsFrom.of_grownBy hgrow6 (fun j e => by injection e; omega))), (HKP.out.trans (KeptP.of_ext hE3)).trans (KeptP.of_grown hgrow6 fun r e h => by injection e; omega)⟩
          case measure => simp [intOf]; omega
        · rw [hem] at hemp HSN
          gi_wp2
          refine ⟨trivial, (calls_in m (hemp _)).mono ?_⟩
          rintro e W3 ⟨rfl, E3⟩
          have hE3 := hE2.trans E3
          clear E3 hE2 hemp
          gi_wp2
          go_roundw
          case rel => exact ⟨k + 1, D, n, by omega, by go_num, by omega, HT2.out.keep hE3, HD2.out.congr fun i => by rw [HSN.out]; simp, HKF.out.trans ((KeepsOthers.of_ext hE3).from _), HKP.out.trans (KeptP.of_ext hE3)⟩
          case measure => simp [intOf]; omega
      · obtain rfl : k = l.length := by omega
        gi_wp2
        refine ⟨hkf, hkp, D, n, ?_, hT, hD.congr fun i => ?_⟩
        · rw [List.length_append, List.length_cons, List.length_nil, Nat.add_mul, HN0.out]; omega
        · rw [List.take_length, ← HQ.out]
          simp
          constructor
          · rintro (⟨⟨a, h1, h2⟩, h3⟩ | ⟨rfl, h3⟩)
            · exact ⟨.inl ⟨a, h1, h2⟩, h3⟩
            · exact ⟨.inr rfl, h3⟩
          · rintro ⟨⟨a, h1, h2⟩ | rfl, h3⟩
            · exact .inl ⟨⟨a, h1, h2⟩, h3⟩
            · exact .inr ⟨rfl, h3⟩
  case done =>
    rintro D1 zs W1 hD hzs ⟨D, n, hn, hT, hk⟩ hK
    obtain ⟨c0, f0⟩ := blk_rules hT.km
    have hzl : zs.length = tileN wd ht := by
      have := congrArg List.length hzs
      rwa [List.length_map, List.length_range] at this
    have hn2 : n ≤ 256 * 1000000 := Nat.le_trans hn (Nat.mul_le_mul (by omega) hal)
    have hsz := World.ownsMap.size_le hT.own
    have hkey : KeysD D (· ∈ touchedOf l wd ht) := hk.congr fun i => by
      rw [hzs, List.mem_range, touchedOf_mem]
    have HT := Lib.hid hT
    have HK := Lib.hid hkey
    have hDl := blk_lt hK
    clear hT hk hkey hn hzs
    gi_wp2
    refine ⟨trivial, (callsIn_wide.2 (keys_any _ _)).mono ?_⟩
    rintro e W2 ⟨rfl, rfl⟩
    have hT2 := HT.out.keep ((Ext.refl W1).alloc (.cells #[.map (some (w.heap.size + 1))] 103))
    have hcon := sorted_any (w.heap.size + 1) n D _ _ hT2.own (by simp only [maxLen]; omega) (by omega) W1.heap.size (by simp) (by simp [(blk_rules (blk_new W1 (.cells #[.map (some (w.heap.size + 1))] 103))).1 0])
    have HT2 := Lib.hid hT2
    clear hT2 c0 f0
    gi_wp2
    refine ⟨trivial, (callsIn_wide.2 hcon).mono ?_⟩
    rintro e W3 ⟨v, ss, rfl, hperm, hrow, hnil, hb⟩
    have hsk := sorted_keys HT2.out.own (touchedOf_sorted l wd ht) HK.out hperm
    have hsl : ss.length = (natsI (touchedOf l wd ht)).length := by rw [← hsk, List.length_mergeSort]
    rw [hsk, hsl] at hrow
    obtain ⟨A, c, rfl⟩ := row_slice hrow
    replace hb : Ext (W1.alloc (.cells #[.map (some (w.heap.size + 1))] 103)) W3 := hb
    have hE3 : Ext W1 W3 := ((Ext.refl W1).alloc _).trans hb
    have hK3 : W3.heap[D1]? = some (.deferred (some [])) := (hE3.block D1 hDl).trans hK
    have HROW := Lib.hid hrow
    clear hrow hnil hperm hsk hcon hK hb
    gi_wp2
    refine ⟨by simp, .inl ⟨_, _, rfl, run_takeDeferred hK3, ?_⟩⟩
    have hg := grownBy_putObj' W3 D1 (.deferred none)
    have hr : ∀ r, some D1 = some r → ∃ o : Obj, W3.heap[r]? = some o ∧ o.isCells = false := fun r e => by cases e; exact ⟨_, hK3, rfl⟩
    have hrow2 := row_turn hg hr HROW.out
    refine ⟨_, results_tmp rfl _ _ _, A, c, rfl, World.ownsRow.base_le hrow2 (by have := HT2.out.ext.size; simpa using this), Below.grown (HT.out.ext.trans hE3) hg (HT.out.ext.trans hE3).size (fun r e => by injection e; omega)⟩
  case stop =>
    rintro D c pre W1 _ _ h _
    exact h.elim
end Go.Proofs.Ytjghghbldifhaaa
