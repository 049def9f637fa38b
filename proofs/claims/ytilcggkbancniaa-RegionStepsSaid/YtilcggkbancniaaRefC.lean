/- The walks of package vignetteref03: a picture, told by the reference, pixel by pixel: Is, Own, Has. -/
import Derived.Test.YtilcggkbancniaaPixK
import Derived.Test.YtilcggkbancniaaApp
import Derived.Deep.RegionLaw
set_option linter.unusedVariables false
set_option linter.unusedSimpArgs false
namespace Go.Proofs.Ytilcggkbancniaa
open Go.RowKit

theorem row_slice {W : World} {base size n : Nat} {e : TypeId} {v : Value} {xs : List Value} (h : W.ownsRow base e size v n xs) : ∃ A c, v = .slice A n c := by
  rcases h.2 with ⟨h1, h0⟩ | ⟨g', cap, cur, e1, _⟩
  · exact ⟨none, 0, by rw [h1, h0]⟩
  · exact ⟨_, _, e1⟩
section
variable {P : Program} {ops : Array Oper} {o : Oper} {a : Act} {K : Act → World → Prop} {Q : Exit → Act → World → Prop} {E : Prop} {w : World}
/-- append onto a row of the call's own, at a step of a region that draws. -/
theorem step_app (base : Nat) (hgd : o.guard = none) (s x : Operand) (t e : TypeId) (z : Value) (size bytes : Nat)
    (ho : o.op = .call { callee := .builtin .append, args := #[s, x], argTypes := #[t, t] })
    (ht : P.underlying t = some (.slice e)) (hinfo : (P.info? e).map (fun i => (i.zero, i.size, i.bytes)) = some (some z, size, bytes))
    (hzs : z.cells.size = size) (hsz : 0 < size) (hby : 0 < bytes) (v : Value) (n : Nat) (xs : List Value) (hs : a.eval s = v) (hown : w.ownsRow base e size v n xs)
    (A : Option Addr) (m c : Nat) (news : List Value) (hx : a.eval x = .slice A m c) (hc : A = none → c = 0) (hl : news.length = m * size) (hnews : Shows w A news) (h1 : ∀ u ∈ news, u.oneCell' = true)
    (hbytes : (n + m) * bytes ≤ 140737488355328) (hbase : base ≤ w.heap.size)
    (h : ∀ A' c' w', w'.ownsRow base e size (.slice A' (n + m) c') (n + m) (xs ++ news) → w.grownBy w' v.ownBlock → K (a.put o.dst (.slice A' (n + m) c')) w') :
    if Region.wanted o (yielded ops a.tmps) = true then Oper.wp P o a w K Q else E := by
  have hw : Region.wanted o (yielded ops a.tmps) = true := by simp [Region.wanted, hgd]
  rw [if_pos hw]
  obtain ⟨v', w', hr, h2, h3⟩ := run_app (P := P) (w := w) base t o.type e z size bytes ht hinfo hzs hsz hby v n xs hown A m c news hc hl hnews h1 hbytes hbase
  unfold Oper.wp
  simp only [execOp, ho, resolve, invoke, builtin, Sem.run_bind, Sem.run_pure, Result.andThen_ok, List.map_toArray, List.map_cons, List.map_nil, hs, hx, hr]
  obtain ⟨A', c', rfl⟩ := row_slice h2
  exact h A' c' w' h2 h3
end

set_option maxHeartbeats 1000000 in
theorem ris_any (W H : Int) (A : Option Addr) (c n : Nat) (w : World) :
    Calls Try.prog 18 #[.agg #[.int .i64 W, .int .i64 H, .slice A n c]] w fun e w' => e = .returned (.bool (isPic W H n)) ∧ Ext w w' := by
  by_cases h : 1 ≤ W ∧ W ≤ 256 ∧ 1 ≤ H ∧ H ≤ 256
  · obtain ⟨h1, h2, h3, h4⟩ := h
    obtain ⟨m1, m2⟩ := mul_bd h1 h2 h3 h4
    have hp : isPic W H n = decide ((n : Int) = W * H) := by simp [isPic, h1, h2, h3, h4]
    rw [hp]
    clear hp
    go_enter Try.func18, Try.ntmps18
    go_wp2
    go_ret
    exact ⟨rfl, (Ext.refl _).alloc _⟩
  · have hp : isPic W H n = false := by
      cases hq : isPic W H n
      · rfl
      · simp [isPic] at hq; omega
    rw [hp]
    go_enter Try.func18, Try.ntmps18
    go_wp2
    all_goals
      go_ret
      exact ⟨rfl, (Ext.refl _).alloc _⟩

theorem row_block {W : World} {base size n : Nat} {e : TypeId} {v : Value} {xs : List Value} (h : W.ownsRow base e size v n xs) {g : Nat} (hg : v.ownBlock = some g) : base ≤ g ∧ ∃ cur, W.heap[g]? = some (.cells cur e (0, 0)) := by
  rcases h.2 with ⟨h1, _⟩ | ⟨g', cap, cur, e1, e2, e3, _⟩
  · rw [h1] at hg; simp [Value.ownBlock] at hg
  · rw [e1] at hg
    have : g' = g := by simpa [Value.ownBlock] using hg
    subst this
    exact ⟨e2, cur, e3⟩
/-- A store into a block of another type leaves the row. -/
theorem row_set {W : World} {base size n : Nat} {e t : TypeId} {v : Value} {xs : List Value} (h : W.ownsRow base e size v n xs) {b : Nat} {cs : Array Value} {fr : Nat × Nat} (hb : W.heap[b]? = some (.cells cs t fr)) (hne : t ≠ e) (o : Nat) (x : Value) : (W.setCell ⟨b, o, none⟩ x).ownsRow base e size v n xs :=
  World.ownsRow.kept h (row := some b) ⟨rfl, rfl, rfl, by simp [World.setCell], fun k _ hk => Below.heap_setCell W ⟨b, o, none⟩ x k (fun e => hk (by rw [e]))⟩ (.inr (fun e1 => by
    obtain ⟨_, cur, hc⟩ := row_block h e1
    rw [hb] at hc; injection hc with hc; injection hc with _ hc _; exact hne hc))
/-- Behind an append to a row of the call's own: a block of another type stays. -/
theorem row_far {W W' : World} {base size n : Nat} {e t : TypeId} {v : Value} {xs : List Value} (h : W.ownsRow base e size v n xs) (hg : W.grownBy W' v.ownBlock) {b : Nat} {cs : Array Value} {fr : Nat × Nat} (hb : W.heap[b]? = some (.cells cs t fr)) (hne : t ≠ e) : W'.heap[b]? = some (.cells cs t fr) :=
  (hg.block b (blk_lt hb) (fun e1 => by
    obtain ⟨_, cur, hc⟩ := row_block h e1.symm
    rw [hb] at hc; injection hc with hc; injection hc with _ hc _; exact hne hc)).trans hb
theorem row_ext {w W W' : World} {size n : Nat} {e : TypeId} {v : Value} {xs : List Value} (h : W.ownsRow w.heap.size e size v n xs) (hE : Ext w W) (hg : W.grownBy W' v.ownBlock) : Ext w W' :=
  Below.grown hE hg hE.size (fun r e1 => (row_block h e1).1)

set_option maxHeartbeats 2000000 in
theorem rown_any (W H : Int) (A : Option Addr) (c : Nat) (xs : List Int) (w : World) (hr : Reads .u32 w A xs) (hx : ∀ x ∈ xs, 0 ≤ x ∧ x ≤ 4294967295) (hn : xs.length ≤ 65536) :
    Calls Try.prog 22 #[.agg #[.int .i64 W, .int .i64 H, .slice A xs.length c]] w fun e w' => ∃ B d, e = .returned (.agg #[.int .i64 W, .int .i64 H, .slice B xs.length d]) ∧ w'.ownsRow w.heap.size 35 1 (.slice B xs.length d) xs.length (nums .u32 (xs.map cut24)) ∧ Ext w w' := by
  go_enter Try.func22, Try.ntmps22
  go_wp2_with fail
  go_loopw [4] (fun i wr => ∃ (k : Nat) (B : Option Addr) (d : Nat), k ≤ xs.length ∧ i = .int .i64 k ∧ Ext w wr ∧ wr.heap[w.heap.size]? = some (.cells #[.int .i64 W, .int .i64 H, .slice A xs.length c] 24 (0, 0)) ∧ wr.heap[w.heap.size + 1]? = some (.cells #[.int .i64 0, .int .i64 0, .slice none 0 0] 24 (0, 0)) ∧ wr.heap[w.heap.size + 1 + 1]? = some (.cells #[.int .i64 W, .int .i64 H, .slice B k d] 24 (0, 0)) ∧ wr.ownsRow w.heap.size 35 1 (.slice B k d) k (nums .u32 ((xs.take k).map cut24))) (fun i _ => xs.length - (intOf i).toNat)
  case atStart => exact ⟨0, none, 0, Nat.zero_le _, rfl, ((((Ext.refl w).alloc _).alloc _).alloc _), blk_old (blk_old (blk_new _ _) _) _, blk_old (blk_new1 _ _ _) _, blk_new2 _ _ _ _, World.ownsRow_nil _ _ _ _⟩
  case round =>
    obtain ⟨k, B, d, hk, rfl, hE, k0, k1, k2, hown⟩ := hrel
    obtain ⟨c0, f0⟩ := blk_rules k0
    obtain ⟨c1, f1⟩ := blk_rules k1
    obtain ⟨c2, f2⟩ := blk_rules k2
    by_cases hlt : k < xs.length
    · obtain ⟨b, off, rfl, hrr⟩ := (hr.ext hE).form (by omega)
      have hx2 := hrr k hlt
      obtain ⟨u, hu⟩ : ∃ u, xs.getD k 0 = u := ⟨_, rfl⟩
      have hu' : xs[k] = u := by rw [← hu, List.getD_eq_getElem?_getD, List.getElem?_eq_getElem hlt, Option.getD_some]
      have hv := hx _ (List.getElem_mem hlt)
      have hnew : (xs.take (k + 1)).map cut24 = (xs.take k).map cut24 ++ [cut24 u] := by rw [List.take_succ_eq_append_getElem hlt, List.map_append, hu']; rfl
      rw [hu'] at hv
      rw [hu] at hx2
      clear hu hu' hrr
      have z0 := blk_lt k0
      have z2 := blk_lt k2
      have htm : u.tmod 16777216 = cut24 u := by unfold cut24; rw [Int.tmod_eq_emod_of_nonneg hv.1]
      have ho0 : (wr.drew.alloc (.cells #[.int .u32 (cut24 u)] 35)).ownsRow w.heap.size 35 1 (.slice B k d) k (nums .u32 ((xs.take k).map cut24)) := World.ownsRow.alloc (w := wr.drew) hown _
      have hb0 : w.heap.size ≤ (wr.drew.alloc (.cells #[.int .u32 (cut24 u)] 35)).heap.size := by simp; have := hE.size; omega
      have hnm : nums .u32 ((xs.take k).map cut24) ++ [.int .u32 (cut24 u)] = nums .u32 ((xs.take (k + 1)).map cut24) := by rw [hnew]; simp [nums]
      have Hn := Lib.hid hnm
      clear hnm hnew
      go_wp2_with fail
      go_region_law (refine step_app w.heap.size rfl (.tmp 18) (.tmp 25) 22 35 (.int .u32 0) 1 4 rfl Try.underlying22 info_u32 rfl (by decide) (by decide) (.slice B k d) k _ rfl ho0 (some ⟨wr.heap.size, 0, none⟩) 1 1 [.int .u32 (cut24 u)] rfl (fun h => by cases h) rfl (fun _ => ⟨_, rfl, World.news_of_block (blk_new wr.drew _)⟩) (by simp [Value.oneCell']) (by omega) hb0 (fun B' d' w' hown' hg => ?_); obtain ⟨c0', f0'⟩ := blk_rules (row_far ho0 hg (blk_old (w := wr.drew) k0 _) (by decide)); obtain ⟨c2', f2'⟩ := blk_rules (row_far ho0 hg (blk_old (w := wr.drew) k2 _) (by decide)))
      all_goals
        go_wp2_with fail
        go_roundw
        case rel =>
          have e2 := row_far ho0 hg (blk_old (w := wr.drew) k2 _) (by decide)
          exact ⟨k + 1, B', d', by omega, by go_num, (row_ext ho0 (hE.drew.alloc _) hg).set (by simp; omega) _, blk_set_ne (row_far ho0 hg (blk_old (w := wr.drew) k0 _) (by decide)) (by omega) _ _, blk_set_ne (row_far ho0 hg (blk_old (w := wr.drew) k1 _) (by decide)) (by omega) _ _, blk_set e2 2 _, by rw [← Hn.out]; exact row_set hown' e2 (by decide) 2 _⟩
        case measure => simp [intOf]; omega
    · obtain rfl : k = xs.length := by omega
      have hT : xs.take xs.length = xs := List.take_length
      rw [hT] at hown
      have HT := Lib.hid hown
      clear hown hT
      go_wp2_with fail
      refine bodyPost_ret (v := .agg #[.int .i64 W, .int .i64 H, .slice B xs.length d]) (by simp only [results, Try.results22]; go_simp; done) rfl ⟨_, _, rfl, ?_, ?_⟩
      · have := row_set (row_set (row_set HT.out k1 (by decide) 0 (.int .i64 W)) (blk_set k1 0 (.int .i64 W)) (by decide) 1 (.int .i64 H)) (blk_set (blk_set k1 0 (.int .i64 W)) 1 (.int .i64 H)) (by decide) 2 (.slice B xs.length d)
        exact this
      · repeat' (first | exact hE | refine Ext.set ?_ ?_ _)
        all_goals (simp)

def picHas (W H x y : Int) : Bool := decide (0 ≤ x) && (decide (x < W) && (decide (0 ≤ y) && decide (y < H)))
set_option maxHeartbeats 1000000 in
theorem rphas_any (W H : Int) (A : Option Addr) (c n : Nat) (x y : Int) (w : World) :
    Calls Try.prog 24 #[.agg #[.int .i64 W, .int .i64 H, .slice A n c], .int .i64 x, .int .i64 y] w fun e w' => e = .returned (.bool (picHas W H x y)) ∧ Ext w w' := by
  go_enter Try.func24, Try.ntmps24
  go_wp2
  all_goals
    go_ret
    exact ⟨by simp [picHas] <;> first | omega | (rw [Bool.eq_iff_iff]; simp; omega), (Ext.refl _).alloc _⟩
end Go.Proofs.Ytilcggkbancniaa
