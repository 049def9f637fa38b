/- The walks of package vignetteref03: a picture, told by the reference, pixel by pixel: Is, Own, Has. -/
/- The walks of package vignetteref03: Fill. -/
import Derived.Test.YtjghghbldifhaaaPixK
import Derived.Test.YtjghghbldifhaaaApp
import Derived.Deep.RegionLaw
import Derived.Test.YtjghghbldifhaaaRefB
set_option linter.unusedVariables false
set_option linter.unusedSimpArgs false
namespace Go.Proofs.Ytjghghbldifhaaa
open Go.RowKit

theorem row_slice {W : World} {base size n : Nat} {e : TypeId} {v : Value} {xs : List Value} (h : W.ownsRow base e size v n xs) : ∃ A c, v = .slice A n c := by
  rcases h.2 with ⟨h1, h0⟩ | ⟨g', cap, cur, e1, _⟩
  · exact ⟨none, 0, by rw [h1, h0]⟩
  · exact ⟨_, _, e1⟩
section
variable {P : Program} {ops : Array Oper} {o : Oper} {a : Act} {K : Act → World → Prop} {Q : Exit → Act → World → Prop} {E : Prop} {w : World}
/-- append onto a row of the call's own, at a step of a region that draws. -/
theorem step_app (base : Nat) (hgd : o.guard = none) (s x : Operand) (t e : TypeId) (z : Value) (size bytes : Nat)
    (ho : o.op = .call { callee := .builtin .append, args := #[s, x], argTypes := #[t, t] })
    (ht : P.underlying t = some (.slice e)) (hinfo : (P.info? e).map (fun i => (i.zero, i.size, i.bytes)) = some (some z, size, bytes))
    (hzs : z.cells.size = size) (hsz : 0 < size) (hby : 0 < bytes) (v : Value) (n : Nat) (xs : List Value) (hs : a.eval s = v) (hown : w.ownsRow base e size v n xs)
    (A : Option Addr) (m c : Nat) (news : List Value) (hx : a.eval x = .slice A m c) (hc : A = none → c = 0) (hl : news.length = m * size) (hnews : Shows w A news) (h1 : ∀ u ∈ news, u.oneCell' = true)
    (hbytes : (n + m) * bytes ≤ 140737488355328) (hbase : base ≤ w.heap.size)
    (h : ∀ A' c' w', w'.ownsRow base e size (.slice A' (n + m) c') (n + m) (xs ++ news) → w.grownBy w' v.ownBlock → K (a.put o.dst (.slice A' (n + m) c')) w') :
    if Region.wanted o (yielded ops a.tmps) = true then Oper.wp P o a w K Q else E := by
  have hw : Region.wanted o (yielded ops a.tmps) = true := by simp [Region.wanted, hgd]
  rw [if_pos hw]
  obtain ⟨v', w', hr, h2, h3⟩ := run_app (P := P) (w := w) base t o.type e z size bytes ht hinfo hzs hsz hby v n xs hown A m c news hc hl hnews h1 hbytes hbase
  unfold Oper.wp
  simp only [execOp, ho, resolve, invoke, builtin, Sem.run_bind, Sem.run_pure, Result.andThen_ok, List.map_toArray, List.map_cons, List.map_nil, hs, hx, hr]
  obtain ⟨A', c', rfl⟩ := row_slice h2
  exact h A' c' w' h2 h3
end

set_option maxHeartbeats 1000000 in
theorem ris_any (W H : Int) (A : Option Addr) (c n : Nat) (w : World) :
    Calls Try.prog 64 #[.agg #[.int .i64 W, .int .i64 H, .slice A n c]] w fun e w' => e = .returned (.bool (isPic W H n)) ∧ Ext w w' := by
  by_cases h : 1 ≤ W ∧ W ≤ 256 ∧ 1 ≤ H ∧ H ≤ 256
  · obtain ⟨h1, h2, h3, h4⟩ := h
    obtain ⟨m1, m2⟩ := mul_bd h1 h2 h3 h4
    have hp : isPic W H n = decide ((n : Int) = W * H) := by simp [isPic, h1, h2, h3, h4]
    rw [hp]
    clear hp
    go_enter Try.func64, Try.ntmps64
    go_wp2
    go_ret
    exact ⟨rfl, (Ext.refl _).alloc _⟩
  · have hp : isPic W H n = false := by
      cases hq : isPic W H n
      · rfl
      · simp [isPic] at hq; omega
    rw [hp]
    go_enter Try.func64, Try.ntmps64
    go_wp2
    all_goals
      go_ret
      exact ⟨rfl, (Ext.refl _).alloc _⟩

theorem row_block {W : World} {base size n : Nat} {e : TypeId} {v : Value} {xs : List Value} (h : W.ownsRow base e size v n xs) {g : Nat} (hg : v.ownBlock = some g) : base ≤ g ∧ ∃ cur, W.heap[g]? = some (.cells cur e (0, 0)) := by
  rcases h.2 with ⟨h1, _⟩ | ⟨g', cap, cur, e1, e2, e3, _⟩
  · rw [h1] at hg; simp [Value.ownBlock] at hg
  · rw [e1] at hg
    have : g' = g := by simpa [Value.ownBlock] using hg
    subst this
    exact ⟨e2, cur, e3⟩
/-- A store into a block of another type leaves the row. -/
theorem row_set {W : World} {base size n : Nat} {e t : TypeId} {v : Value} {xs : List Value} (h : W.ownsRow base e size v n xs) {b : Nat} {cs : Array Value} {fr : Nat × Nat} (hb : W.heap[b]? = some (.cells cs t fr)) (hne : t ≠ e) (o : Nat) (x : Value) : (W.setCell ⟨b, o, none⟩ x).ownsRow base e size v n xs :=
  World.ownsRow.kept h (row := some b) ⟨rfl, rfl, rfl, by simp [World.setCell], fun k _ hk => Below.heap_setCell W ⟨b, o, none⟩ x k (fun e => hk (by rw [e]))⟩ (.inr (fun e1 => by
    obtain ⟨_, cur, hc⟩ := row_block h e1
    rw [hb] at hc; injection hc with hc; injection hc with _ hc _; exact hne hc))
/-- Behind an append to a row of the call's own: a block of another type stays. -/
theorem row_far {W W' : World} {base size n : Nat} {e t : TypeId} {v : Value} {xs : List Value} (h : W.ownsRow base e size v n xs) (hg : W.grownBy W' v.ownBlock) {b : Nat} {cs : Array Value} {fr : Nat × Nat} (hb : W.heap[b]? = some (.cells cs t fr)) (hne : t ≠ e) : W'.heap[b]? = some (.cells cs t fr) :=
  (hg.block b (blk_lt hb) (fun e1 => by
    obtain ⟨_, cur, hc⟩ := row_block h e1.symm
    rw [hb] at hc; injection hc with hc; injection hc with _ hc _; exact hne hc)).trans hb
theorem row_ext {w W W' : World} {size n : Nat} {e : TypeId} {v : Value} {xs : List Value} (h : W.ownsRow w.heap.size e size v n xs) (hE : Ext w W) (hg : W.grownBy W' v.ownBlock) : Ext w W' :=
  Below.grown hE hg hE.size (fun r e1 => (row_block h e1).1)

set_option maxHeartbeats 2000000 in
theorem rown_any (W H : Int) (A : Option Addr) (c : Nat) (xs : List Int) (w : World) (hr : Reads .u32 w A xs) (hx : ∀ x ∈ xs, 0 ≤ x ∧ x ≤ 4294967295) (hn : xs.length ≤ 65536) :
    Calls Try.prog 66 #[.agg #[.int .i64 W, .int .i64 H, .slice A xs.length c]] w fun e w' => ∃ B d, e = .returned (.agg #[.int .i64 W, .int .i64 H, .slice B xs.length d]) ∧ w'.ownsRow w.heap.size 58 1 (.slice B xs.length d) xs.length (nums .u32 (xs.map cut24)) ∧ Ext w w' := by
  go_enter Try.func66, Try.ntmps66
  go_wp2_with fail
  go_loopw [4] (fun i wr => ∃ (k : Nat) (B : Option Addr) (d : Nat), k ≤ xs.length ∧ i = .int .i64 k ∧ Ext w wr ∧ wr.heap[w.heap.size]? = some (.cells #[.int .i64 W, .int .i64 H, .slice A xs.length c] 43 (0, 0)) ∧ wr.heap[w.heap.size + 1]? = some (.cells #[.int .i64 0, .int .i64 0, .slice none 0 0] 43 (0, 0)) ∧ wr.heap[w.heap.size + 1 + 1]? = some (.cells #[.int .i64 W, .int .i64 H, .slice B k d] 43 (0, 0)) ∧ wr.ownsRow w.heap.size 58 1 (.slice B k d) k (nums .u32 ((xs.take k).map cut24))) (fun i _ => xs.length - (intOf i).toNat)
  case atStart => exact ⟨0, none, 0, Nat.zero_le _, rfl, ((((Ext.refl w).alloc _).alloc _).alloc _), blk_old (blk_old (blk_new _ _) _) _, blk_old (blk_new1 _ _ _) _, blk_new2 _ _ _ _, World.ownsRow_nil _ _ _ _⟩
  case round =>
    obtain ⟨k, B, d, hk, rfl, hE, k0, k1, k2, hown⟩ := hrel
    obtain ⟨c0, f0⟩ := blk_rules k0
    obtain ⟨c1, f1⟩ := blk_rules k1
    obtain ⟨c2, f2⟩ := blk_rules k2
    by_cases hlt : k < xs.length
    · obtain ⟨b, off, rfl, hrr⟩ := (hr.ext hE).form (by omega)
      have hx2 := hrr k hlt
      obtain ⟨u, hu⟩ : ∃ u, xs.getD k 0 = u := ⟨_, rfl⟩
      have hu' : xs[k] = u := by rw [← hu, List.getD_eq_getElem?_getD, List.getElem?_eq_getElem hlt, Option.getD_some]
      have hv := hx _ (List.getElem_mem hlt)
      have hnew : (xs.take (k + 1)).map cut24 = (xs.take k).map cut24 ++ [cut24 u] := by rw [List.take_succ_eq_append_getElem hlt, List.map_append, hu']; rfl
      rw [hu'] at hv
      rw [hu] at hx2
      clear hu hu' hrr
      have z0 := blk_lt k0
      have z2 := blk_lt k2
      have htm : u.tmod 16777216 = cut24 u := by unfold cut24; rw [Int.tmod_eq_emod_of_nonneg hv.1]
      have ho0 : (wr.drew.alloc (.cells #[.int .u32 (cut24 u)] 58)).ownsRow w.heap.size 58 1 (.slice B k d) k (nums .u32 ((xs.take k).map cut24)) := World.ownsRow.alloc (w := wr.drew) hown _
      have hb0 : w.heap.size ≤ (wr.drew.alloc (.cells #[.int .u32 (cut24 u)] 58)).heap.size := by simp; have := hE.size; omega
      have hnm : nums .u32 ((xs.take k).map cut24) ++ [.int .u32 (cut24 u)] = nums .u32 ((xs.take (k + 1)).map cut24) := by rw [hnew]; simp [nums]
      have Hn := Lib.hid hnm
      clear hnm hnew
      go_wp2_with fail
      go_region_law (refine step_app w.heap.size rfl (.tmp 18) (.tmp 25) 41 58 (.int .u32 0) 1 4 rfl Try.underlying41 info_u32 rfl (by decide) (by decide) (.slice B k d) k _ rfl ho0 (some ⟨wr.heap.size, 0, none⟩) 1 1 [.int .u32 (cut24 u)] rfl (fun h => by cases h) rfl (fun _ => ⟨_, rfl, World.news_of_block (blk_new wr.drew _)⟩) (by simp [Value.oneCell']) (by omega) hb0 (fun B' d' w' hown' hg => ?_); obtain ⟨c0', f0'⟩ := blk_rules (row_far ho0 hg (blk_old (w := wr.drew) k0 _) (by decide)); obtain ⟨c2', f2'⟩ := blk_rules (row_far ho0 hg (blk_old (w := wr.drew) k2 _) (by decide)))
      all_goals
        go_wp2_with fail
        go_roundw
        case rel =>
          have e2 := row_far ho0 hg (blk_old (w := wr.drew) k2 _) (by decide)
          exact ⟨k + 1, B', d', by omega, by go_num, (row_ext ho0 (hE.drew.alloc _) hg).set (by simp; omega) _, blk_set_ne (row_far ho0 hg (blk_old (w := wr.drew) k0 _) (by decide)) (by omega) _ _, blk_set_ne (row_far ho0 hg (blk_old (w := wr.drew) k1 _) (by decide)) (by omega) _ _, blk_set e2 2 _, by rw [← Hn.out]; exact row_set hown' e2 (by decide) 2 _⟩
        case measure => simp [intOf]; omega
    · obtain rfl : k = xs.length := by omega
      have hT : xs.take xs.length = xs := List.take_length
      rw [hT] at hown
      have HT := Lib.hid hown
      clear hown hT
      go_wp2_with fail
      refine bodyPost_ret (v := .agg #[.int .i64 W, .int .i64 H, .slice B xs.length d]) (by simp only [results, Try.results66]; go_simp; done) rfl ⟨_, _, rfl, ?_, ?_⟩
      · have := row_set (row_set (row_set HT.out k1 (by decide) 0 (.int .i64 W)) (blk_set k1 0 (.int .i64 W)) (by decide) 1 (.int .i64 H)) (blk_set (blk_set k1 0 (.int .i64 W)) 1 (.int .i64 H)) (by decide) 2 (.slice B xs.length d)
        exact this
      · repeat' (first | exact hE | refine Ext.set ?_ ?_ _)
        all_goals (simp)

def picHas (W H x y : Int) : Bool := decide (0 ≤ x) && (decide (x < W) && (decide (0 ≤ y) && decide (y < H)))
end Go.Proofs.Ytjghghbldifhaaa
set_option linter.unusedVariables false
set_option linter.unusedSimpArgs false
namespace Go.Proofs.Ytjghghbldifhaaa
open Go.RowKit

/-- The first k of a list turned, each by its place. -/
def upTo (f : Nat → Int → Int) (k : Nat) (ys : List Int) : List Int := (List.range ys.length).map fun i => if i < k then f i (ys.getD i 0) else ys.getD i 0
def mapAt (f : Nat → Int → Int) (ys : List Int) : List Int := (List.range ys.length).map fun i => f i (ys.getD i 0)
theorem upTo_length (f : Nat → Int → Int) (k : Nat) (ys : List Int) : (upTo f k ys).length = ys.length := by simp [upTo]
theorem mapAt_length (f : Nat → Int → Int) (ys : List Int) : (mapAt f ys).length = ys.length := by simp [mapAt]
theorem mapAt_getD (f : Nat → Int → Int) (ys : List Int) {i : Nat} (h : i < ys.length) : (mapAt f ys).getD i 0 = f i (ys.getD i 0) := by
  unfold mapAt
  rw [List.getD_eq_getElem?_getD, List.getElem?_map, List.getElem?_range h]
  rfl
theorem upTo_getD (f : Nat → Int → Int) (k : Nat) (ys : List Int) {i : Nat} (h : i < ys.length) : (upTo f k ys).getD i 0 = if i < k then f i (ys.getD i 0) else ys.getD i 0 := by
  unfold upTo
  rw [List.getD_eq_getElem?_getD, List.getElem?_map, List.getElem?_range h]
  rfl
theorem upTo_zero (f : Nat → Int → Int) (ys : List Int) : upTo f 0 ys = ys := by
  apply List.ext_getElem (upTo_length _ _ _)
  intro i h1 h2
  simp [upTo, List.getD_eq_getElem?_getD, List.getElem?_eq_getElem h2]
theorem upTo_all (f : Nat → Int → Int) (ys : List Int) : upTo f ys.length ys = mapAt f ys := by
  unfold upTo mapAt
  apply List.map_congr_left
  intro i hi
  rw [if_pos (List.mem_range.1 hi)]
theorem upTo_succ (f : Nat → Int → Int) (k : Nat) (ys : List Int) (h : k < ys.length) : (upTo f k ys).set k (f k (ys.getD k 0)) = upTo f (k + 1) ys := by
  apply List.ext_getElem (by simp [upTo_length])
  intro i h1 h2
  rw [upTo_length] at h2
  have e1 := upTo_getD f (k + 1) ys h2
  have e2 := upTo_getD f k ys h2
  rw [List.getD_eq_getElem?_getD, List.getElem?_eq_getElem (by rw [upTo_length]; exact h2), Option.getD_some] at e1 e2
  rw [List.getElem_set, e1]
  split
  · rename_i hk
    subst hk
    rw [if_pos (by omega)]
  · rename_i hk
    rw [e2]
    by_cases hlt : i < k
    · rw [if_pos hlt, if_pos (by omega)]
    · rw [if_neg hlt, if_neg (by omega)]
theorem upTo_same (f : Nat → Int → Int) (k : Nat) (ys : List Int) (h : k < ys.length) (he : f k (ys.getD k 0) = ys.getD k 0) : upTo f (k + 1) ys = upTo f k ys := by
  rw [← upTo_succ f k ys h, he]
  have e2 := upTo_getD f k ys h
  rw [if_neg (by omega)] at e2
  rw [← e2, List.getD_eq_getElem?_getD, List.getElem?_eq_getElem (by rw [upTo_length]; exact h), Option.getD_some, List.set_getElem_self]

theorem tmod_nat {k : Nat} {W : Int} : (k : Int).tmod W = (k : Int) % W := Int.tmod_eq_emod_of_nonneg (by omega)
theorem tdiv_nat {k : Nat} {W : Int} : (k : Int).tdiv W = (k : Int) / W := Int.tdiv_eq_ediv_of_nonneg (by omega)
theorem div_bd {k : Nat} {W : Int} (h : 1 ≤ W) : 0 ≤ (k : Int) % W ∧ (k : Int) % W < W ∧ 0 ≤ (k : Int) / W ∧ (k : Int) / W ≤ k := by
  refine ⟨Int.emod_nonneg _ (by omega), Int.emod_lt_of_pos _ (by omega), Int.ediv_nonneg (by omega) (by omega), ?_⟩
  exact Int.ediv_le_self _ (by omega)

theorem row_keep {W W' : World} {base size n : Nat} {e : TypeId} {v : Value} {xs : List Value} (h : W.ownsRow base e size v n xs) (hb : Ext W W') : W'.ownsRow base e size v n xs :=
  World.ownsRow.kept h ⟨hb.os, hb.tape, hb.output, hb.size, fun i hi _ => hb.block i hi⟩ (row := none) (by cases v.ownBlock <;> simp)
theorem row_form {W : World} {base size n d : Nat} {e : TypeId} {B : Option Addr} {xs : List Value} (h : W.ownsRow base e size (.slice B n d) n xs) (hn : 0 < n) : ∃ g, B = some ⟨g, 0, none⟩ ∧ base ≤ g := by
  obtain ⟨g, cap, h1, h2, _⟩ := World.ownsRow.form h hn
  injection h1 with h1
  exact ⟨g, h1, h2⟩
/-- What the reference's Fill makes of a pixel. -/
def fillAt (W : Int) (r : Rect) (c : Int) (i : Nat) (p : Int) : Int := if Rect.has r ((i : Int) % W) ((i : Int) / W) = true then cut24 c else p

end Go.Proofs.Ytjghghbldifhaaa
