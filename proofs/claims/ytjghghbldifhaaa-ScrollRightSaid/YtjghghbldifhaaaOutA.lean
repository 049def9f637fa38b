/- A list in a box that a range over a function puts together; what it leaves; the rows of a buffer, when rectangles are put together. -/
import Derived.Test.YtjghghbldifhaaaRegB
import Derived.Test.YtjghghbldifhaaaRunsG
set_option linter.unusedVariables false
set_option linter.unusedSimpArgs false
namespace Go.Proofs.Ytjghghbldifhaaa
open Go.RowKit Go.Shelf
attribute [local go_sem] Oper.semAt_some

theorem row_turnA {W W' : World} {base size n : Nat} {e : TypeId} {v : Value} {xs : List Value} {row : Option Nat} (hg : W.grownBy W' row) (hr : ∀ r, row = some r → ∃ o : Obj, W.heap[r]? = some o ∧ o.isCells = false) (h : W.ownsRow base e size v n xs) : W'.ownsRow base e size v n xs := by
  obtain ⟨h1, h2⟩ := h
  refine ⟨h1, ?_⟩
  rcases h2 with h2 | ⟨g, cap, cur, e1, e2, e3, e4⟩
  · exact .inl h2
  · exact .inr ⟨g, cap, cur, e1, e2, heap_turn hg hr e3, e4⟩
/-- A list that is put together in a box, by a range over a function. -/
structure OutAt (w W : World) (s bs : Nat) (L : List Rect) (B : Option Addr) (d : Nat) : Prop where
  kout : W.heap[s]? = some (.cells #[.slice B L.length d] 22 (0, 0))
  own : OwnR W bs (.slice B L.length d) L
  sb : s < bs
  ws : w.heap.size ≤ s
  ext : Ext w W
  size : bs ≤ W.heap.size
section
variable {w W W2 W3 : World} {s bs d d5 : Nat} {L O5 : List Rect} {B B5 : Option Addr}
theorem OutAt.keep (h : OutAt w W s bs L B d) (hE : Ext W W2) : OutAt w W2 s bs L B d :=
  ⟨hE.keep h.kout, row_keep h.own hE, h.sb, h.ws, h.ext.trans hE, Nat.le_trans h.size hE.size⟩
theorem OutAt.turn (h : OutAt w W s bs L B d) {row : Option Nat} (hg : W.grownBy W2 row) (hr : ∀ r, row = some r → ∃ o : Obj, W.heap[r]? = some o ∧ o.isCells = false) (hb : ∀ r, row = some r → w.heap.size ≤ r) : OutAt w W2 s bs L B d :=
  ⟨heap_turn hg hr h.kout, row_turnA hg hr h.own, h.sb, h.ws, Below.grown h.ext hg h.ext.size hb, Nat.le_trans h.size hg.size⟩
theorem OutAt.row (h : OutAt w W s bs L B d) (hE : Ext W W2) (hg : W2.grownBy W3 (Value.slice B L.length d).ownBlock) (hr : OwnR W3 bs (.slice B5 O5.length d5) O5) :
    OutAt w (W3.setCell ⟨s, 0, none⟩ (.slice B5 O5.length d5)) s bs O5 B5 d5 := by
  have h2 := h.keep hE
  have hsb := h.sb
  have hws := h.ws
  have hb : ∀ r, (Value.slice B L.length d).ownBlock = some r → bs ≤ r := fun r e => (World.ownsRow.lt h.own r e).1
  have hkeep : ∀ {k : Nat} {o : Obj}, k < bs → W2.heap[k]? = some o → W3.heap[k]? = some o := fun {k o} hk ho => (hg.block k (blk_lt ho) (fun e => by have := hb k e.symm; omega)).trans ho
  refine ⟨by simpa using blk_set (hkeep hsb h2.kout) 0 (.slice B5 O5.length d5), row_below hr (grown_set _ _ _ _) hsb, hsb, hws, ?_, ?_⟩
  · have hx : Ext w W3 := Below.grown h2.ext hg h2.ext.size (fun r e => by have := hb r e; omega)
    exact hx.set (p := ⟨s, 0, none⟩) (by dsimp only; omega) _
  · have : (W3.setCell ⟨s, 0, none⟩ (.slice B5 O5.length d5)).heap.size = W3.heap.size := by simp [World.setCell]
    rw [this]
    exact Nat.le_trans h2.size hg.size
/-- What such a round leaves as it was. -/
theorem OutAt.kept (h : OutAt w W s bs L B d) (hE : Ext W W2) (hg : W2.grownBy W3 (Value.slice B L.length d).ownBlock) (v : Value) : KeepsOthers W (W3.setCell ⟨s, 0, none⟩ v) ∧ KeptP (fun k => s < k ∧ k < bs) W (W3.setCell ⟨s, 0, none⟩ v) := by
  refine ⟨((KeepsOthers.of_ext hE).trans (KeepsOthers.of_grownBy hg (row_cells (row_keep h.own hE)))).trans (KeepsOthers.setCell _ _ _), ((KeptP.of_ext hE).trans (KeptP.of_grown hg fun r e hr => ?_)).trans (KeptP.set (fun hr => ?_) _ _)⟩
  · have := (World.ownsRow.lt h.own r e).1
    omega
  · omega
end


theorem wpListIn_app2 {F : Fence} {k : Nat} {P : Program} {ops : Array Oper} {rest : List Oper} {o : Oper} {a : Act} {Q : Exit → Act → World → Prop} {w : World} (base : Nat) (hgd : o.guard = none) (s x : Operand) (t e : TypeId) (z : Value) (size bytes : Nat)
    (ho : o.op = .call { callee := .builtin .append, args := #[s, x], argTypes := #[t, t] })
    (ht : P.underlying t = some (.slice e)) (hinfo : (P.info? e).map (fun i => (i.zero, i.size, i.bytes)) = some (some z, size, bytes))
    (hzs : z.cells.size = size) (hsz : 0 < size) (hby : 0 < bytes) (v : Value) (n : Nat) (xs : List Value) (hs : a.eval s = v) (hown : w.ownsRow base e size v n xs)
    (A : Option Addr) (m c : Nat) (news : List Value) (hx : a.eval x = .slice A m c) (hc : A = none → c = 0) (hl : news.length = m * size) (hnews : Shows w A news) (h1 : ∀ u ∈ news, u.oneCell' = true)
    (hbytes : (n + m) * bytes ≤ 140737488355328) (hbase : base ≤ w.heap.size)
    (h : ∀ A' c' w', w'.ownsRow base e size (.slice A' (n + m) c') (n + m) (xs ++ news) → w.grownBy w' v.ownBlock → ((Value.slice A' (n + m) c').ownBlock = v.ownBlock ∨ (Value.slice A' (n + m) c').ownBlock = some w.heap.size) → wpListIn F k P ops Q rest (a.put o.dst (.slice A' (n + m) c')) w') : wpListIn F k P ops Q (o :: rest) a w := by
  obtain ⟨A', c', w', hr, h2, h3, h4⟩ := run_app2 (P := P) (w := w) base t o.type e z size bytes ht hinfo hzs hsz hby v n xs hown A m c news hc hl hnews h1 hbytes hbase
  refine wpListIn_plain hgd fun K hK => ?_
  unfold Oper.wpIn
  refine ⟨?_, ?_⟩
  · simp [Oper.about, ho, resolve, Target.leads, Sem.run_pure]
  · rw [Oper.semAt_plain F _ _ (by rw [ho]; intro c hc'; cases hc')]
    simp only [execOp, ho, resolve, invoke, builtin, Sem.run_bind, Sem.run_pure, Result.andThen_ok, List.map_toArray, List.map_cons, List.map_nil, hs, hx, hr]
    exact hK _ _ (h A' c' w' h2 h3 h4)
/-- A block that is neither the box nor what the box's list lies in. -/
def Stay (ob k : Nat) (W : World) : Prop := k ≠ ob ∧ ∀ v, W.cell? ⟨ob, 0, none⟩ = some v → v.ownBlock ≠ some k
/-- All other blocks stand. -/
def KeptO (ob : Nat) (W W' : World) : Prop := ∀ (k : Nat) (cs : Array Value) (t : TypeId) (fr : Nat × Nat), Stay ob k W → W.heap[k]? = some (Obj.cells cs t fr) → W'.heap[k]? = some (Obj.cells cs t fr) ∧ Stay ob k W'
theorem KeptO.stay {ob k : Nat} {W W' : World} (h : KeptO ob W W') {cs : Array Value} {t : TypeId} {fr : Nat × Nat} (hs : Stay ob k W) (hk : W.heap[k]? = some (Obj.cells cs t fr)) : W'.heap[k]? = some (Obj.cells cs t fr) ∧ Stay ob k W' := h k cs t fr hs hk
theorem KeptO.trans {ob : Nat} {A B C : World} (h : KeptO ob A B) (k : KeptO ob B C) : KeptO ob A C := fun i cs t fr hs hc => by
  obtain ⟨h1, h2⟩ := h i cs t fr hs hc
  exact k i cs t fr h2 h1
theorem keptO_b (ob : Nat) (W : World) (l : Nat) (o o' : Obj) (hl : ob < l) (h : W.heap[l]? = some o) (ho : o.isCells = false) : KeptO ob W (W.putObj l o') := fun k cs t fr hs hc => by
  have hk : k ≠ l := fun e => by
    subst e
    rw [h] at hc
    injection hc with hc
    subst hc
    cases ho
  have hh : ∀ j, j ≠ l → (W.putObj l o').heap[j]? = W.heap[j]? := fun j hj => by
    simp [World.putObj, Array.getElem?_setIfInBounds, Ne.symm hj]
  refine ⟨(hh k hk).trans hc, hs.1, fun v hv => hs.2 v ?_⟩
  rw [← hv]
  unfold World.cell?
  dsimp only
  rw [hh ob (by omega)]
theorem KeptO.of_ext {ob : Nat} {W W' : World} (h : Ext W W') (hob : ob < W.heap.size) : KeptO ob W W' := fun k cs t fr hs hc =>
  ⟨h.keep hc, hs.1, fun v hv => hs.2 v (by rw [← hv]; exact ((h.rules).1 ob 0 hob).symm)⟩
/-- What a round leaves that puts rectangles behind. -/
theorem OutAt.keptO {w W W2 W3 : World} {s bs d d5 n : Nat} {L : List Rect} {B B5 : Option Addr} (h : OutAt w W s bs L B d) (hE : Ext W W2) (hg : W2.grownBy W3 (Value.slice B L.length d).ownBlock)
    (hb : (Value.slice B5 n d5).ownBlock = (Value.slice B L.length d).ownBlock ∨ (Value.slice B5 n d5).ownBlock = some W2.heap.size) : KeptO s W (W3.setCell ⟨s, 0, none⟩ (.slice B5 n d5)) := fun k cs t fr hs hc => by
  have h1 := hs.2 _ (blk_cell h.kout 0)
  have h2 := hE.keep hc
  have h3 : W3.heap[k]? = some (.cells cs t fr) := (hg.block k (blk_lt h2) (fun e => h1 e.symm)).trans h2
  refine ⟨blk_set_ne h3 hs.1 _ _, hs.1, fun v hv => ?_⟩
  have hkout : W3.heap[s]? = some (.cells #[.slice B L.length d] 22 (0, 0)) := (hg.block s (blk_lt (hE.keep h.kout)) (fun e => by have := (World.ownsRow.lt h.own s e.symm).1; have := h.sb; omega)).trans (hE.keep h.kout)
  rw [blk_cell (blk_set hkout 0 (.slice B5 n d5)) 0] at hv
  have hv' : v = .slice B5 n d5 := by simpa using hv.symm
  subst hv'
  rcases hb with hb | hb
  · rw [hb]; exact h1
  · rw [hb]
    intro e
    injection e with e
    have := blk_lt hc
    have := hE.size
    omega

set_option maxRecDepth 100000 in
set_option maxHeartbeats 2000000 in
theorem rowsO_in (n : Nat) (hn : 1 ≤ n) (l B0 B1 base bb bp cap : Nat) (W H : Int) (px : List Int) (x y a b : Int) (N : Nat) (hN : (N : Int) = (Rect.and ⟨x, y, a, b⟩ ⟨0, 0, W, H⟩).h) (J Jx : List (Fin N) → World → Prop) (w : World) (ob : Nat) (hob : ob < w.heap.size) (hout : w.cell? ⟨ob, 0, none⟩ = some (.slice none 0 0)) (hn0 : B0 ≠ ob) (hn3 : bb ≠ ob)
    (hJ : AbidesFrom w.heap.size J)
    (hY : ∀ (pre : List (Fin N)) (i : Fin N) (W1 : World), J pre W1 → pre.length < N → YieldAt Fence.wide (n - 1) Try.prog l (rowArgs bp W (Rect.and ⟨x, y, a, b⟩ ⟨0, 0, W, H⟩) i.val) W1 fun e W' =>
      (e = .returned (.bool true) ∧ J (pre ++ [i]) W' ∧ KeptO ob W1 W') ∨ (e = .returned (.bool false) ∧ Jx (pre ++ [i]) W'))
    (hB : BufAt 117 58 w base bb bp cap W H px) (k0 : w.heap[B0]? = some (.cells #[.pointer (some ⟨bb, 0, none⟩)] 60 (0, 0))) (k1 : w.heap[B1]? = some (.cells #[.int .i64 x, .int .i64 y, .int .i64 a, .int .i64 b] 26 (0, 0)))
    (h0 : J [] w) :
    CallsIn Fence.wide n Try.prog 127 #[.func (.yield l) #[] #[], .pointer (some ⟨B1, 0, none⟩), .pointer (some ⟨B0, 0, none⟩)] w fun e W' => (∃ v, e = .returned v) ∧
      ((∃ ys : List (Fin N), ys.map Fin.val = List.range N ∧ J ys W') ∨ (∃ pre : List (Fin N), Jx pre W')) := by
  refine callsIn_of_wp Try.func127 rfl trivial ?_ rfl
  simp only [Try.ntmps127, List.size_toArray, List.length_cons, List.length_nil, Nat.reduceAdd, Nat.reduceSub, Array.replicate_succ, Array.replicate_zero, List.push_toArray, List.append_toArray, List.nil_append, List.cons_append]
  obtain ⟨R, hR⟩ : ∃ R, Rect.and ⟨x, y, a, b⟩ ⟨0, 0, W, H⟩ = R := ⟨_, rfl⟩
  have hand := fun w : World => and_any x y a b 0 0 W H w
  simp only [hR] at hand hN hY ⊢
  gi_wp2
  refine wpIn_mono (Q := fun e a' w' => e = .normal ∧ ∃ B, a' = { tmps := #[.func (.yield l) #[] #[], .pointer (some ⟨B1, 0, none⟩), .pointer (some ⟨B0, 0, none⟩), undef, .pointer (some ⟨B, 0, none⟩), undef, undef, undef, .agg #[.int .i64 x, .int .i64 y, .int .i64 a, .int .i64 b], .pointer (some ⟨bb, 0, none⟩), .agg #[.int .i64 0, .int .i64 0, .int .i64 W, .int .i64 H], .agg #[.int .i64 R.x, .int .i64 R.y, .int .i64 R.w, .int .i64 R.h], undef, undef, undef, undef, undef, undef, undef, undef, undef, undef, undef, undef, undef, undef, undef, undef, undef, undef, undef, undef, undef, undef, undef, undef, undef, undef, undef, undef, undef, undef, undef, undef, undef, undef, undef, undef], defers := [] } ∧ w'.heap[B]? = some (.cells #[.int .i64 R.x, .int .i64 R.y, .int .i64 R.w, .int .i64 R.h] 26 (0, 0)) ∧ Ext w w' ∧ w.heap.size ≤ B) (wpIn_wide.2 ?_) ?_
  · clear hJ hY hN h0 hout hob hn0 hn3
    obtain ⟨c0, f0⟩ := blk_rules k0
    obtain ⟨c1, f1⟩ := blk_rules k1
    have z0 := blk_lt k0
    have z1 := blk_lt k1
    have sx : ∀ w', Ext w w' → Ext w w' ∧ w'.cell? ⟨B1, 0, none⟩ = some (.int .i64 x) ∧ w'.cell? ⟨B1, 1, none⟩ = some (.int .i64 y) ∧ w'.cell? ⟨B1, 2, none⟩ = some (.int .i64 a) ∧ w'.cell? ⟨B1, 3, none⟩ = some (.int .i64 b) ∧ w'.cell? ⟨B0, 0, none⟩ = some (.pointer (some ⟨bb, 0, none⟩)) := fun w' h => ⟨h, h.cellOf (c1 0), h.cellOf (c1 1), h.cellOf (c1 2), h.cellOf (c1 3), h.cellOf (c0 0)⟩
    go_region_held3 (fun w' => Ext w w' ∧ w'.cell? ⟨B1, 0, none⟩ = some (.int .i64 x) ∧ w'.cell? ⟨B1, 1, none⟩ = some (.int .i64 y) ∧ w'.cell? ⟨B1, 2, none⟩ = some (.int .i64 a) ∧ w'.cell? ⟨B1, 3, none⟩ = some (.int .i64 b) ∧ w'.cell? ⟨B0, 0, none⟩ = some (.pointer (some ⟨bb, 0, none⟩))) ((refine sx _ ?_; first | exact hE2 | exact hE1 | exact (Ext.refl w).drew | (repeat' (first | exact And.left (by assumption) | exact hE2 | exact hE1 | refine Ext.alloc ?_ _ | refine Ext.set ?_ ?_ _ | refine Ext.drew ?_ | exact Ext.refl w | exact Nat.le_refl _ | exact hE2.size | exact hE1.size | (simp; done))))) (first | (go_at_call 106; refine (all_any (hB.ext (And.left (by assumption)))).mono ?_; rintro e w1 ⟨rfl, hb⟩; have hE1 : Ext w w1 := Ext.trans (And.left (by assumption)) hb) | (go_at_call 95; refine (hand _).mono ?_; rintro e w2 ⟨rfl, hb2⟩; have hE2 : Ext w w2 := Ext.trans (And.left (by assumption)) hb2; (first | (have kB := hb2.keep (hb.keep (blk_new w _)); obtain ⟨d2, g2⟩ := blk_rules kB) | (have kB := hb2.keep (blk_new w1 _); obtain ⟨d2, g2⟩ := blk_rules kB) | skip)))
    all_goals
      refine ⟨rfl, _, rfl, ?_, ?_, ?_⟩
      · first
          | simpa using blk_set (blk_set (blk_set (blk_set kB 0 (.int .i64 R.x)) 1 (.int .i64 R.y)) 2 (.int .i64 R.w)) 3 (.int .i64 R.h)
          | exact blk_new w2 _
      · repeat' (first | exact hE2 | refine Ext.alloc ?_ _ | refine Ext.set ?_ ?_ _ | refine Ext.drew ?_ | exact Nat.le_refl _ | exact hE2.size | exact hE1.size)
      · first | exact Nat.le_refl _ | exact hE2.size | exact hE1.size
  · rintro e a' w2 ⟨rfl, B, rfl, kB, hE, hBlt⟩
    obtain ⟨hRx, hRy⟩ := Rect.and_in hB.w1 hB.w2 hB.h1 hB.h2 hR
    have hk1 := hE.keep hB.head
    have hk0 := hE.keep k0
    replace h0 := abides_ext hJ h0 hE
    have hst : ∀ k, k ≠ ob → Stay ob k w2 := fun k hk => ⟨hk, fun v hv => by rw [hE.cellOf hout] at hv; injection hv with hv; subst hv; simp [Value.ownBlock]⟩
    have sB := hst B (by omega)
    have s0 := hst B0 hn0
    have s3 := hst bb hn3
    clear hst hout
    have hcap : (px.length : Int) ≤ cap ∧ cap ≤ 9223372036854775807 := by
      obtain ⟨A, c, hv, _, h1, h2⟩ := hB.row.reads
      injection hv with e1 e2 e3
      subst e3
      simp only [maxLen] at h2
      omega
    obtain ⟨hcap1, hcap2⟩ := hcap
    have hlen := hB.len
    have hw1 := hB.w1
    have hw2 := hB.w2
    have hh1 := hB.h1
    have hh2 := hB.h2
    obtain ⟨cB, fB⟩ := blk_rules kB
    clear hB k0 k1 hand
    gi_wp2
    clear cB fB
    gi_loopw [5] (fun i wr => ∃ (k : Nat) (pre : List (Fin N)), k ≤ N ∧ i = .int .i64 (R.y + k) ∧ pre.map Fin.val = List.range k ∧ J pre wr ∧ wr.heap[B]? = some (.cells #[.int .i64 R.x, .int .i64 R.y, .int .i64 R.w, .int .i64 R.h] 26 (0, 0)) ∧ wr.heap[B0]? = some (.cells #[.pointer (some ⟨bb, 0, none⟩)] 60 (0, 0)) ∧ wr.heap[bb]? = some (.cells #[.int .i64 W, .int .i64 H, .slice (some ⟨bp, 0, none⟩) px.length cap] 117 (0, 0)) ∧ Stay ob B wr ∧ Stay ob B0 wr ∧ Stay ob bb wr)
      (fun i _ => N - (intOf i - R.y).toNat)
    case atStart => exact ⟨0, [], Nat.zero_le _, by simp, rfl, h0, kB, hk0, hk1, sB, s0, s3⟩
    case round =>
      clear h0 kB hk0 hk1 hE sB s0 s3
      obtain ⟨k, pre, hk, rfl, hpre, hJs, kB, hk0, hk1, sB, s0, s3⟩ := hrel
      have SB := Lib.hid sB
      have S0 := Lib.hid s0
      have S3 := Lib.hid s3
      clear sB s0 s3
      obtain ⟨cB, fB⟩ := blk_rules kB
      obtain ⟨c0, f0⟩ := blk_rules hk0
      obtain ⟨c1, f1⟩ := blk_rules hk1
      have Hpre := Lib.hid hpre
      have HN := Lib.hid hN
      clear hpre hN
      by_cases hlt : k < N
      · have hlt' : R.y + (k : Int) < R.y + R.h := by have := HN.out; omega
        rcases hRx with hz | ⟨r1, r2, r3, r4, r5, r6⟩
        · subst hz; simp [Rect.zero] at hlt'; omega
        · obtain ⟨m1, m2, m3⟩ := place_bd hw1 hw2 hh1 hh2 (x := R.x) (y := R.y + k) (by omega) (by omega) (by omega) (by omega)
          obtain ⟨m4, m5, m6⟩ := place_bd hw1 hw2 hh1 hh2 (x := R.x + R.w - 1) (y := R.y + k) (by omega) (by omega) (by omega) (by omega)
          have q3 : 0 ≤ (R.y + (k : Int)) * W + R.x := by omega
          have q2 : IntKind.i64.wrap ((R.y + (k : Int)) * W + R.x) = (R.y + (k : Int)) * W + R.x := IntWalk.i64_in _ (by omega)
          have q1 : IntKind.i64.wrap ((R.y + (k : Int)) * W) = (R.y + (k : Int)) * W := IntWalk.i64_in _ (by omega)
          have q4 : (R.y + (k : Int)) * W + R.x + R.w ≤ px.length := by omega
          clear HN m4 m5 m6 m3
          gi_wp2
          refine wpIn_wide.2 ?_
          go_quiet (fail)
          clear q1 q2
          replace hJs : J pre (wr.drewN nq) := abides_ext hJ hJs ((Ext.refl wr).drewN nq)
          obtain ⟨fn, tmps, assign, body, hy, hRd⟩ := hY pre ⟨k, hlt⟩ (wr.drewN nq) hJs (by have := congrArg List.length Hpre.out; simp at this; omega)
          dsimp only [rowArgs, rowAt] at hy
          have q5 : (((R.y + (k : Int)) * W + R.x + R.w).toNat - ((R.y + (k : Int)) * W + R.x).toNat) = R.w.toNat := by omega
          gi_wp2
          refine hRd.mono ?_
          rintro e W3 (⟨rfl, hJ3, hk3⟩ | ⟨rfl, hJx3⟩)
          · obtain ⟨kB', sB'⟩ := hk3.stay SB.out kB
            obtain ⟨hk0', s0'⟩ := hk3.stay S0.out hk0
            obtain ⟨hk1', s3'⟩ := hk3.stay S3.out hk1
            have SB' := Lib.hid sB'
            have S0' := Lib.hid s0'
            have S3' := Lib.hid s3'
            clear sB' s0' s3'
            gi_wp2
            go_roundw
            case rel => exact ⟨k + 1, pre ++ [⟨k, hlt⟩], by omega, by go_num, by rw [List.map_append, Hpre.out, List.range_succ]; rfl, hJ3, kB', hk0', hk1', SB'.out, S0'.out, S3'.out⟩
            case measure => simp [intOf]; omega
          · gi_wp2
            refine bodyPost_ret (results_none rfl _ _ _) rfl ?_
            exact ⟨⟨_, rfl⟩, .inr ⟨_, hJx3⟩⟩
      · obtain rfl : k = N := by omega
        have hge : R.h ≤ (k : Int) := by have := HN.out; omega
        have hge2 : decide (R.y + (k : Int) < R.y + R.h) = false := by simp; omega
        have hyb : 0 ≤ R.y ∧ R.y + R.h ≤ 256 := by rcases hRx with hz | hz; (rw [hz]; simp [Rect.zero]); omega
        obtain ⟨hyb1, hyb2⟩ := hyb
        gi_wp2
        go_end0
        exact ⟨⟨_, rfl⟩, .inl ⟨pre, Hpre.out, hJs⟩⟩
end Go.Proofs.Ytjghghbldifhaaa
