/- What only moved: plain: a picture of unlike rows that is moved up or down. -/
/- Two rows of numbers that grow side by side, each in a box of its own. -/
import Derived.Test.YtjghghbldifhaaaScrC
import Derived.Test.YtjghghbldifhaaaTileC
import Derived.Test.YtjghghbldifhaaaScrT
import Derived.Test.YtjghghbldifhaaaScrN
set_option linter.unusedVariables false
set_option linter.unusedSimpArgs false
namespace Go.Proofs.Ytjghghbldifhaaa
open Go.RowKit

/-- The first n pixels of a picture W wide whose rows are of one colour each. -/
def rowPic (W : Nat) (f : Nat → Int) (n : Nat) : List Int := (List.range n).map fun k => f (k / W)
theorem rowPic_length (W : Nat) (f : Nat → Int) (n : Nat) : (rowPic W f n).length = n := by simp [rowPic]
theorem rowPic_succ (W : Nat) (f : Nat → Int) {y x : Nat} (hx : x < W) : rowPic W f (y * W + (x + 1)) = rowPic W f (y * W + x) ++ [f y] := by
  have e : (y * W + x) / W = y := by
    rw [Nat.mul_comm, Nat.mul_add_div (by omega), Nat.div_eq_of_lt hx, Nat.add_zero]
  unfold rowPic
  rw [show y * W + (x + 1) = (y * W + x) + 1 by omega, List.range_succ, List.map_append, List.map_singleton, e]
theorem rowPic_px {W H : Nat} {f : Nat → Int} {x y : Int} (h1 : 0 ≤ x) (h2 : x < W) (h3 : 0 ≤ y) (h4 : y < H) : pxAt W ((rowPic W f (H * W)).map cut24) x y = cut24 (f y.toNat) := by
  obtain ⟨a, rfl⟩ : ∃ a : Nat, (a : Int) = x := ⟨x.toNat, by omega⟩
  obtain ⟨b, rfl⟩ : ∃ b : Nat, (b : Int) = y := ⟨y.toNat, by omega⟩
  have e0 : ((b : Int) * (W : Int) + (a : Int)).toNat = b * W + a := by
    rw [show ((b : Int) * (W : Int) + (a : Int)) = ((b * W + a : Nat) : Int) by simp]
    exact Int.toNat_natCast _
  have e : (b * W + a) / W = b := by
    rw [Nat.mul_comm, Nat.mul_add_div (by omega), Nat.div_eq_of_lt (by omega), Nat.add_zero]
  have hlt : b * W + a < H * W := by
    have : b * W + W ≤ H * W := by
      have := Nat.mul_le_mul_right W (show b + 1 ≤ H by omega)
      rw [Nat.add_mul, Nat.one_mul] at this
      exact this
    omega
  unfold pxAt
  rw [e0, List.getD_eq_getElem?_getD]
  simp only [rowPic, List.map_map, List.getElem?_map, List.getElem?_range hlt, Option.map_some, Option.getD_some, Function.comp, e, Int.toNat_natCast]
/-- The colour of a row, ahead and behind. -/
def wasRow (y : Nat) : Int := (y : Int) + 1
def isRow (H : Nat) (b : Int) (y : Nat) : Int := if 0 ≤ (y : Int) - b ∧ (y : Int) - b < H then (y : Int) - b + 1 else 1000 + (y : Int)
theorem box_all {W H : Nat} (h1 : 1 ≤ W) (h2 : W ≤ 256) (h3 : 1 ≤ H) (h4 : H ≤ 256) : Rect.empty ⟨0, 0, W, H⟩ = false ∧ boxOf W H [⟨0, 0, W, H⟩] = ⟨0, 0, W, H⟩ := by
  have he : Rect.empty ⟨0, 0, (W : Int), (H : Int)⟩ = false := Rect.empty_iff.2 (by dsimp only; omega)
  refine ⟨he, ?_⟩
  unfold boxOf
  rw [show listOf 2 [⟨0, 0, (W : Int), (H : Int)⟩] [⟨0, 0, W, H⟩] = listOf 0 [⟨0, 0, W, H⟩] [] from listOf_eq fun x y => by
    rw [show hasL [] x y = false from rfl]
    cases hasL [⟨0, 0, (W : Int), (H : Int)⟩] x y <;> rfl, form_one he]
  unfold boundsL
  rw [form_one he]
  show Rect.or Rect.zero ⟨0, 0, W, H⟩ = _
  unfold Rect.or
  rw [if_pos (by decide), he]
  rfl
theorem toQ_all {W H : Nat} (h1 : 1 ≤ W) (h2 : W ≤ 256) (h3 : 1 ≤ H) (h4 : H ≤ 256) {b : Int} (b1 : -(H : Int) < b) (b2 : b < H) : toQ ⟨0, 0, W, H⟩ 0 b = ⟨0, max 0 b, W, (H : Int) - max b (-b)⟩ := by
  have he := (box_all h1 h2 h3 h4).1
  have hg : ∀ c : Int, -256 ≤ c → c ≤ 256 → Rect.good ⟨0, c, (W : Int), (H : Int)⟩ = true := fun c _ _ => Rect.good_iff.2 (by dsimp only; omega)
  have hs : Rect.shift ⟨0, 0, W, H⟩ 0 b = ⟨0, b, W, H⟩ := by
    unfold Rect.shift Rect.move
    dsimp only
    rw [show (0 : Int) + 0 = 0 from rfl, Int.zero_add, hg 0 (by omega) (by omega), hg b (by omega) (by omega), within_iff.2 (show (-4194304 : Int) ≤ 0 ∧ (0 : Int) ≤ 4194304 by omega), within_iff.2 (show (-4194304 : Int) ≤ b ∧ b ≤ 4194304 by omega)]
    rfl
  have he2 : Rect.empty ⟨0, b, (W : Int), (H : Int)⟩ = false := Rect.empty_iff.2 (by dsimp only; omega)
  unfold toQ
  rw [hs]
  unfold Rect.and
  rw [he, he2, if_neg (by simp [Rect.meet, mx_eq, mn_eq]; omega)]
  simp only [Rect.meet, mx_eq, mn_eq, Rect.mk.injEq]
  refine ⟨by omega, trivial, by omega, by omega⟩
theorem moves_try {W H : Nat} (h1 : 1 ≤ W) (h2 : W ≤ 8) (h3 : 2 ≤ H) (h4 : H ≤ 30) {b : Int} (b1 : -(H : Int) ≤ 2 * b) (b2 : 2 * b ≤ H) (b0 : b ≠ 0) (dx dy : Int) (hd : (dx = 0 ∧ dy ≠ 0) ∨ (dx ≠ 0 ∧ dy = 0)) :
    tryP W ((rowPic W wasRow (H * W)).map cut24) ((rowPic W (isRow H b) (H * W)).map cut24) ⟨0, 0, W, H⟩ dx dy = decide (dx = 0 ∧ dy = b) := by
  have he := (box_all h1 (show W ≤ 256 by omega) (show 1 ≤ H by omega) (show H ≤ 256 by omega)).1
  have hab : Rect.area ⟨0, 0, (W : Int), (H : Int)⟩ = W * H := area_full he
  have hpa : ∀ {x y : Int}, 0 ≤ x → x < W → 0 ≤ y → y < H → pxAt W ((rowPic W wasRow (H * W)).map cut24) x y = y + 1 := fun {x y} g1 g2 g3 g4 => by
    rw [rowPic_px g1 g2 g3 g4]
    unfold wasRow cut24
    omega
  have hpb : ∀ {x y : Int}, 0 ≤ x → x < W → 0 ≤ y → y < H → pxAt W ((rowPic W (isRow H b) (H * W)).map cut24) x y = if 0 ≤ y - b ∧ y - b < H then y - b + 1 else 1000 + y := fun {x y} g1 g2 g3 g4 => by
    rw [rowPic_px g1 g2 g3 g4]
    unfold isRow cut24
    rw [show ((y.toNat : Nat) : Int) = y by omega]
    split <;> omega
  by_cases hit : dx = 0 ∧ dy = b
  · obtain ⟨rfl, rfl⟩ := hit
    have ht := toQ_all h1 (show W ≤ 256 by omega) (show 1 ≤ H by omega) (show H ≤ 256 by omega) (b := dy) (by omega) (by omega)
    have het : Rect.empty ⟨0, max 0 dy, (W : Int), (H : Int) - max dy (-dy)⟩ = false := Rect.empty_iff.2 (by dsimp only; omega)
    unfold tryP
    rw [ht, hab, area_full het]
    have hA : (W : Int) * H ≤ (W : Int) * ((H : Int) - max dy (-dy)) * 2 := by
      rw [Int.mul_assoc]
      exact Int.mul_le_mul_of_nonneg_left (by omega) (by omega)
    rw [decide_eq_true hA, Bool.true_and, decide_eq_true (And.intro rfl rfl)]
    unfold fitsP
    rw [Bool.and_eq_true]
    constructor
    · rw [List.all_eq_true]
      intro c hc
      have hc2 := cellsR_bd hc
      dsimp only at hc2
      unfold movedAt
      rw [hpb (by omega) (by omega) (by omega) (by omega), hpa (by omega) (by omega) (by omega) (by omega), if_pos (by omega)]
      simp
    · rw [List.any_eq_true]
      refine ⟨(0 + ((0 : Nat) : Int), max 0 dy + ((0 : Nat) : Int)), cellsR_mem (t := ⟨0, max 0 dy, (W : Int), (H : Int) - max dy (-dy)⟩) (by dsimp only; omega) (by dsimp only; omega), ?_⟩
      unfold otherAt
      dsimp only
      rw [hpb (by omega) (by omega) (by omega) (by omega), hpa (by omega) (by omega) (by omega) (by omega), if_pos (by omega)]
      simp
      omega
  · rw [decide_eq_false hit]
    cases hT : tryP W ((rowPic W wasRow (H * W)).map cut24) ((rowPic W (isRow H b) (H * W)).map cut24) ⟨0, 0, W, H⟩ dx dy
    · rfl
    exfalso
    unfold tryP at hT
    rw [Bool.and_eq_true, decide_eq_true_eq] at hT
    obtain ⟨hA, hF⟩ := hT
    rcases toQ_form ⟨0, 0, W, H⟩ dx dy with h | ⟨_, e2, e3, e4, e5, e6, e7⟩
    · rw [h, hab] at hA
      have : (0 : Int) < (W : Int) * H := Int.mul_pos (by omega) (by omega)
      have hz : Rect.area Rect.zero = 0 := by decide
      omega
    · unfold fitsP at hF
      rw [Bool.and_eq_true, List.all_eq_true] at hF
      have hm := hF.1 _ (cellsR_mem (t := toQ ⟨0, 0, W, H⟩ dx dy) (i := 0) (j := 0) (by omega) (by omega))
      dsimp only at e4 e5 e6 e7
      unfold movedAt at hm
      dsimp only at hm
      rw [hpb (by omega) (by omega) (by omega) (by omega), hpa (by omega) (by omega) (by omega) (by omega), beq_iff_eq] at hm
      split at hm <;> omega
theorem stepAt_axis (n : Nat) : ((stepAt n).1 = 0 ∧ (stepAt n).2 ≠ 0) ∨ ((stepAt n).1 ≠ 0 ∧ (stepAt n).2 = 0) := by
  unfold stepAt
  split <;> simp <;> omega
/-- Which step leads up or down by b. -/
def stepOf (b : Int) : Nat := if 0 < b then 4 * (b.toNat - 1) else 4 * ((-b).toNat - 1) + 1
theorem stepOf_at {b : Int} (b0 : b ≠ 0) : stepAt (stepOf b) = (0, b) := by
  unfold stepOf
  split
  · rw [stepAt0]
    simp
    omega
  · rw [stepAt1]
    simp
    omega
theorem stepOf_only {b : Int} {n : Nat} (h : (stepAt n).1 = 0 ∧ (stepAt n).2 = b) : n = stepOf b := by
  unfold stepAt at h
  unfold stepOf
  split at h <;> dsimp only at h <;> split <;> omega
theorem scroll_moves {W H : Nat} (h1 : 1 ≤ W) (h2 : W ≤ 8) (h3 : 2 ≤ H) (h4 : H ≤ 30) {b : Int} (b1 : -(H : Int) ≤ 2 * b) (b2 : 2 * b ≤ H) (b0 : b ≠ 0) :
    scrollOf W H (rowPic W wasRow (H * W)) W H (rowPic W (isRow H b) (H * W)) [⟨0, 0, W, H⟩] = some (stepOf b) := by
  have hp : isPic W H (H * W) = true := by
    unfold isPic
    simp only [Bool.and_eq_true, decide_eq_true_eq]
    refine ⟨by omega, ?_⟩
    rw [Int.natCast_mul, Int.mul_comm]
  unfold scrollOf
  rw [rowPic_length, rowPic_length, hp, if_pos (by simp), (box_all h1 (show W ≤ 256 by omega) (show 1 ≤ H by omega) (show H ≤ 256 by omega)).2]
  have htry : ∀ n, tryAt W ((rowPic W wasRow (H * W)).map cut24) ((rowPic W (isRow H b) (H * W)).map cut24) ⟨0, 0, W, H⟩ n = decide ((stepAt n).1 = 0 ∧ (stepAt n).2 = b) := fun n => moves_try h1 h2 h3 h4 b1 b2 b0 _ _ (stepAt_axis n)
  refine find_hit (fun i hi => ?_) ?_ _ ?_
  · rw [htry]
    refine decide_eq_false fun h => ?_
    have := stepOf_only h
    omega
  · rw [htry]
    exact decide_eq_true (by rw [stepOf_at b0]; exact ⟨rfl, rfl⟩)
  · unfold manyOf stepOf
    split <;> omega
/-- Moved by nothing: the same picture. -/
theorem rowPic_still (W H : Nat) : rowPic W (isRow H 0) (H * W) = rowPic W wasRow (H * W) := by
  unfold rowPic
  refine List.map_congr_left fun k hk => ?_
  rw [List.mem_range] at hk
  have : k / W < H := by
    refine Nat.div_lt_of_lt_mul ?_
    rw [Nat.mul_comm]
    exact hk
  obtain ⟨q, hq⟩ : ∃ q, k / W = q := ⟨_, rfl⟩
  rw [hq] at this ⊢
  unfold isRow wasRow
  rw [if_pos (by omega)]
  omega
theorem moves_area {W H : Nat} (h1 : 1 ≤ W) (h2 : W ≤ 8) (h3 : 2 ≤ H) (h4 : H ≤ 30) {b : Int} (b1 : -(H : Int) ≤ 2 * b) (b2 : 2 * b ≤ H) (b0 : b ≠ 0) :
    (cpTo ⟨0, 0, W, H⟩ (some (stepOf b))) = ⟨0, max 0 b, W, (H : Int) - max b (-b)⟩ ∧ Rect.area ⟨0, max 0 b, W, (H : Int) - max b (-b)⟩ = W * ((H : Int) - max b (-b)) := by
  refine ⟨?_, area_full (Rect.empty_iff.2 (by dsimp only; omega))⟩
  unfold cpTo
  dsimp only
  rw [stepOf_at b0]
  exact toQ_all h1 (by omega) (by omega) (by omega) (by omega) (by omega)
end Go.Proofs.Ytjghghbldifhaaa
set_option linter.unusedVariables false
set_option linter.unusedSimpArgs false
namespace Go.Proofs.Ytjghghbldifhaaa
open Go.RowKit

structure TwoRows (w W1 : World) (PA PB : Nat) (W H : Int) (n m : Nat) (xs ys : List Int) (A : Option Addr) (ca : Nat) (B : Option Addr) (cb : Nat) : Prop where
  kA : W1.heap[PA]? = some (.cells #[.int .i64 W, .int .i64 H, .slice A n ca] 43 (0, 0))
  kB : W1.heap[PB]? = some (.cells #[.int .i64 W, .int .i64 H, .slice B m cb] 43 (0, 0))
  oA : W1.ownsRow w.heap.size 58 1 (.slice A n ca) n (nums .u32 xs)
  oB : W1.ownsRow w.heap.size 58 1 (.slice B m cb) m (nums .u32 ys)
  ne : ∀ g, (Value.slice A n ca).ownBlock = some g → (Value.slice B m cb).ownBlock ≠ some g
  pp : PA ≠ PB
  lA : w.heap.size ≤ PA
  lB : w.heap.size ≤ PB
  E : Ext w W1
theorem TwoRows.swap {w W1 : World} {PA PB : Nat} {W H : Int} {n m : Nat} {xs ys : List Int} {A B : Option Addr} {ca cb : Nat} (h : TwoRows w W1 PA PB W H n m xs ys A ca B cb) : TwoRows w W1 PB PA W H m n ys xs B cb A ca :=
  ⟨h.kB, h.kA, h.oB, h.oA, fun g h1 h2 => h.ne g h2 h1, h.pp.symm, h.lB, h.lA, h.E⟩
section
variable {w W1 W5 : World} {PA PB : Nat} {W H : Int} {n m : Nat} {xs ys : List Int} {A B : Option Addr} {ca cb : Nat} {o : Obj}
theorem TwoRows.farA (h : TwoRows w W1 PA PB W H n m xs ys A ca B cb) (hg : (W1.alloc o).grownBy W5 (Value.slice A n ca).ownBlock) : W5.heap[PA]? = some (.cells #[.int .i64 W, .int .i64 H, .slice A n ca] 43 (0, 0)) :=
  row_far (World.ownsRow.alloc h.oA o) hg (blk_old h.kA o) (by decide)
theorem TwoRows.farB (h : TwoRows w W1 PA PB W H n m xs ys A ca B cb) (hg : (W1.alloc o).grownBy W5 (Value.slice A n ca).ownBlock) : W5.heap[PB]? = some (.cells #[.int .i64 W, .int .i64 H, .slice B m cb] 43 (0, 0)) :=
  row_far (World.ownsRow.alloc h.oA o) hg (blk_old h.kB o) (by decide)
theorem TwoRows.stepA (h : TwoRows w W1 PA PB W H n m xs ys A ca B cb) {A5 : Option Addr} {d5 : Nat} {v : Int} (hr : W5.ownsRow w.heap.size 58 1 (.slice A5 (n + 1) d5) (n + 1) (nums .u32 xs ++ [.int .u32 v])) (hg : (W1.alloc o).grownBy W5 (Value.slice A n ca).ownBlock)
    (hb : (Value.slice A5 (n + 1) d5).ownBlock = (Value.slice A n ca).ownBlock ∨ (Value.slice A5 (n + 1) d5).ownBlock = some (W1.alloc o).heap.size) :
    TwoRows w (W5.setCell ⟨PA, 2, none⟩ (.slice A5 (n + 1) d5)) PA PB W H (n + 1) m (xs ++ [v]) ys A5 d5 B cb := by
  have hr2 : W5.ownsRow w.heap.size 58 1 (.slice A5 (n + 1) d5) (n + 1) (nums .u32 (xs ++ [v])) := by simpa [nums] using hr
  have oB5 : W5.ownsRow w.heap.size 58 1 (.slice B m cb) m (nums .u32 ys) := (World.ownsRow.alloc h.oB o).kept hg (by
    cases e : (Value.slice B m cb).ownBlock with
    | none => exact .inl rfl
    | some g => exact .inr fun e2 => h.ne g e2.symm e)
  have kA5 := h.farA hg
  have kB5 := h.farB hg
  refine ⟨by simpa using blk_set kA5 2 (.slice A5 (n + 1) d5), blk_set_ne kB5 h.pp.symm _ _, row_set hr2 kA5 (by decide) _ _, row_set oB5 kA5 (by decide) _ _, ?_, h.pp, h.lA, h.lB, ?_⟩
  · intro g hg1 hg2
    rcases hb with hb | hb
    · exact h.ne g (hb ▸ hg1) hg2
    · have := (h.oB.lt g hg2).2
      rw [hg1] at hb
      injection hb with hb
      simp at hb
      omega
  · exact (row_ext (World.ownsRow.alloc h.oA o) (h.E.alloc _) hg).set h.lA _
end
/-- append where a call's run is known. -/
theorem wpList_run {P : Program} {ops : Array Oper} {rest : List Oper} {o : Oper} {a : Act} {Q : Exit → Act → World → Prop} {w w' : World} (hgd : o.guard = none) (s x : Operand) (t : TypeId) (ho : o.op = .call { callee := .builtin .append, args := #[s, x], argTypes := #[t, t] }) (v xv v' : Value) (hs : a.eval s = v) (hx : a.eval x = xv)
    (hr : (Builtin.append_ #[t, t] o.type #[v, xv]).run P w = .ok v' w') (h : wpList P ops Q rest (a.put o.dst v') w') : wpList P ops Q (o :: rest) a w := by
  refine wpList_plain hgd fun K hK => ?_
  unfold Oper.wp
  simp only [execOp, ho, resolve, invoke, builtin, Sem.run_bind, Sem.run_pure, Result.andThen_ok, List.map_toArray, List.map_cons, List.map_nil, hs, hx, hr]
  exact hK _ _ h
theorem rects_ahead {w : World} {B : Nat} {xs : Array Value} {t : TypeId} {fr : Nat × Nat} {l : List Rect} {z : List Value} (h : w.heap[B]? = some (.cells xs t fr)) (e : xs.toList = rcells l ++ z) : RectsAt w (some ⟨B, 0, none⟩) l := fun i r hi => by
  have hc : ∀ j, j < 4 → w.cell? ⟨B, 0 + i * 4 + j, none⟩ = (rcell r)[j]? := fun j hj => by
    have hlt : i * 4 + j < (rcells l).length := by
      have := (List.getElem?_eq_some_iff.1 hi).1
      rw [rcells_length]
      omega
    rw [blk_cell h, ← Array.getElem?_toList, e, Nat.zero_add, List.getElem?_append_left hlt]
    exact rcells_get hi j hj
  exact ⟨B, 0, rfl, hc 0 (by omega), hc 1 (by omega), hc 2 (by omega), hc 3 (by omega)⟩
theorem app_full (w : World) (PL : Nat) (r : Rect) (kL : w.heap[PL]? = some (.cells #[.int .i64 r.x, .int .i64 r.y, .int .i64 r.w, .int .i64 r.h] 26 (0, 0))) (lA : Option Addr) (lc : Nat) (l : List Rect) (rl : RectsAt w lA l) (hl : l.length ≤ 16) :
    ∃ B d w', (Builtin.append_ #[22, 22] 22 #[.slice (some ⟨PL, 0, none⟩) 1 1, .slice lA l.length lc]).run Try.prog w = .ok (.slice B (r :: l).length d) w' ∧ RectsAt w' B (r :: l) ∧ Ext w w' := by
  have rL : RectsAt w (some ⟨PL, 0, none⟩) [r] := rects_block kL rfl
  obtain ⟨i, hi, hz, hsz, hby⟩ : ∃ i, Try.prog.info? 26 = some i ∧ i.zero = some (.agg #[.int .i64 0, .int .i64 0, .int .i64 0, .int .i64 0]) ∧ i.size = 4 ∧ i.bytes ≤ 32 := by
    have h := info_rect
    cases e : Try.prog.info? 26 with
    | none => rw [e] at h; cases h
    | some i =>
      rw [e] at h
      simp only [Option.map_some, Option.some.injEq, Prod.mk.injEq] at h
      exact ⟨i, rfl, h.1, h.2.1, Nat.le_of_eq h.2.2⟩
  cases l with
  | nil =>
    refine ⟨some ⟨PL, 0, none⟩, 1, w, ?_, rL, Ext.refl w⟩
    cases lA with
    | none => simp [Builtin.append_, run_underlying Try.underlying22, sizeOf, typeInfo, hi, hsz, Builtin.lenOf, run_firstCells_none, storeCells]
    | some a =>
      have hf := run_firstCells_some (P := Try.prog) w i.size 0 a 0 lc [] (by simp) (by simp)
      simp [Builtin.append_, run_underlying Try.underlying22, sizeOf, typeInfo, hi, Builtin.lenOf, hf, storeCells]
  | cons q l =>
    obtain ⟨a, rfl, ha⟩ := rl.shows (by simp [rcells, rcell])
    have hn2 : 1 + (q :: l).length ≤ 17 := by simp only [List.length_cons] at hl ⊢; omega
    have hfit : Builtin.nextslicecap (1 + (q :: l).length) 1 * i.bytes ≤ 281474976710656 := by
      refine growslice_fits (by simp) ?_
      generalize 1 + (q :: l).length = k at hn2
      have : k * i.bytes ≤ 17 * i.bytes := Nat.mul_le_mul_right _ hn2
      omega
    have hold : ∀ j v, (rcell r)[j]? = some v → w.cell? ((⟨PL, 0, none⟩ : Addr).add j) = some v := by
      obtain ⟨b, hb, hc⟩ := rL.shows (by simp [rcells, rcell])
      injection hb with hb
      rw [show rcells [r] = rcell r from List.append_nil _] at hc
      intro j v hj
      rw [hb]
      exact hc j v hj
    have h := run_append_grow (P := Try.prog) w 22 22 26 i _ Try.underlying22 hi hz ⟨PL, 0, none⟩ 1 1 (rcell r) (by rw [hsz]; rfl) hold a (q :: l).length lc (rcells (q :: l)) (by rw [hsz, rcells_length]) ha (by simp) (by simp only [List.length_cons] at hl ⊢; omega) hfit
    refine ⟨_, _, _, h.trans (by rw [Nat.add_comm 1 (q :: l).length]; rfl), ?_, ?_⟩
    · exact rects_ahead (z := (Builtin.zeroCells (Value.agg #[.int .i64 0, .int .i64 0, .int .i64 0, .int .i64 0]).cells (grownCap w (1 + (q :: l).length) 1 26 - (1 + (q :: l).length))).toList) (blk_new w.drew _) (by simp [rcells, Nat.add_comm 1])
    · exact (Ext.refl w).drew.alloc _
end Go.Proofs.Ytjghghbldifhaaa
