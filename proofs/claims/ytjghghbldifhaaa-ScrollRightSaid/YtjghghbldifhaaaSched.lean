/- A region that draws its order, walked along one schedule: what only reads (in a class of worlds) is taken when it may come up; what turns the world comes up alone. No program in sight. -/
import Derived.Test.YtjghghbldifhaaaSeqB
import Derived.OrdersHeld
set_option linter.unusedVariables false
set_option linter.unusedSimpArgs false
namespace Go.Proofs.Ytjghghbldifhaaa
open Go.RowKit Go.Shelf
section
variable {P : Program} {ops : Array Oper} {md : Region.Mode} {C : World → Prop} {Q : Exit → Act → World → Prop}
/-- Operations that yield a value and call no function. -/
def loadLike : Op → Bool
  | .move _ | .assign _ | .slice .. | .pick .. | .load .. | .binOp .. | .unOp .. | .fieldAddr .. | .field .. | .indexAddr .. | .extract .. | .convert .. => true
  | .call { callee := .builtin .len, .. } => true
  | _ => false
theorem loadLike_form {o : Oper} {ρ : Operand → Value} (ho : loadLike o.op = true) : ∃ s : Sem Value, ∀ w, (execOp ρ o).run P w = (s.run P w).andThen fun v w' => .ok (.value v) w' := by
  obtain ⟨dst, op, type, pos, after, guard⟩ := o
  dsimp only at ho
  unfold execOp
  cases op <;> simp only [loadLike, Bool.false_eq_true] at ho
  case move x => exact ⟨pure (ρ x), fun w => rfl⟩
  case assign x => exact ⟨pure (ρ x), fun w => rfl⟩
  case pick c x y => exact ⟨(do pure (if ← asBool (ρ c) then ρ x else ρ y)), fun w => by simp only [Sem.run_bind, Sem.run_pure]; cases (asBool (ρ c)).run P w <;> rfl⟩
  case call c =>
    obtain ⟨callee, cargs, ats⟩ := c
    cases callee
    case builtin b =>
      cases b <;> simp only [Bool.false_eq_true] at ho
      exact ⟨Builtin.len_ ats type (cargs.map ρ), fun w => by simp only [resolve, Sem.run_bind, Sem.run_pure, Result.andThen_ok, invoke, builtin]⟩
    all_goals simp only [Bool.false_eq_true] at ho
  all_goals exact ⟨_, fun w => Sem.run_bind ..⟩
def takesB (md : Region.Mode) (ops : Array Oper) : List Nat → Array Bool → Bool
  | [], _ => true
  | k :: r, listed => (Region.ready md ops listed).contains k && Region.free md ops listed k && ((ops[k]?).map fun o => loadLike o.op).getD false && takesB md ops r (listed.setIfInBounds k true)
def listedBy : List Nat → Array Bool → Array Bool
  | [], l => l
  | k :: r, l => listedBy r (l.setIfInBounds k true)
theorem yieldsIf_quiet {o : Oper} {a : Act} {K : Act → Prop} (hl : loadLike o.op = true) (hw : Region.wanted o (yielded ops a.tmps) = true) (h : o.quiet P a C K) : ∃ v, YieldsIf P ops C o v a ∧ K (a.put o.dst v) := by
  obtain ⟨v, hv, hk⟩ := h
  refine ⟨v, .inl ⟨hw, fun w hc => ?_⟩, hk⟩
  have h1 := hv w hc
  unfold Oper.quietAt at h1
  obtain ⟨s, hs⟩ := loadLike_form (P := P) (ρ := a.eval) hl
  rw [hs w] at h1 ⊢
  cases hr : s.run P w with
  | ok u w' =>
    rw [hr] at h1
    simp only [Result.andThen, Oper.quietUpon] at h1 ⊢
    obtain ⟨rfl, rfl⟩ := h1
    rfl
  | halt x w' =>
    rw [hr] at h1
    simp only [Result.andThen, Oper.quietUpon] at h1
/-- What only reads is taken, one by one. -/
theorem held_quiet (hsel : Region.noSelect ops = true) (hQ : ∀ c a w, ¬ Q (.panic c) a w) : ∀ (ks : List Nat) (seg : List Oper) (listed : Array Bool) (a : Act) (w : World) (fuel : Nat), ks.filterMap (ops[·]?) = seg → takesB md ops ks listed = true → C w →
    wpQuiet P ops C (fun a' => wpAnyH P md ops Q C fuel (listedBy ks listed) a' w) seg a → wpAnyH P md ops Q C (fuel + ks.length) listed a w
  | [], seg, listed, a, w, fuel, hs, _, _, h => by
    simp only [List.filterMap_nil] at hs
    subst hs
    exact h
  | k :: r, seg, listed, a, w, fuel, hs, hB, hC, h => by
    simp only [takesB, Bool.and_eq_true] at hB
    obtain ⟨⟨⟨hr, hf⟩, ho⟩, hB2⟩ := hB
    cases hk : ops[k]? with
    | none => rw [hk] at ho; simp at ho
    | some o =>
      rw [hk] at ho
      simp only [Option.map_some, Option.getD_some] at ho
      rw [List.filterMap_cons, hk] at hs
      dsimp only at hs
      subst hs
      rw [show fuel + (k :: r).length = (fuel + r.length) + 1 by simp; omega]
      by_cases hw : Region.wanted o (yielded ops a.tmps) = true
      · simp only [wpQuiet, hw, if_true] at h
        obtain ⟨v, hy, hkk⟩ := yieldsIf_quiet ho hw h
        exact wpAnyH_take hk hsel hf hr (fun c a w h => absurd h (hQ _ _ _)) hy hC (held_quiet hsel hQ r _ _ _ _ fuel rfl hB2 hC hkk)
      · simp only [wpQuiet, hw] at h
        exact wpAnyH_take hk hsel hf hr (fun c a w h => absurd h (hQ _ _ _)) (.inr ⟨by simpa using hw, rfl⟩) hC (held_quiet hsel hQ r _ _ _ _ fuel rfl hB2 hC (by rw [if_neg (by simp)] at h; exact h))
theorem held_take (ks : List Nat) (seg : List Oper) (n fuel : Nat) (hn : n = fuel + ks.length) {listed : Array Bool} {a : Act} {w : World} {Post : Act → World → Prop} (hsel : Region.noSelect ops = true) (hs : ks.filterMap (ops[·]?) = seg) (hB : takesB md ops ks listed = true) (hC : C w)
    (h : wpQuiet P ops C (fun a' => wpAnyH P md ops (NormalOnly Post) C fuel (listedBy ks listed) a' w) seg a) : wpAnyH P md ops (NormalOnly Post) C n listed a w := by
  subst hn
  exact held_quiet hsel (fun c a w h => h) ks seg listed a w fuel hs hB hC h
/-- What turns the world comes up alone. -/
theorem held_step {k : Nat} {o : Oper} {listed : Array Bool} {a : Act} {w : World} {fuel : Nat} {Post : Act → World → Prop} (hk : ops[k]? = some o) (hr : Region.ready md ops listed = [k])
    (h : wpList P ops (NormalOnly (fun a' w' => C w' ∧ wpAnyH P md ops (NormalOnly Post) C fuel (listed.setIfInBounds k true) a' w')) [o] a w) : wpAnyH P md ops (NormalOnly Post) C (fuel + 1) listed a w := by
  refine wpAnyH_all hr (by simp) fun i hi => ?_
  have : i = k := by simpa using hi
  subst this
  unfold wpOp
  simp only [hk]
  simp only [wpList] at h
  by_cases hw : Region.wanted o (yielded ops a.tmps) = true
  · rw [if_pos hw] at h ⊢
    rcases h with h | h
    · left
      unfold Oper.wp at h ⊢
      generalize (execOp a.eval o).run P w = r at h ⊢
      cases r with
      | ok x w' =>
        cases x <;> simp only [Oper.upon] at h ⊢
        case enter f args =>
          refine Calls.mono h ?_
          intro e w'' he
          cases e with
          | returned v => exact he
          | panicked c => exact he.elim
          | outgrown => exact absurd he NormalOnly.shut
        all_goals exact h
      | halt x w' => cases x <;> simp only [Oper.upon] at h ⊢ <;> exact h.elim
    · exact absurd h.2 NormalOnly.shut
  · rw [if_neg hw] at h ⊢
    exact h
theorem held_done {Post : Act → World → Prop} {listed : Array Bool} {a : Act} {w : World} (hr : Region.ready md ops listed = []) (h : Post a w) : wpAnyH P md ops (NormalOnly Post) C 0 listed a w := ⟨hr, h⟩
/-- The region, in a frame of a function's own. -/
theorem wp_region_sched {id : Nat} {a : Act} {w : World} {l : List Oper} (C : World → Prop) (hm : P.follows .mixedOrders = true)
    (h : wpAnyH P .any l.toArray (NormalOnly (fun a' w' => Q .normal a' w')) C l.length (Array.replicate l.length false) a { w with drawn := w.drawn + 1 }) : (Code.region id l.toArray true).wp P Q a w :=
  Code.wp_mono (fun e a' w' h => by cases e <;> first | exact h | exact h.elim) (wp_region_held (S := C) (Q := NormalOnly (fun a' w' => Q .normal a' w')) hm (by simpa using h))
/-- The region, in a round of a range over a function. -/
theorem round_region_sched {id lp n : Nat} {a : Act} {w : World} {l : List Oper} (C : World → Prop) (hm : P.follows .mixedOrders = true) (hd : noDefer l.toArray = true)
    (h : wpAnyH P .any l.toArray (NormalOnly (fun a' w' => Q .normal a' w')) C l.length (Array.replicate l.length false) a { w with drawn := w.drawn + 1 }) : (Code.region id l.toArray true).wpIn (Fence.wide.inRound lp) n P Q a w := by
  refine wpIn_mono (Q := NormalOnly (fun a' w' => Q .normal a' w')) (wpIn_region_any hm ?_) (fun e a' w' h => by cases e <;> first | exact h | exact h.elim)
  have := wpAny_round (l := lp) (n := n) hd _ _ _ _ (wpAny_of_held _ _ _ _ h)
  simpa using this
end
end Go.Proofs.Ytjghghbldifhaaa
