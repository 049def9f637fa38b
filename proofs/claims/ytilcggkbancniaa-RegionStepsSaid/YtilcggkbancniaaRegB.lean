/- The walk of vignetteref02.edges: where rectangles begin and end. -/
import Derived.Test.YtilcggkbancniaaRegA
import Derived.Test.YtilcggkbancniaaRefD
set_option linter.unusedVariables false
set_option linter.unusedSimpArgs false
namespace Go.Proofs.Ytilcggkbancniaa
open Go.RowKit

/-- A cut is put in its place, once. -/
def edgeAt (x : Int) (out : List Int) : Nat := (out.takeWhile (fun y => decide (y < x))).length
def edgeIns (x : Int) (out : List Int) : List Int := if out[edgeAt x out]? = some x then out else out.take (edgeAt x out) ++ [x] ++ out.drop (edgeAt x out)
/-- The two cuts of a rectangle, the first s of them. -/
def edge1 (down : Bool) (r : Rect) (s : Nat) : Int := if down then r.y + s * r.h else r.x + s * r.w
def edgeSt (down : Bool) (r : Rect) (out : List Int) : Nat → List Int
  | 0 => out
  | s + 1 => edgeIns (edge1 down r s) (edgeSt down r out s)
def edgesP (down : Bool) : List Rect → List Int → List Int
  | [], out => out
  | r :: l, out => edgesP down l (if r.empty then out else edgeSt down r out 2)
theorem edgeAt_le (x : Int) (out : List Int) : edgeAt x out ≤ out.length := by
  unfold edgeAt
  exact List.Sublist.length_le (List.takeWhile_sublist _)
theorem takeWhile_nth {p : Int → Bool} : ∀ {l : List Int} {k : Nat}, k < l.length → k ≤ (l.takeWhile p).length → (∀ y, l[k]? = some y → (p y = true → k + 1 ≤ (l.takeWhile p).length) ∧ (p y = false → k = (l.takeWhile p).length))
  | [], k, h, _ => by simp at h
  | a :: l, 0, h, hk => fun y hy => by
    simp at hy
    subst hy
    cases hp : p a
    · simp [List.takeWhile_cons, hp]
    · simp [List.takeWhile_cons, hp]
  | a :: l, k + 1, h, hk => fun y hy => by
    cases hp : p a
    · simp [List.takeWhile_cons, hp] at hk
    · have hk' : k ≤ (l.takeWhile p).length := by simp [List.takeWhile_cons, hp] at hk; omega
      have ih := takeWhile_nth (p := p) (l := l) (k := k) (by simpa using h) hk' y (by simpa using hy)
      simp only [List.takeWhile_cons, hp, if_true, List.length_cons]
      exact ⟨fun e => by have := ih.1 e; omega, fun e => by have := ih.2 e; omega⟩
theorem edgeIns_length (x : Int) (out : List Int) : (edgeIns x out).length ≤ out.length + 1 := by
  unfold edgeIns
  split
  · omega
  · have := edgeAt_le x out
    simp
    omega

/-- The first k of a row of the call's own. -/
theorem row_take {w : World} {base n d k size : Nat} {A : Option Addr} {e : TypeId} {xs : List Value} (h : w.ownsRow base e size (.slice A n d) n xs) (hk : k ≤ n) (hA : A ≠ none) : w.ownsRow base e size (.slice A k d) k (xs.take (k * size)) := by
  obtain ⟨h1, h2⟩ := h
  have hks : k * size ≤ n * size := Nat.mul_le_mul_right _ hk
  refine ⟨by rw [List.length_take]; omega, ?_⟩
  rcases h2 with ⟨e1, _⟩ | ⟨g, cap, cur, e1, e2, e3, e4, e5, e6, e7⟩
  · injection e1 with e1; exact absurd e1 hA
  · injection e1 with e1 e8 e9
    subst e1; subst e9
    exact .inr ⟨g, d, cur, rfl, e2, e3, by omega, e5, e6, by rw [← e7, List.take_take]; congr 1; omega⟩
theorem row_base {W : World} {base size n : Nat} {e : TypeId} {v : Value} {xs : List Value} (h : W.ownsRow base e size v n xs) : ∀ r, v.ownBlock = some r → base ≤ r := fun r e1 => (row_block h e1).1
theorem row_nil_of {W : World} {base size n d : Nat} {e : TypeId} {A : Option Addr} {xs : List Value} (h : W.ownsRow base e size (.slice A n d) n xs) : A = none → d = 0 ∧ n = 0 := fun ha => by
  rcases h.2 with ⟨e1, e2⟩ | ⟨g, cap, cur, e1, _⟩
  · injection e1 with _ _ e3; exact ⟨e3, e2⟩
  · injection e1 with e1; rw [ha] at e1; cases e1
theorem info_int : (Try.prog.info? 3).map (fun i => (i.zero, i.size, i.bytes)) = some (some (.int .i64 0), 1, 8) := by kernel_rfl

theorem RectsAt.below {w w1 : World} {A : Option Addr} {l : List Rect} {base : Nat} (h : RectsAt w A l) (hA : ∀ b off, A = some ⟨b, off, none⟩ → b < base) (hb : Below base w w1) : RectsAt w1 A l := fun i r hi => by
  obtain ⟨b, off, h1, h2, h3, h4, h5⟩ := h i r hi
  have hlt := hA b off h1
  exact ⟨b, off, h1, (hb.cell (p := ⟨b, _, none⟩) hlt).trans h2, (hb.cell (p := ⟨b, _, none⟩) hlt).trans h3, (hb.cell (p := ⟨b, _, none⟩) hlt).trans h4, (hb.cell (p := ⟨b, _, none⟩) hlt).trans h5⟩
theorem Below.alloc' {base : Nat} {w w1 : World} (h : Below base w w1) (hb : base ≤ w1.heap.size) (o : Obj) : Below base w (w1.alloc o) := Below.alloc h hb o
/-- A put in its place: what the two appends leave. -/
theorem edgeIns_at {x : Int} {ys : List Int} {q : Nat} (hq : q = edgeAt x ys) (hne : ys[q]? ≠ some x) : edgeIns x ys = ys.take q ++ [x] ++ ys.drop q := by
  unfold edgeIns
  rw [← hq, if_neg hne]

theorem row_cap' {w : World} {base n d size : Nat} {A : Option Addr} {e : TypeId} {xs : List Value} (h : w.ownsRow base e size (.slice A n d) n xs) : n ≤ d ∧ d ≤ maxLen := by
  rcases h.2 with ⟨h1, h2⟩ | ⟨g, cap, cur, e1, _, _, h3, h4, _⟩
  · injection h1 with _ h5 h6
    subst h5; subst h6
    simp
  · injection e1 with _ _ e3
    subst e3
    exact ⟨h3, h4⟩
theorem shows_row {w : World} {base n d : Nat} {A : Option Addr} {e : TypeId} {k : IntKind} {xs : List Int} (h : w.ownsRow base e 1 (.slice A n d) n (nums k xs)) (hl : xs.length = n) : Shows w A (nums k xs) := by
  subst hl
  obtain ⟨A2, c2, hv, hr, _⟩ := Own.reads (show Own k e w base (.slice A xs.length d) xs from h)
  injection hv with e1 _ _
  rw [e1]
  exact hr.shows
theorem shows_drop {w : World} {base n d g p : Nat} {e : TypeId} {k : IntKind} {xs : List Int} (h : w.ownsRow base e 1 (.slice (some ⟨g, 0, none⟩) n d) n (nums k xs)) (hl : xs.length = n) : Shows w (some ⟨g, p, none⟩) (nums k (xs.drop p)) := by
  intro _
  refine ⟨_, rfl, fun j u hu => ?_⟩
  have hj : j < (xs.drop p).length := by
    rcases Nat.lt_or_ge j (xs.drop p).length with h1 | h1
    · exact h1
    · rw [List.getElem?_eq_none (by rw [nums_length]; exact h1)] at hu; cases hu
  rw [nums_get hj] at hu
  injection hu with hu
  rw [List.length_drop] at hj
  rw [add_plain, World.ownsRow.cellAt h (p + j) (by omega), nums_get (by omega), ← hu]
  simp [List.getD_eq_getElem?_getD, List.getElem?_drop]

set_option maxRecDepth 100000 in
set_option maxHeartbeats 8000000 in
theorem edges_any (A : Option Addr) (c : Nat) (l : List Rect) (down : Bool) (B0 : Option Addr) (d0 base : Nat) (xs0 : List Int) (w : World) (hl : RectsAt w A l) (hbelow : ∀ b off, A = some ⟨b, off, none⟩ → b < base) (hm : l.length ≤ 1000000) (hown0 : w.ownsRow base 3 1 (.slice B0 xs0.length d0) xs0.length (nums .i64 xs0)) (hb0 : base ≤ w.heap.size) (hn0 : xs0.length ≤ 10000000) :
    Calls Try.prog 86 #[.slice A l.length c, .bool down, .slice B0 xs0.length d0] w fun e w' => ∃ B d, e = .returned (.slice B (edgesP down l xs0).length d) ∧ w'.ownsRow base 3 1 (.slice B (edgesP down l xs0).length d) (edgesP down l xs0).length (nums .i64 (edgesP down l xs0)) ∧ Below base w w' := by
  go_enter Try.func86, Try.ntmps86
  go_wp2_with fail
  go_loopw [2, 7, 8, 9, 10, 11] (fun v i _ _ _ _ wr => ∃ (k : Nat) (xs : List Int) (B : Option Addr) (d : Nat), k ≤ l.length ∧ i = .int .i64 k ∧ v = .slice B xs.length d ∧ xs.length ≤ xs0.length + 2 * k ∧ wr.ownsRow base 3 1 (.slice B xs.length d) xs.length (nums .i64 xs) ∧ Below base w wr ∧ edgesP down (l.drop k) xs = edgesP down l xs0) (fun _ i _ _ _ _ _ => l.length - (intOf i).toNat)
  case atStart => exact ⟨0, xs0, B0, d0, Nat.zero_le _, rfl, rfl, by omega, hown0, Below.refl _ _, rfl⟩
  case round =>
    obtain ⟨k, xs, B, d, hk, rfl, rfl, hnb, hown, hE, hst⟩ := hrel
    have Hst := Lib.hid hst
    clear hst hown0
    by_cases hlt : k < l.length
    · obtain ⟨b, off, hA, hc⟩ := (hl.below hbelow hE).form (by omega)
      obtain ⟨h0, h1, h2, h3⟩ := hc k l[k] (List.getElem?_eq_getElem hlt)
      have hd : edgesP down (l.drop k) xs = edgesP down (l.drop (k + 1)) (if Rect.empty l[k] then xs else edgeSt down l[k] xs 2) := by rw [List.drop_eq_getElem_cons hlt]; rfl
      rw [hd] at Hst
      have hrk : l[k]? = some l[k] := List.getElem?_eq_getElem hlt
      have HR := Lib.hid hrk
      clear hd hc hrk
      generalize l[k] = r at *
      have hbA := hbelow b off hA
      subst hA
      have hh := fun w => rempty_any r.x r.y r.w r.h w
      simp only [show Rect.mk r.x r.y r.w r.h = r from rfl] at hh
      cases hem : Rect.empty r
      · simp only [hem] at hh
        rw [hem] at Hst
        simp only [Bool.false_eq_true, if_false] at Hst
        have hgood := Rect.empty_iff.1 hem
        obtain ⟨⟨x1, x2, x3, x4⟩, y1, y2, y3, y4⟩ := hgood
        go_wp2_with fail
        refine (hh _).mono ?_
        rintro e w1 ⟨rfl, hb1⟩
        have hbs : base ≤ wr.heap.size := Nat.le_trans hb0 hE.size
        replace hown := row_keep hown hb1
        replace hE : Below base w w1 := hE.trans (Below.mono hb1 hbs)
        clear hh h0 h1 h2 h3 hb1 hbs
        go_wp2_with fail
        go_loopw [2, 8, 9, 10, 11] (fun v s _ _ _ wr => ∃ (t : Nat) (ys : List Int) (B : Option Addr) (d : Nat), t ≤ 2 ∧ s = .int .i64 t ∧ v = .slice B ys.length d ∧ edgeSt down r xs t = ys ∧ ys.length ≤ xs.length + t ∧ wr.ownsRow base 3 1 (.slice B ys.length d) ys.length (nums .i64 ys) ∧ Below base w wr) (fun _ s _ _ _ _ => 2 - (intOf s).toNat)
        case atStart => exact ⟨0, xs, B, d, by omega, rfl, rfl, rfl, by omega, hown, hE⟩
        case round =>
          clear hown hE
          obtain ⟨t, ys, B, d, ht, rfl, rfl, hys, hyn, hown, hE⟩ := hrel
          by_cases htl : t < 2
          · obtain ⟨b', off', hA', hc⟩ := (hl.below hbelow hE).form (by omega)
            injection hA' with hA'
            injection hA' with e1 e2
            subst e1; subst e2
            obtain ⟨h0, h1, h2, h3⟩ := hc k r HR.out
            clear hc
            have hbw : base ≤ wr.heap.size := Nat.le_trans hb0 hE.size
            have tw : ((t : Int) * r.w = 0 ∨ (t : Int) * r.w = r.w) ∧ ((t : Int) * r.h = 0 ∨ (t : Int) * r.h = r.h) := by
              have : t = 0 ∨ t = 1 := by omega
              rcases this with rfl | rfl <;> simp
            have v1 : IntKind.i64.wrap ((t : Int) * r.w) = (t : Int) * r.w := IntWalk.i64_in _ (by omega)
            have v2 : IntKind.i64.wrap (r.x + (t : Int) * r.w) = r.x + (t : Int) * r.w := IntWalk.i64_in _ (by omega)
            have v3 : IntKind.i64.wrap ((t : Int) * r.h) = (t : Int) * r.h := IntWalk.i64_in _ (by omega)
            have v4 : IntKind.i64.wrap (r.y + (t : Int) * r.h) = r.y + (t : Int) * r.h := IntWalk.i64_in _ (by omega)
            have hsx : edgeSt down r xs (t + 1) = edgeIns (edge1 down r t) ys := by rw [← hys]; rfl
            have HS := Lib.hid hsx
            clear hys hsx
            have hed : edge1 down r t = if down then r.y + (t : Int) * r.h else r.x + (t : Int) * r.w := rfl
            rw [hed] at HS
            clear hed
            have u1 : wrap64 ((t : Int) * r.w) = (t : Int) * r.w := IntWalk.wrap64_in _ (by omega)
            have u2 : wrap64 (r.x + (t : Int) * r.w) = r.x + (t : Int) * r.w := IntWalk.wrap64_in _ (by omega)
            have u3 : wrap64 ((t : Int) * r.h) = (t : Int) * r.h := IntWalk.wrap64_in _ (by omega)
            have u4 : wrap64 (r.y + (t : Int) * r.h) = r.y + (t : Int) * r.h := IntWalk.wrap64_in _ (by omega)
            clear tw
            cases down
            · simp only [Bool.false_eq_true, if_false] at HS
              go_wp2_with fail
              go_quiet (fail)
              replace hown : (wr.drewN nq).ownsRow _ _ _ _ _ _ := hown
              replace hE : Below base w (wr.drewN nq) := ⟨hE.os, hE.tape, hE.output, hE.size, hE.block⟩
              replace hbw : base ≤ (wr.drewN nq).heap.size := hbw
              clear h0 h1 h2 h3 v1 v2 v3 v4 u1 u2 u3 u4
              generalize wr.drewN nq = w2 at *
              generalize r.x + (t : Int) * r.w = eX at *
              go_wp2_with fail
              go_loopw [10] (fun q wq => ∃ p : Nat, q = .int .i64 p ∧ p ≤ edgeAt eX ys ∧ wq = w2) (fun q _ => ys.length - (intOf q).toNat)
              case atStart => exact ⟨0, rfl, Nat.zero_le _, rfl⟩
              case round =>
                obtain ⟨p, rfl, hp, rfl⟩ := hrel
                have hle := edgeAt_le eX ys
                by_cases hpl : p < ys.length
                · obtain ⟨g, rfl, hgb⟩ := row_form hown (by omega)
                  have hrc := World.ownsRow.cellAt hown p (by omega)
                  rw [nums_get hpl] at hrc
                  obtain ⟨y, hy⟩ : ∃ y, ys[p] = y := ⟨_, rfl⟩
                  have hy1 : ys[p]? = some y := by rw [List.getElem?_eq_getElem hpl, hy]
                  have hy2 : ys.getD p 0 = y := by rw [List.getD_eq_getElem?_getD, hy1]; rfl
                  rw [hy2] at hrc
                  have htw := takeWhile_nth (p := fun y => decide (y < eX)) hpl hp y hy1
                  have HY := Lib.hid hy1
                  clear hy hy1 hy2
                  by_cases hye : y < eX
                  · have hp2 := htw.1 (by simpa using hye)
                    clear htw
                    go_wp2_with fail
                    exact ⟨⟨p + 1, by go_num, hp2, by first | rfl | trivial⟩, by simp [intOf]; omega⟩
                  · have hp2 : p = edgeAt eX ys := htw.2 (by simpa using hye)
                    have HP := Lib.hid hp2
                    clear htw hp2 hp hle
                    by_cases hyy : y = eX
                    · have hins : edgeIns eX ys = ys := by
                        unfold edgeIns
                        rw [if_pos (by rw [← HP.out, HY.out, hyy])]
                      have HI := Lib.hid hins
                      clear hins
                      subst hyy
                      go_wp2_with fail
                      exact ⟨⟨t + 1, ys, some ⟨g, 0, none⟩, d, by omega, by go_num, rfl, by rw [HS.out]; exact HI.out, by omega, hown, hE⟩, by simp [intOf]; omega⟩
                    · have hne : ys[p]? ≠ some eX := by rw [HY.out]; intro h; injection h with h; exact hyy h
                      have HI := Lib.hid (edgeIns_at HP.out hne)
                      have hcap := row_cap' hown
                      have hdp : ¬ (d = p) := by omega
                      have hsh := shows_drop (p := p) hown rfl
                      have hdl : (ys.drop p).length = ys.length - p := by rw [List.length_drop]
                      have hsn : (nums .i64 (ys.drop p)).length = (ys.length - p) * 1 := by rw [nums_length, hdl]; omega
                      have hglt : g < wr.heap.size := (World.ownsRow.lt hown g (by simp [Value.ownBlock])).2
                      have hpn : p ≤ ys.length := by omega
                      have hsm : ys.length ≤ 100000000 := by omega
                      clear hne HY HP hdl
                      go_wp2_with (first
                        | (refine wpList_app wr.heap.size rfl (.const (.slice none 0 0)) (.tmp 82) 81 3 (.int .i64 0) 1 8 rfl Try.underlying81 info_int rfl (by decide) (by decide) (.slice none 0 0) 0 [] rfl (World.ownsRow_nil _ _ _ _) (some ⟨g, p, none⟩) (ys.length - p) (d - p) (nums .i64 (ys.drop p)) rfl (fun h => by cases h) hsn hsh nums_one (by omega) (Nat.le_refl _) (fun z1 w3 hr1 hg1 => ?_); obtain ⟨R1, D1, rfl⟩ := row_slice hr1; rw [Nat.zero_add, List.nil_append] at hr1)
                        | (refine wpList_app base rfl (.tmp 86) (.tmp 88) 81 3 (.int .i64 0) 1 8 rfl Try.underlying81 info_int rfl (by decide) (by decide) (.slice (some ⟨g, 0, none⟩) p d) p ((nums .i64 ys).take (p * 1)) rfl (World.ownsRow.alloc (row_take (row_keep hown (ext_none' (Ext.refl _) hg1)) hpn (by simp)) _) (some ⟨w3.heap.size, 0, none⟩) 1 1 [.int .i64 eX] rfl (fun h => by cases h) rfl (fun _ => ⟨_, rfl, World.news_of_block (blk_new w3 _)⟩) (by simp [Value.oneCell']) (by omega) (Nat.le_trans hbw (Nat.le_trans hg1.size (by simp))) (fun z2 w4 hr2 hg2 => ?_); obtain ⟨R2, D2, rfl⟩ := row_slice hr2)
                        | (refine wpList_app base rfl (.tmp 89) (.tmp 90) 81 3 (.int .i64 0) 1 8 rfl Try.underlying81 info_int rfl (by decide) (by decide) (.slice R2 (p + 1) D2) (p + 1) _ rfl hr2 R1 (ys.length - p) D1 (nums .i64 (ys.drop p)) rfl (fun h => (row_nil_of hr1 h).1) hsn (shows_row (World.ownsRow.kept (World.ownsRow.alloc hr1 _) hg2 (.inr (fun e => absurd (row_base hr1 g e) (by omega)))) (by rw [List.length_drop])) nums_one (by omega) (Nat.le_trans hbw (Nat.le_trans hg1.size (Nat.le_trans (by simp) hg2.size))) (fun z3 w5 hr3 hg3 => ?_); obtain ⟨R3, D3, rfl⟩ := row_slice hr3))
                      have hE3 : Below base w w3 := hE.trans (Below.mono (ext_none' (Ext.refl _) hg1) hbw)
                      have hb3 : base ≤ w3.heap.size := Nat.le_trans hbw hg1.size
                      have hE3' := Below.alloc hE3 hb3 (.cells #[.int .i64 eX] 3)
                      have hb3' : base ≤ (w3.alloc (.cells #[.int .i64 eX] 3)).heap.size := Nat.le_trans hb3 (by simp)
                      have hE4 : Below base w w4 := Below.grown hE3' hg2 hb3' (fun r e => by simp [Value.ownBlock] at e; omega)
                      have hE5 : Below base w w5 := Below.grown hE4 hg3 (Nat.le_trans hb3' hg2.size) (row_base hr2)
                      have hlen5 : p + 1 + (ys.length - p) = (edgeIns eX ys).length := by rw [HI.out]; simp; omega
                      have hnum5 : (nums .i64 ys).take (p * 1) ++ [.int .i64 eX] ++ nums .i64 (ys.drop p) = nums .i64 (edgeIns eX ys) := by rw [HI.out]; simp [nums, List.map_take, List.map_drop]
                      rw [hnum5, hlen5] at hr3
                      rw [hlen5]
                      have hl6 : (edgeIns eX ys).length ≤ ys.length + 1 := edgeIns_length _ _
                      have hr5 := hr3
                      have hyn' := hyn
                      clear hr3 hr2 hr1 hg1 hg2 hg3 hlen5 hnum5 hsn hsh hcap hdp hrc
                      go_wp2_with fail
                      exact ⟨⟨t + 1, edgeIns eX ys, R3, D3, by omega, by go_num, rfl, HS.out, by omega, hr5, hE5⟩, by simp [intOf]; omega⟩
                · have hpe : p = ys.length := by omega
                  have hpa : p = edgeAt eX ys := by omega
                  have hne : ys[p]? ≠ some eX := by rw [hpe]; simp
                  have HI := Lib.hid (edgeIns_at hpa hne)
                  have hsm : ys.length ≤ 100000000 := by omega
                  clear hpa hne hp hle
                  subst hpe
                  rcases B with _ | a0
                  · obtain ⟨rfl, hn0'⟩ := row_nil_of hown rfl
                    have hyn0 : ys = [] := List.eq_nil_of_length_eq_zero hn0'
                    have hsm2 : ys.length = 0 := hn0'
                    subst hyn0
                    simp only [List.length_nil] at *
                    go_wp2_with (first
                      | (refine wpList_app wr.heap.size rfl (.const (.slice none 0 0)) (.tmp 82) 81 3 (.int .i64 0) 1 8 rfl Try.underlying81 info_int rfl (by decide) (by decide) (.slice none 0 0) 0 [] rfl (World.ownsRow_nil _ _ _ _) none 0 0 (nums .i64 []) rfl (by intro h; first | rfl | cases h) (by simp [nums]) (fun h => absurd rfl h) (by simp [nums]) (by omega) (Nat.le_refl _) (fun z1 w3 hr1 hg1 => ?_); obtain ⟨R1, D1, rfl⟩ := row_slice hr1)
                      | (refine wpList_app base rfl (.tmp 86) (.tmp 88) 81 3 (.int .i64 0) 1 8 rfl Try.underlying81 info_int rfl (by decide) (by decide) (.slice none 0 0) 0 _ rfl (World.ownsRow_nil _ _ _ _) (some ⟨w3.heap.size, 0, none⟩) 1 1 [.int .i64 eX] rfl (fun h => by cases h) rfl (fun _ => ⟨_, rfl, World.news_of_block (blk_new w3 _)⟩) (by simp [Value.oneCell']) (by omega) (Nat.le_trans hbw (Nat.le_trans hg1.size (by simp))) (fun z2 w4 hr2 hg2 => ?_); obtain ⟨R2, D2, rfl⟩ := row_slice hr2)
                      | (refine wpList_app base rfl (.tmp 89) (.tmp 90) 81 3 (.int .i64 0) 1 8 rfl Try.underlying81 info_int rfl (by decide) (by decide) (.slice R2 (0 + 1) D2) (0 + 1) _ rfl hr2 R1 0 D1 (nums .i64 []) rfl (fun h => (row_nil_of hr1 h).1) (by simp [nums]) (fun h => absurd rfl h) (by simp [nums]) (by omega) (Nat.le_trans hbw (Nat.le_trans hg1.size (Nat.le_trans (by simp) hg2.size))) (fun z3 w5 hr3 hg3 => ?_); obtain ⟨R3, D3, rfl⟩ := row_slice hr3))
                    have hE3 : Below base w w3 := hE.trans (Below.mono (ext_none' (Ext.refl _) hg1) hbw)
                    have hb3 : base ≤ w3.heap.size := Nat.le_trans hbw hg1.size
                    have hE3' := Below.alloc hE3 hb3 (.cells #[.int .i64 eX] 3)
                    have hb3' : base ≤ (w3.alloc (.cells #[.int .i64 eX] 3)).heap.size := Nat.le_trans hb3 (by simp)
                    have hE4 : Below base w w4 := Below.grown hE3' hg2 hb3' (fun r e => by simp [Value.ownBlock] at e; try omega)
                    have hE5 : Below base w w5 := Below.grown hE4 hg3 (Nat.le_trans hb3' hg2.size) (row_base hr2)
                    have hI1 : edgeIns eX [] = [eX] := by rw [HI.out]; rfl
                    exact ⟨⟨t + 1, [eX], R3, D3, by omega, by go_num, rfl, by rw [HS.out, hI1], by simp; omega, hr3, hE5⟩, by simp [intOf]; omega⟩
                  · obtain ⟨g, rfl, hgb⟩ : ∃ g, a0 = ⟨g, 0, none⟩ ∧ base ≤ g := by
                      rcases hown.2 with ⟨h, _⟩ | ⟨g, cap, cur, e1, e2, _⟩
                      · injection h with h; cases h
                      · injection e1 with e1; injection e1 with e1; exact ⟨g, e1, e2⟩
                    have hcap := row_cap' hown
                    by_cases hdn : d = ys.length
                    · subst hdn
                      go_wp2_with (first
                        | (refine wpList_app wr.heap.size rfl (.const (.slice none 0 0)) (.tmp 82) 81 3 (.int .i64 0) 1 8 rfl Try.underlying81 info_int rfl (by decide) (by decide) (.slice none 0 0) 0 [] rfl (World.ownsRow_nil _ _ _ _) _ 0 _ (nums .i64 []) rfl (by intro h; first | rfl | cases h) (by simp [nums]) (fun h => absurd rfl h) (by simp [nums]) (by omega) (Nat.le_refl _) (fun z1 w3 hr1 hg1 => ?_); obtain ⟨R1, D1, rfl⟩ := row_slice hr1)
                        | (refine wpList_app base rfl (.tmp 86) (.tmp 88) 81 3 (.int .i64 0) 1 8 rfl Try.underlying81 info_int rfl (by decide) (by decide) (.slice (some ⟨g, 0, none⟩) ys.length _) ys.length _ rfl (World.ownsRow.alloc (row_keep hown (ext_none' (Ext.refl _) hg1)) _) (some ⟨w3.heap.size, 0, none⟩) 1 1 [.int .i64 eX] rfl (fun h => by cases h) rfl (fun _ => ⟨_, rfl, World.news_of_block (blk_new w3 _)⟩) (by simp [Value.oneCell']) (by omega) (Nat.le_trans hbw (Nat.le_trans hg1.size (by simp))) (fun z2 w4 hr2 hg2 => ?_); obtain ⟨R2, D2, rfl⟩ := row_slice hr2)
                        | (refine wpList_app base rfl (.tmp 89) (.tmp 90) 81 3 (.int .i64 0) 1 8 rfl Try.underlying81 info_int rfl (by decide) (by decide) (.slice R2 (ys.length + 1) D2) (ys.length + 1) _ rfl hr2 R1 0 D1 (nums .i64 []) rfl (fun h => (row_nil_of hr1 h).1) (by simp [nums]) (fun h => absurd rfl h) (by simp [nums]) (by omega) (Nat.le_trans hbw (Nat.le_trans hg1.size (Nat.le_trans (by simp) hg2.size))) (fun z3 w5 hr3 hg3 => ?_); obtain ⟨R3, D3, rfl⟩ := row_slice hr3))
                      have hE3 : Below base w w3 := hE.trans (Below.mono (ext_none' (Ext.refl _) hg1) hbw)
                      have hb3 : base ≤ w3.heap.size := Nat.le_trans hbw hg1.size
                      have hE3' := Below.alloc hE3 hb3 (.cells #[.int .i64 eX] 3)
                      have hb3' : base ≤ (w3.alloc (.cells #[.int .i64 eX] 3)).heap.size := Nat.le_trans hb3 (by simp)
                      have hE4 : Below base w w4 := Below.grown hE3' hg2 hb3' (fun r e => by simp [Value.ownBlock] at e; try omega)
                      have hE5 : Below base w w5 := Below.grown hE4 hg3 (Nat.le_trans hb3' hg2.size) (row_base hr2)
                      have hI1 : edgeIns eX ys = ys ++ [eX] := by rw [HI.out]; simp
                      have hr5 : w5.ownsRow base 3 1 (.slice R3 (ys.length + 1) D3) (ys.length + 1) (nums .i64 (ys ++ [eX])) := by
                        rw [show nums .i64 (ys ++ [eX]) = nums .i64 ys ++ [.int .i64 eX] ++ nums .i64 [] by simp [nums]]
                        exact hr3
                      exact ⟨⟨t + 1, ys ++ [eX], R3, D3, by omega, by go_num, by simp, by rw [HS.out, hI1], by simp; omega, by rw [List.length_append]; exact hr5, hE5⟩, by simp [intOf]; omega⟩
                    · skip
                      go_wp2_with (first
                        | (refine wpList_app wr.heap.size rfl (.const (.slice none 0 0)) (.tmp 82) 81 3 (.int .i64 0) 1 8 rfl Try.underlying81 info_int rfl (by decide) (by decide) (.slice none 0 0) 0 [] rfl (World.ownsRow_nil _ _ _ _) _ 0 _ (nums .i64 []) rfl (by intro h; first | rfl | cases h) (by simp [nums]) (fun h => absurd rfl h) (by simp [nums]) (by omega) (Nat.le_refl _) (fun z1 w3 hr1 hg1 => ?_); obtain ⟨R1, D1, rfl⟩ := row_slice hr1)
                        | (refine wpList_app base rfl (.tmp 86) (.tmp 88) 81 3 (.int .i64 0) 1 8 rfl Try.underlying81 info_int rfl (by decide) (by decide) (.slice (some ⟨g, 0, none⟩) ys.length _) ys.length _ rfl (World.ownsRow.alloc (row_keep hown (ext_none' (Ext.refl _) hg1)) _) (some ⟨w3.heap.size, 0, none⟩) 1 1 [.int .i64 eX] rfl (fun h => by cases h) rfl (fun _ => ⟨_, rfl, World.news_of_block (blk_new w3 _)⟩) (by simp [Value.oneCell']) (by omega) (Nat.le_trans hbw (Nat.le_trans hg1.size (by simp))) (fun z2 w4 hr2 hg2 => ?_); obtain ⟨R2, D2, rfl⟩ := row_slice hr2)
                        | (refine wpList_app base rfl (.tmp 89) (.tmp 90) 81 3 (.int .i64 0) 1 8 rfl Try.underlying81 info_int rfl (by decide) (by decide) (.slice R2 (ys.length + 1) D2) (ys.length + 1) _ rfl hr2 R1 0 D1 (nums .i64 []) rfl (fun h => (row_nil_of hr1 h).1) (by simp [nums]) (fun h => absurd rfl h) (by simp [nums]) (by omega) (Nat.le_trans hbw (Nat.le_trans hg1.size (Nat.le_trans (by simp) hg2.size))) (fun z3 w5 hr3 hg3 => ?_); obtain ⟨R3, D3, rfl⟩ := row_slice hr3))
                      have hE3 : Below base w w3 := hE.trans (Below.mono (ext_none' (Ext.refl _) hg1) hbw)
                      have hb3 : base ≤ w3.heap.size := Nat.le_trans hbw hg1.size
                      have hE3' := Below.alloc hE3 hb3 (.cells #[.int .i64 eX] 3)
                      have hb3' : base ≤ (w3.alloc (.cells #[.int .i64 eX] 3)).heap.size := Nat.le_trans hb3 (by simp)
                      have hE4 : Below base w w4 := Below.grown hE3' hg2 hb3' (fun r e => by simp [Value.ownBlock] at e; try omega)
                      have hE5 : Below base w w5 := Below.grown hE4 hg3 (Nat.le_trans hb3' hg2.size) (row_base hr2)
                      have hI1 : edgeIns eX ys = ys ++ [eX] := by rw [HI.out]; simp
                      have hr5 : w5.ownsRow base 3 1 (.slice R3 (ys.length + 1) D3) (ys.length + 1) (nums .i64 (ys ++ [eX])) := by
                        rw [show nums .i64 (ys ++ [eX]) = nums .i64 ys ++ [.int .i64 eX] ++ nums .i64 [] by simp [nums]]
                        exact hr3
                      exact ⟨⟨t + 1, ys ++ [eX], R3, D3, by omega, by go_num, by simp, by rw [HS.out, hI1], by simp; omega, by rw [List.length_append]; exact hr5, hE5⟩, by simp [intOf]; omega⟩
            · simp only [if_true] at HS
              go_wp2_with fail
              go_quiet (fail)
              replace hown : (wr.drewN nq).ownsRow _ _ _ _ _ _ := hown
              replace hE : Below base w (wr.drewN nq) := ⟨hE.os, hE.tape, hE.output, hE.size, hE.block⟩
              replace hbw : base ≤ (wr.drewN nq).heap.size := hbw
              replace h0 : (wr.drewN nq).cell? _ = _ := h0
              replace h1 : (wr.drewN nq).cell? _ = _ := h1
              replace h2 : (wr.drewN nq).cell? _ = _ := h2
              replace h3 : (wr.drewN nq).cell? _ = _ := h3
              generalize wr.drewN nq = w1' at *
              go_wp2_with fail
              go_quiet (fail)
              replace hown : (w1'.drewN nq).ownsRow _ _ _ _ _ _ := hown
              replace hE : Below base w (w1'.drewN nq) := ⟨hE.os, hE.tape, hE.output, hE.size, hE.block⟩
              replace hbw : base ≤ (w1'.drewN nq).heap.size := hbw
              clear h0 h1 h2 h3 v1 v2 v3 v4 u1 u2 u3 u4
              generalize w1'.drewN nq = w2 at *
              generalize r.y + (t : Int) * r.h = eY at *
              go_wp2_with fail
              go_loopw [10] (fun q wq => ∃ p : Nat, q = .int .i64 p ∧ p ≤ edgeAt eY ys ∧ wq = w2) (fun q _ => ys.length - (intOf q).toNat)
              case atStart => exact ⟨0, rfl, Nat.zero_le _, rfl⟩
              case round =>
                obtain ⟨p, rfl, hp, rfl⟩ := hrel
                have hle := edgeAt_le eY ys
                by_cases hpl : p < ys.length
                · obtain ⟨g, rfl, hgb⟩ := row_form hown (by omega)
                  have hrc := World.ownsRow.cellAt hown p (by omega)
                  rw [nums_get hpl] at hrc
                  obtain ⟨y, hy⟩ : ∃ y, ys[p] = y := ⟨_, rfl⟩
                  have hy1 : ys[p]? = some y := by rw [List.getElem?_eq_getElem hpl, hy]
                  have hy2 : ys.getD p 0 = y := by rw [List.getD_eq_getElem?_getD, hy1]; rfl
                  rw [hy2] at hrc
                  have htw := takeWhile_nth (p := fun y => decide (y < eY)) hpl hp y hy1
                  have HY := Lib.hid hy1
                  clear hy hy1 hy2
                  by_cases hye : y < eY
                  · have hp2 := htw.1 (by simpa using hye)
                    clear htw
                    go_wp2_with fail
                    exact ⟨⟨p + 1, by go_num, hp2, by first | rfl | trivial⟩, by simp [intOf]; omega⟩
                  · have hp2 : p = edgeAt eY ys := htw.2 (by simpa using hye)
                    have HP := Lib.hid hp2
                    clear htw hp2 hp hle
                    by_cases hyy : y = eY
                    · have hins : edgeIns eY ys = ys := by
                        unfold edgeIns
                        rw [if_pos (by rw [← HP.out, HY.out, hyy])]
                      have HI := Lib.hid hins
                      clear hins
                      subst hyy
                      go_wp2_with fail
                      exact ⟨⟨t + 1, ys, some ⟨g, 0, none⟩, d, by omega, by go_num, rfl, by rw [HS.out]; exact HI.out, by omega, hown, hE⟩, by simp [intOf]; omega⟩
                    · have hne : ys[p]? ≠ some eY := by rw [HY.out]; intro h; injection h with h; exact hyy h
                      have HI := Lib.hid (edgeIns_at HP.out hne)
                      have hcap := row_cap' hown
                      have hdp : ¬ (d = p) := by omega
                      have hsh := shows_drop (p := p) hown rfl
                      have hdl : (ys.drop p).length = ys.length - p := by rw [List.length_drop]
                      have hsn : (nums .i64 (ys.drop p)).length = (ys.length - p) * 1 := by rw [nums_length, hdl]; omega
                      have hglt : g < wr.heap.size := (World.ownsRow.lt hown g (by simp [Value.ownBlock])).2
                      have hpn : p ≤ ys.length := by omega
                      have hsm : ys.length ≤ 100000000 := by omega
                      clear hne HY HP hdl
                      go_wp2_with (first
                        | (refine wpList_app wr.heap.size rfl (.const (.slice none 0 0)) (.tmp 82) 81 3 (.int .i64 0) 1 8 rfl Try.underlying81 info_int rfl (by decide) (by decide) (.slice none 0 0) 0 [] rfl (World.ownsRow_nil _ _ _ _) (some ⟨g, p, none⟩) (ys.length - p) (d - p) (nums .i64 (ys.drop p)) rfl (fun h => by cases h) hsn hsh nums_one (by omega) (Nat.le_refl _) (fun z1 w3 hr1 hg1 => ?_); obtain ⟨R1, D1, rfl⟩ := row_slice hr1; rw [Nat.zero_add, List.nil_append] at hr1)
                        | (refine wpList_app base rfl (.tmp 86) (.tmp 88) 81 3 (.int .i64 0) 1 8 rfl Try.underlying81 info_int rfl (by decide) (by decide) (.slice (some ⟨g, 0, none⟩) p d) p ((nums .i64 ys).take (p * 1)) rfl (World.ownsRow.alloc (row_take (row_keep hown (ext_none' (Ext.refl _) hg1)) hpn (by simp)) _) (some ⟨w3.heap.size, 0, none⟩) 1 1 [.int .i64 eY] rfl (fun h => by cases h) rfl (fun _ => ⟨_, rfl, World.news_of_block (blk_new w3 _)⟩) (by simp [Value.oneCell']) (by omega) (Nat.le_trans hbw (Nat.le_trans hg1.size (by simp))) (fun z2 w4 hr2 hg2 => ?_); obtain ⟨R2, D2, rfl⟩ := row_slice hr2)
                        | (refine wpList_app base rfl (.tmp 89) (.tmp 90) 81 3 (.int .i64 0) 1 8 rfl Try.underlying81 info_int rfl (by decide) (by decide) (.slice R2 (p + 1) D2) (p + 1) _ rfl hr2 R1 (ys.length - p) D1 (nums .i64 (ys.drop p)) rfl (fun h => (row_nil_of hr1 h).1) hsn (shows_row (World.ownsRow.kept (World.ownsRow.alloc hr1 _) hg2 (.inr (fun e => absurd (row_base hr1 g e) (by omega)))) (by rw [List.length_drop])) nums_one (by omega) (Nat.le_trans hbw (Nat.le_trans hg1.size (Nat.le_trans (by simp) hg2.size))) (fun z3 w5 hr3 hg3 => ?_); obtain ⟨R3, D3, rfl⟩ := row_slice hr3))
                      have hE3 : Below base w w3 := hE.trans (Below.mono (ext_none' (Ext.refl _) hg1) hbw)
                      have hb3 : base ≤ w3.heap.size := Nat.le_trans hbw hg1.size
                      have hE3' := Below.alloc hE3 hb3 (.cells #[.int .i64 eY] 3)
                      have hb3' : base ≤ (w3.alloc (.cells #[.int .i64 eY] 3)).heap.size := Nat.le_trans hb3 (by simp)
                      have hE4 : Below base w w4 := Below.grown hE3' hg2 hb3' (fun r e => by simp [Value.ownBlock] at e; omega)
                      have hE5 : Below base w w5 := Below.grown hE4 hg3 (Nat.le_trans hb3' hg2.size) (row_base hr2)
                      have hlen5 : p + 1 + (ys.length - p) = (edgeIns eY ys).length := by rw [HI.out]; simp; omega
                      have hnum5 : (nums .i64 ys).take (p * 1) ++ [.int .i64 eY] ++ nums .i64 (ys.drop p) = nums .i64 (edgeIns eY ys) := by rw [HI.out]; simp [nums, List.map_take, List.map_drop]
                      rw [hnum5, hlen5] at hr3
                      rw [hlen5]
                      have hl6 : (edgeIns eY ys).length ≤ ys.length + 1 := edgeIns_length _ _
                      have hr5 := hr3
                      have hyn' := hyn
                      clear hr3 hr2 hr1 hg1 hg2 hg3 hlen5 hnum5 hsn hsh hcap hdp hrc
                      go_wp2_with fail
                      exact ⟨⟨t + 1, edgeIns eY ys, R3, D3, by omega, by go_num, rfl, HS.out, by omega, hr5, hE5⟩, by simp [intOf]; omega⟩
                · have hpe : p = ys.length := by omega
                  have hpa : p = edgeAt eY ys := by omega
                  have hne : ys[p]? ≠ some eY := by rw [hpe]; simp
                  have HI := Lib.hid (edgeIns_at hpa hne)
                  have hsm : ys.length ≤ 100000000 := by omega
                  clear hpa hne hp hle
                  subst hpe
                  rcases B with _ | a0
                  · obtain ⟨rfl, hn0'⟩ := row_nil_of hown rfl
                    have hyn0 : ys = [] := List.eq_nil_of_length_eq_zero hn0'
                    have hsm2 : ys.length = 0 := hn0'
                    subst hyn0
                    simp only [List.length_nil] at *
                    go_wp2_with (first
                      | (refine wpList_app wr.heap.size rfl (.const (.slice none 0 0)) (.tmp 82) 81 3 (.int .i64 0) 1 8 rfl Try.underlying81 info_int rfl (by decide) (by decide) (.slice none 0 0) 0 [] rfl (World.ownsRow_nil _ _ _ _) none 0 0 (nums .i64 []) rfl (by intro h; first | rfl | cases h) (by simp [nums]) (fun h => absurd rfl h) (by simp [nums]) (by omega) (Nat.le_refl _) (fun z1 w3 hr1 hg1 => ?_); obtain ⟨R1, D1, rfl⟩ := row_slice hr1)
                      | (refine wpList_app base rfl (.tmp 86) (.tmp 88) 81 3 (.int .i64 0) 1 8 rfl Try.underlying81 info_int rfl (by decide) (by decide) (.slice none 0 0) 0 _ rfl (World.ownsRow_nil _ _ _ _) (some ⟨w3.heap.size, 0, none⟩) 1 1 [.int .i64 eY] rfl (fun h => by cases h) rfl (fun _ => ⟨_, rfl, World.news_of_block (blk_new w3 _)⟩) (by simp [Value.oneCell']) (by omega) (Nat.le_trans hbw (Nat.le_trans hg1.size (by simp))) (fun z2 w4 hr2 hg2 => ?_); obtain ⟨R2, D2, rfl⟩ := row_slice hr2)
                      | (refine wpList_app base rfl (.tmp 89) (.tmp 90) 81 3 (.int .i64 0) 1 8 rfl Try.underlying81 info_int rfl (by decide) (by decide) (.slice R2 (0 + 1) D2) (0 + 1) _ rfl hr2 R1 0 D1 (nums .i64 []) rfl (fun h => (row_nil_of hr1 h).1) (by simp [nums]) (fun h => absurd rfl h) (by simp [nums]) (by omega) (Nat.le_trans hbw (Nat.le_trans hg1.size (Nat.le_trans (by simp) hg2.size))) (fun z3 w5 hr3 hg3 => ?_); obtain ⟨R3, D3, rfl⟩ := row_slice hr3))
                    have hE3 : Below base w w3 := hE.trans (Below.mono (ext_none' (Ext.refl _) hg1) hbw)
                    have hb3 : base ≤ w3.heap.size := Nat.le_trans hbw hg1.size
                    have hE3' := Below.alloc hE3 hb3 (.cells #[.int .i64 eY] 3)
                    have hb3' : base ≤ (w3.alloc (.cells #[.int .i64 eY] 3)).heap.size := Nat.le_trans hb3 (by simp)
                    have hE4 : Below base w w4 := Below.grown hE3' hg2 hb3' (fun r e => by simp [Value.ownBlock] at e; try omega)
                    have hE5 : Below base w w5 := Below.grown hE4 hg3 (Nat.le_trans hb3' hg2.size) (row_base hr2)
                    have hI1 : edgeIns eY [] = [eY] := by rw [HI.out]; rfl
                    exact ⟨⟨t + 1, [eY], R3, D3, by omega, by go_num, rfl, by rw [HS.out, hI1], by simp; omega, hr3, hE5⟩, by simp [intOf]; omega⟩
                  · obtain ⟨g, rfl, hgb⟩ : ∃ g, a0 = ⟨g, 0, none⟩ ∧ base ≤ g := by
                      rcases hown.2 with ⟨h, _⟩ | ⟨g, cap, cur, e1, e2, _⟩
                      · injection h with h; cases h
                      · injection e1 with e1; injection e1 with e1; exact ⟨g, e1, e2⟩
                    have hcap := row_cap' hown
                    by_cases hdn : d = ys.length
                    · subst hdn
                      go_wp2_with (first
                        | (refine wpList_app wr.heap.size rfl (.const (.slice none 0 0)) (.tmp 82) 81 3 (.int .i64 0) 1 8 rfl Try.underlying81 info_int rfl (by decide) (by decide) (.slice none 0 0) 0 [] rfl (World.ownsRow_nil _ _ _ _) _ 0 _ (nums .i64 []) rfl (by intro h; first | rfl | cases h) (by simp [nums]) (fun h => absurd rfl h) (by simp [nums]) (by omega) (Nat.le_refl _) (fun z1 w3 hr1 hg1 => ?_); obtain ⟨R1, D1, rfl⟩ := row_slice hr1)
                        | (refine wpList_app base rfl (.tmp 86) (.tmp 88) 81 3 (.int .i64 0) 1 8 rfl Try.underlying81 info_int rfl (by decide) (by decide) (.slice (some ⟨g, 0, none⟩) ys.length _) ys.length _ rfl (World.ownsRow.alloc (row_keep hown (ext_none' (Ext.refl _) hg1)) _) (some ⟨w3.heap.size, 0, none⟩) 1 1 [.int .i64 eY] rfl (fun h => by cases h) rfl (fun _ => ⟨_, rfl, World.news_of_block (blk_new w3 _)⟩) (by simp [Value.oneCell']) (by omega) (Nat.le_trans hbw (Nat.le_trans hg1.size (by simp))) (fun z2 w4 hr2 hg2 => ?_); obtain ⟨R2, D2, rfl⟩ := row_slice hr2)
                        | (refine wpList_app base rfl (.tmp 89) (.tmp 90) 81 3 (.int .i64 0) 1 8 rfl Try.underlying81 info_int rfl (by decide) (by decide) (.slice R2 (ys.length + 1) D2) (ys.length + 1) _ rfl hr2 R1 0 D1 (nums .i64 []) rfl (fun h => (row_nil_of hr1 h).1) (by simp [nums]) (fun h => absurd rfl h) (by simp [nums]) (by omega) (Nat.le_trans hbw (Nat.le_trans hg1.size (Nat.le_trans (by simp) hg2.size))) (fun z3 w5 hr3 hg3 => ?_); obtain ⟨R3, D3, rfl⟩ := row_slice hr3))
                      have hE3 : Below base w w3 := hE.trans (Below.mono (ext_none' (Ext.refl _) hg1) hbw)
                      have hb3 : base ≤ w3.heap.size := Nat.le_trans hbw hg1.size
                      have hE3' := Below.alloc hE3 hb3 (.cells #[.int .i64 eY] 3)
                      have hb3' : base ≤ (w3.alloc (.cells #[.int .i64 eY] 3)).heap.size := Nat.le_trans hb3 (by simp)
                      have hE4 : Below base w w4 := Below.grown hE3' hg2 hb3' (fun r e => by simp [Value.ownBlock] at e; try omega)
                      have hE5 : Below base w w5 := Below.grown hE4 hg3 (Nat.le_trans hb3' hg2.size) (row_base hr2)
                      have hI1 : edgeIns eY ys = ys ++ [eY] := by rw [HI.out]; simp
                      have hr5 : w5.ownsRow base 3 1 (.slice R3 (ys.length + 1) D3) (ys.length + 1) (nums .i64 (ys ++ [eY])) := by
                        rw [show nums .i64 (ys ++ [eY]) = nums .i64 ys ++ [.int .i64 eY] ++ nums .i64 [] by simp [nums]]
                        exact hr3
                      exact ⟨⟨t + 1, ys ++ [eY], R3, D3, by omega, by go_num, by simp, by rw [HS.out, hI1], by simp; omega, by rw [List.length_append]; exact hr5, hE5⟩, by simp [intOf]; omega⟩
                    · skip
                      go_wp2_with (first
                        | (refine wpList_app wr.heap.size rfl (.const (.slice none 0 0)) (.tmp 82) 81 3 (.int .i64 0) 1 8 rfl Try.underlying81 info_int rfl (by decide) (by decide) (.slice none 0 0) 0 [] rfl (World.ownsRow_nil _ _ _ _) _ 0 _ (nums .i64 []) rfl (by intro h; first | rfl | cases h) (by simp [nums]) (fun h => absurd rfl h) (by simp [nums]) (by omega) (Nat.le_refl _) (fun z1 w3 hr1 hg1 => ?_); obtain ⟨R1, D1, rfl⟩ := row_slice hr1)
                        | (refine wpList_app base rfl (.tmp 86) (.tmp 88) 81 3 (.int .i64 0) 1 8 rfl Try.underlying81 info_int rfl (by decide) (by decide) (.slice (some ⟨g, 0, none⟩) ys.length _) ys.length _ rfl (World.ownsRow.alloc (row_keep hown (ext_none' (Ext.refl _) hg1)) _) (some ⟨w3.heap.size, 0, none⟩) 1 1 [.int .i64 eY] rfl (fun h => by cases h) rfl (fun _ => ⟨_, rfl, World.news_of_block (blk_new w3 _)⟩) (by simp [Value.oneCell']) (by omega) (Nat.le_trans hbw (Nat.le_trans hg1.size (by simp))) (fun z2 w4 hr2 hg2 => ?_); obtain ⟨R2, D2, rfl⟩ := row_slice hr2)
                        | (refine wpList_app base rfl (.tmp 89) (.tmp 90) 81 3 (.int .i64 0) 1 8 rfl Try.underlying81 info_int rfl (by decide) (by decide) (.slice R2 (ys.length + 1) D2) (ys.length + 1) _ rfl hr2 R1 0 D1 (nums .i64 []) rfl (fun h => (row_nil_of hr1 h).1) (by simp [nums]) (fun h => absurd rfl h) (by simp [nums]) (by omega) (Nat.le_trans hbw (Nat.le_trans hg1.size (Nat.le_trans (by simp) hg2.size))) (fun z3 w5 hr3 hg3 => ?_); obtain ⟨R3, D3, rfl⟩ := row_slice hr3))
                      have hE3 : Below base w w3 := hE.trans (Below.mono (ext_none' (Ext.refl _) hg1) hbw)
                      have hb3 : base ≤ w3.heap.size := Nat.le_trans hbw hg1.size
                      have hE3' := Below.alloc hE3 hb3 (.cells #[.int .i64 eY] 3)
                      have hb3' : base ≤ (w3.alloc (.cells #[.int .i64 eY] 3)).heap.size := Nat.le_trans hb3 (by simp)
                      have hE4 : Below base w w4 := Below.grown hE3' hg2 hb3' (fun r e => by simp [Value.ownBlock] at e; try omega)
                      have hE5 : Below base w w5 := Below.grown hE4 hg3 (Nat.le_trans hb3' hg2.size) (row_base hr2)
                      have hI1 : edgeIns eY ys = ys ++ [eY] := by rw [HI.out]; simp
                      have hr5 : w5.ownsRow base 3 1 (.slice R3 (ys.length + 1) D3) (ys.length + 1) (nums .i64 (ys ++ [eY])) := by
                        rw [show nums .i64 (ys ++ [eY]) = nums .i64 ys ++ [.int .i64 eY] ++ nums .i64 [] by simp [nums]]
                        exact hr3
                      exact ⟨⟨t + 1, ys ++ [eY], R3, D3, by omega, by go_num, by simp, by rw [HS.out, hI1], by simp; omega, by rw [List.length_append]; exact hr5, hE5⟩, by simp [intOf]; omega⟩
          · obtain rfl : t = 2 := by omega
            have HF := Lib.hid hys
            clear hys
            go_wp2_with fail
            exact ⟨⟨k + 1, ys, B, d, by omega, by go_num, rfl, by omega, hown, hE, by rw [← HF.out]; exact Hst.out⟩, by simp [intOf]; omega⟩
      · simp only [hem] at hh
        rw [hem] at Hst
        simp only [if_true] at Hst
        go_wp2_with fail
        refine (hh _).mono ?_
        rintro e w1 ⟨rfl, hb1⟩
        have hbs : base ≤ wr.heap.size := Nat.le_trans hb0 hE.size
        clear hh h0 h1 h2 h3
        go_wp2_with fail
        exact ⟨⟨k + 1, xs, B, d, by omega, by go_num, rfl, by omega, row_keep hown hb1, hE.trans (Below.mono hb1 hbs), Hst.out⟩, by simp [intOf]; omega⟩
    · obtain rfl : k = l.length := by omega
      have hf : xs = edgesP down l xs0 := by
        have := Hst.out
        rw [List.drop_length] at this
        exact this
      clear Hst
      go_wp2_with fail
      go_ret
      rw [← hf]
      exact ⟨B, d, rfl, hown, hE⟩
end Go.Proofs.Ytilcggkbancniaa
