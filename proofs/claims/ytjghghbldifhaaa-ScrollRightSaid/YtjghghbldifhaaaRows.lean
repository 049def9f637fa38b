/-
  No cell of these rows narrows 'for every input' (looked for: loops, veiled, ifaces, maps, wideKeys, modest, calm, conditions, laid).
  DERIVED. THE GIVEN ROWS OF THIS SEAT. 12 by the template 'for every input the law returns true; each argument reads behind the call as it read before'; 0 by the template 'total and deterministic' (their statements: YtjghghbldifhaaaTotals.lean).
  GIVEN WITH THE SEED: the statements are not yours to turn. If you find one false, say at which input.
  Laid BY PROGRAM, IN A SANDBOX (cutbox-rows.mjs): the forced cells as the released guide's own fill.sh prints them over the translation 9520cf10592de42b… (all of the seat's roots in one cut). By AI agents, Wed Nov 11 2026. No macro, syntax, notation, axiom, sorry.
-/
import Derived.Test.YtjghghbldifhaaaChecked
import GoSem.Claim
import GoSem.ClaimJoined
import GoSem.ClaimMapViews
import Derived.JoinedTies
import Derived.KernelRfl
namespace Go.Proofs.Ytjghghbldifhaaa
/- THE CELL 'sum', in the pinned program and in every row, IS THE sha256 OF THE DUMP (.gsa) THAT YtjghghbldifhaaaProg.lean LOADS. Nothing in Lean hashes anything: it is a label: what it is worth is what the hold of that sum in a sandbox is worth. -/
noncomputable def Try.pinned : Pinned := { name := "ytjghghbldifhaaa", sum := "9520cf10592de42b877e0f0cb9f7ce5fb10ccce555595af091d64184070defe3", checked := Try.checked }
namespace Rows
def none {H : Type} : Left H := { results := [], args := [] }

/-- 'vignettelaw02.RegionShifts': WHATEVER THE INPUT: true; the input reads as it did. -/
def regionShiftsSpec : ChangeSpec := { name := "regionShifts", fn := fun _ => fun
  | [d1, d2, d3, d4, d5] => { results := [.lit (.bool true)], args := [d1, d2, d3, d4, d5] }
  | _ => none }
def regionShiftsRow : OpenClaim := { program := "ytjghghbldifhaaa", sum := "9520cf10592de42b877e0f0cb9f7ce5fb10ccce555595af091d64184070defe3", func := "vignette/vignettelaw02.RegionShifts", spec := "regionShifts", unfollowed := true, recurses := true, apart := false }
def RegionShiftsSaid : Prop := regionShiftsRow.holds Try.pinned (OpenSpec.ofChange regionShiftsSpec)

/-- ITS FALSE NEIGHBOUR: 'it returns false'. Refute it at one input. -/
def regionShiftsWrong : ChangeSpec := { name := "regionShifts", fn := fun _ => fun
  | [d1, d2, d3, d4, d5] => { results := [.lit (.bool false)], args := [d1, d2, d3, d4, d5] }
  | _ => none }
def RegionShiftsWrongFalsely : Prop := regionShiftsRow.holds Try.pinned (OpenSpec.ofChange regionShiftsWrong)

/-- 'vignettelaw02.RegionForm': WHATEVER THE INPUT: true; the input reads as it did. -/
def regionFormSpec : ChangeSpec := { name := "regionForm", fn := fun _ => fun
  | [d1, d2, d3, d4] => { results := [.lit (.bool true)], args := [d1, d2, d3, d4] }
  | _ => none }
def regionFormRow : OpenClaim := { program := "ytjghghbldifhaaa", sum := "9520cf10592de42b877e0f0cb9f7ce5fb10ccce555595af091d64184070defe3", func := "vignette/vignettelaw02.RegionForm", spec := "regionForm", unfollowed := true, recurses := true, apart := false }
def RegionFormSaid : Prop := regionFormRow.holds Try.pinned (OpenSpec.ofChange regionFormSpec)

/-- ITS FALSE NEIGHBOUR: 'it returns false'. Refute it at one input. -/
def regionFormWrong : ChangeSpec := { name := "regionForm", fn := fun _ => fun
  | [d1, d2, d3, d4] => { results := [.lit (.bool false)], args := [d1, d2, d3, d4] }
  | _ => none }
def RegionFormWrongFalsely : Prop := regionFormRow.holds Try.pinned (OpenSpec.ofChange regionFormWrong)

/-- 'vignettelaw02.RegionLooks': WHATEVER THE INPUT: true; the input reads as it did. -/
def regionLooksSpec : ChangeSpec := { name := "regionLooks", fn := fun _ => fun
  | [d1, d2, d3, d4] => { results := [.lit (.bool true)], args := [d1, d2, d3, d4] }
  | _ => none }
def regionLooksRow : OpenClaim := { program := "ytjghghbldifhaaa", sum := "9520cf10592de42b877e0f0cb9f7ce5fb10ccce555595af091d64184070defe3", func := "vignette/vignettelaw02.RegionLooks", spec := "regionLooks", unfollowed := true, recurses := true, apart := false }
def RegionLooksSaid : Prop := regionLooksRow.holds Try.pinned (OpenSpec.ofChange regionLooksSpec)

/-- ITS FALSE NEIGHBOUR: 'it returns false'. Refute it at one input. -/
def regionLooksWrong : ChangeSpec := { name := "regionLooks", fn := fun _ => fun
  | [d1, d2, d3, d4] => { results := [.lit (.bool false)], args := [d1, d2, d3, d4] }
  | _ => none }
def RegionLooksWrongFalsely : Prop := regionLooksRow.holds Try.pinned (OpenSpec.ofChange regionLooksWrong)

/-- 'vignettelaw10.TilesTells': WHATEVER THE INPUT: true; the input reads as it did. -/
def tilesTellsSpec : ChangeSpec := { name := "tilesTells", fn := fun _ => fun
  | [d1, d2, d3, d4] => { results := [.lit (.bool true)], args := [d1, d2, d3, d4] }
  | _ => none }
def tilesTellsRow : OpenClaim := { program := "ytjghghbldifhaaa", sum := "9520cf10592de42b877e0f0cb9f7ce5fb10ccce555595af091d64184070defe3", func := "vignette/vignettelaw10.TilesTells", spec := "tilesTells", unfollowed := true, recurses := true, apart := false }
def TilesTellsSaid : Prop := tilesTellsRow.holds Try.pinned (OpenSpec.ofChange tilesTellsSpec)

/-- ITS FALSE NEIGHBOUR: 'it returns false'. Refute it at one input. -/
def tilesTellsWrong : ChangeSpec := { name := "tilesTells", fn := fun _ => fun
  | [d1, d2, d3, d4] => { results := [.lit (.bool false)], args := [d1, d2, d3, d4] }
  | _ => none }
def TilesTellsWrongFalsely : Prop := tilesTellsRow.holds Try.pinned (OpenSpec.ofChange tilesTellsWrong)

/-- 'vignettelaw10.TilesAll': WHATEVER THE INPUT: true; the input reads as it did. -/
def tilesAllSpec : ChangeSpec := { name := "tilesAll", fn := fun _ => fun
  | [d1, d2, d3] => { results := [.lit (.bool true)], args := [d1, d2, d3] }
  | _ => none }
def tilesAllRow : OpenClaim := { program := "ytjghghbldifhaaa", sum := "9520cf10592de42b877e0f0cb9f7ce5fb10ccce555595af091d64184070defe3", func := "vignette/vignettelaw10.TilesAll", spec := "tilesAll", unfollowed := true, recurses := true, apart := false }
def TilesAllSaid : Prop := tilesAllRow.holds Try.pinned (OpenSpec.ofChange tilesAllSpec)

/-- ITS FALSE NEIGHBOUR: 'it returns false'. Refute it at one input. -/
def tilesAllWrong : ChangeSpec := { name := "tilesAll", fn := fun _ => fun
  | [d1, d2, d3] => { results := [.lit (.bool false)], args := [d1, d2, d3] }
  | _ => none }
def TilesAllWrongFalsely : Prop := tilesAllRow.holds Try.pinned (OpenSpec.ofChange tilesAllWrong)

/-- 'vignettelaw18.ScrollTells': WHATEVER THE INPUT: true; the input reads as it did. -/
def scrollTellsSpec : ChangeSpec := { name := "scrollTells", fn := fun _ => fun
  | [d1, d2, d3] => { results := [.lit (.bool true)], args := [d1, d2, d3] }
  | _ => none }
def scrollTellsRow : OpenClaim := { program := "ytjghghbldifhaaa", sum := "9520cf10592de42b877e0f0cb9f7ce5fb10ccce555595af091d64184070defe3", func := "vignette/vignettelaw18.ScrollTells", spec := "scrollTells", unfollowed := true, recurses := true, apart := false }
def ScrollTellsSaid : Prop := scrollTellsRow.holds Try.pinned (OpenSpec.ofChange scrollTellsSpec)

/-- ITS FALSE NEIGHBOUR: 'it returns false'. Refute it at one input. -/
def scrollTellsWrong : ChangeSpec := { name := "scrollTells", fn := fun _ => fun
  | [d1, d2, d3] => { results := [.lit (.bool false)], args := [d1, d2, d3] }
  | _ => none }
def ScrollTellsWrongFalsely : Prop := scrollTellsRow.holds Try.pinned (OpenSpec.ofChange scrollTellsWrong)

/-- 'vignettelaw18.ScrollMoves': WHATEVER THE INPUT: true; the input reads as it did. -/
def scrollMovesSpec : ChangeSpec := { name := "scrollMoves", fn := fun _ => fun
  | [d1, d2, d3, d4] => { results := [.lit (.bool true)], args := [d1, d2, d3, d4] }
  | _ => none }
def scrollMovesRow : OpenClaim := { program := "ytjghghbldifhaaa", sum := "9520cf10592de42b877e0f0cb9f7ce5fb10ccce555595af091d64184070defe3", func := "vignette/vignettelaw18.ScrollMoves", spec := "scrollMoves", unfollowed := true, recurses := true, apart := false }
def ScrollMovesSaid : Prop := scrollMovesRow.holds Try.pinned (OpenSpec.ofChange scrollMovesSpec)

/-- ITS FALSE NEIGHBOUR: 'it returns false'. Refute it at one input. -/
def scrollMovesWrong : ChangeSpec := { name := "scrollMoves", fn := fun _ => fun
  | [d1, d2, d3, d4] => { results := [.lit (.bool false)], args := [d1, d2, d3, d4] }
  | _ => none }
def ScrollMovesWrongFalsely : Prop := scrollMovesRow.holds Try.pinned (OpenSpec.ofChange scrollMovesWrong)

/-- 'vignettelaw18.ScrollNone': WHATEVER THE INPUT: true; the input reads as it did. -/
def scrollNoneSpec : ChangeSpec := { name := "scrollNone", fn := fun _ => fun
  | [d1, d2, d3, d4] => { results := [.lit (.bool true)], args := [d1, d2, d3, d4] }
  | _ => none }
def scrollNoneRow : OpenClaim := { program := "ytjghghbldifhaaa", sum := "9520cf10592de42b877e0f0cb9f7ce5fb10ccce555595af091d64184070defe3", func := "vignette/vignettelaw18.ScrollNone", spec := "scrollNone", unfollowed := true, recurses := true, apart := false }
def ScrollNoneSaid : Prop := scrollNoneRow.holds Try.pinned (OpenSpec.ofChange scrollNoneSpec)

/-- ITS FALSE NEIGHBOUR: 'it returns false'. Refute it at one input. -/
def scrollNoneWrong : ChangeSpec := { name := "scrollNone", fn := fun _ => fun
  | [d1, d2, d3, d4] => { results := [.lit (.bool false)], args := [d1, d2, d3, d4] }
  | _ => none }
def ScrollNoneWrongFalsely : Prop := scrollNoneRow.holds Try.pinned (OpenSpec.ofChange scrollNoneWrong)

/-- 'vignettelaw03.PixbufTwo': WHATEVER THE INPUT: true; the input reads as it did. -/
def pixbufTwoSpec : ChangeSpec := { name := "pixbufTwo", fn := fun _ => fun
  | [d1, d2, d3, d4] => { results := [.lit (.bool true)], args := [d1, d2, d3, d4] }
  | _ => none }
def pixbufTwoRow : OpenClaim := { program := "ytjghghbldifhaaa", sum := "9520cf10592de42b877e0f0cb9f7ce5fb10ccce555595af091d64184070defe3", func := "vignette/vignettelaw03.PixbufTwo", spec := "pixbufTwo", unfollowed := true, recurses := true, apart := false }
def PixbufTwoSaid : Prop := pixbufTwoRow.holds Try.pinned (OpenSpec.ofChange pixbufTwoSpec)

/-- ITS FALSE NEIGHBOUR: 'it returns false'. Refute it at one input. -/
def pixbufTwoWrong : ChangeSpec := { name := "pixbufTwo", fn := fun _ => fun
  | [d1, d2, d3, d4] => { results := [.lit (.bool false)], args := [d1, d2, d3, d4] }
  | _ => none }
def PixbufTwoWrongFalsely : Prop := pixbufTwoRow.holds Try.pinned (OpenSpec.ofChange pixbufTwoWrong)

/-- 'vignettelaw03.PixbufJust': WHATEVER THE INPUT: true; the input reads as it did. -/
def pixbufJustSpec : ChangeSpec := { name := "pixbufJust", fn := fun _ => fun
  | [d1, d2] => { results := [.lit (.bool true)], args := [d1, d2] }
  | _ => none }
def pixbufJustRow : OpenClaim := { program := "ytjghghbldifhaaa", sum := "9520cf10592de42b877e0f0cb9f7ce5fb10ccce555595af091d64184070defe3", func := "vignette/vignettelaw03.PixbufJust", spec := "pixbufJust", unfollowed := true, recurses := true, apart := false }
def PixbufJustSaid : Prop := pixbufJustRow.holds Try.pinned (OpenSpec.ofChange pixbufJustSpec)

/-- ITS FALSE NEIGHBOUR: 'it returns false'. Refute it at one input. -/
def pixbufJustWrong : ChangeSpec := { name := "pixbufJust", fn := fun _ => fun
  | [d1, d2] => { results := [.lit (.bool false)], args := [d1, d2] }
  | _ => none }
def PixbufJustWrongFalsely : Prop := pixbufJustRow.holds Try.pinned (OpenSpec.ofChange pixbufJustWrong)

/-- 'vignettelaw03.PixbufNil': WHATEVER THE INPUT: true; the input reads as it did. -/
def pixbufNilSpec : ChangeSpec := { name := "pixbufNil", fn := fun _ => fun
  | [d] => { results := [.lit (.bool true)], args := [d] }
  | _ => none }
def pixbufNilRow : OpenClaim := { program := "ytjghghbldifhaaa", sum := "9520cf10592de42b877e0f0cb9f7ce5fb10ccce555595af091d64184070defe3", func := "vignette/vignettelaw03.PixbufNil", spec := "pixbufNil", unfollowed := true, recurses := true, apart := false }
def PixbufNilSaid : Prop := pixbufNilRow.holds Try.pinned (OpenSpec.ofChange pixbufNilSpec)

/-- ITS FALSE NEIGHBOUR: 'it returns false'. Refute it at one input. -/
def pixbufNilWrong : ChangeSpec := { name := "pixbufNil", fn := fun _ => fun
  | [d] => { results := [.lit (.bool false)], args := [d] }
  | _ => none }
def PixbufNilWrongFalsely : Prop := pixbufNilRow.holds Try.pinned (OpenSpec.ofChange pixbufNilWrong)

/-- 'vignettelaw18.ScrollRight': WHATEVER THE INPUT: true; the input reads as it did. -/
def scrollRightSpec : ChangeSpec := { name := "scrollRight", fn := fun _ => fun
  | [d1, d2, d3] => { results := [.lit (.bool true)], args := [d1, d2, d3] }
  | _ => none }
def scrollRightRow : OpenClaim := { program := "ytjghghbldifhaaa", sum := "9520cf10592de42b877e0f0cb9f7ce5fb10ccce555595af091d64184070defe3", func := "vignette/vignettelaw18.ScrollRight", spec := "scrollRight", unfollowed := true, recurses := true, apart := false }
def ScrollRightSaid : Prop := scrollRightRow.holds Try.pinned (OpenSpec.ofChange scrollRightSpec)

/-- ITS FALSE NEIGHBOUR: 'it returns false'. Refute it at one input. -/
def scrollRightWrong : ChangeSpec := { name := "scrollRight", fn := fun _ => fun
  | [d1, d2, d3] => { results := [.lit (.bool false)], args := [d1, d2, d3] }
  | _ => none }
def ScrollRightWrongFalsely : Prop := scrollRightRow.holds Try.pinned (OpenSpec.ofChange scrollRightWrong)

/- THE SECOND FORM. 'bulk': how many values and letters a reading holds, each counted each time it is reached (what is shared counts as often as it is met; a slice's spare places count too). A statement '..UptoSaid' is the law's where the arguments, and the package variables that the reading takes, are together of bulk at most 1048576: NARROWER than '..Said'. Prove '..Said' where nothing that the law and all that it calls make is longer than what came in: it says more and counts as full. Else prove '..UptoSaid'. A law counts once. -/
mutual
def uptoBulk {H : Type} : DataW H → Nat
  | .lit (.string bytes) => bytes.length + 1
  | .lit _ => 1
  | .nil => 1
  | .ptr d => uptoBulk d + 1
  | .slice elems spare => uptoBulkAll elems + uptoBulkAll spare + 1
  | .agg parts => uptoBulkAll parts + 1
  | .iface _ d => uptoBulk d + 1
  | .map entries => uptoBulkEntries entries + 1
  | .held _ => 1
def uptoBulkAll {H : Type} : List (DataW H) → Nat
  | [] => 0
  | d :: r => uptoBulk d + uptoBulkAll r
def uptoBulkEntries {H : Type} : List (Lit × DataW H) → Nat
  | [] => 0
  | x :: r => uptoBulkEntry x + uptoBulkEntries r
def uptoBulkEntry {H : Type} : Lit × DataW H → Nat
  | (.string bytes, d) => bytes.length + uptoBulk d + 1
  | (_, d) => uptoBulk d + 1
 end
def uptoSmall : (H : Type) → List (DataW H) → Bool := fun _ ds => decide (uptoBulkAll ds ≤ 1048576)
def OpenSpec.upto (s : _root_.Go.ChangeSpec) : _root_.Go.OpenSpec := { _root_.Go.OpenSpec.ofChange s with cond := some uptoSmall }

/-- 'vignettelaw02.RegionShifts', WHERE WHAT IT READS IS OF BULK AT MOST 1048576: true; the input reads as it did. -/
def regionShiftsUptoRow : OpenClaim := { program := "ytjghghbldifhaaa", sum := "9520cf10592de42b877e0f0cb9f7ce5fb10ccce555595af091d64184070defe3", func := "vignette/vignettelaw02.RegionShifts", spec := "regionShifts", unfollowed := true, recurses := true, apart := false, narrowed := true }
def RegionShiftsUptoSaid : Prop := regionShiftsUptoRow.holds Try.pinned (OpenSpec.upto regionShiftsSpec)

/-- 'vignettelaw02.RegionForm', WHERE WHAT IT READS IS OF BULK AT MOST 1048576: true; the input reads as it did. -/
def regionFormUptoRow : OpenClaim := { program := "ytjghghbldifhaaa", sum := "9520cf10592de42b877e0f0cb9f7ce5fb10ccce555595af091d64184070defe3", func := "vignette/vignettelaw02.RegionForm", spec := "regionForm", unfollowed := true, recurses := true, apart := false, narrowed := true }
def RegionFormUptoSaid : Prop := regionFormUptoRow.holds Try.pinned (OpenSpec.upto regionFormSpec)

/-- 'vignettelaw02.RegionLooks', WHERE WHAT IT READS IS OF BULK AT MOST 1048576: true; the input reads as it did. -/
def regionLooksUptoRow : OpenClaim := { program := "ytjghghbldifhaaa", sum := "9520cf10592de42b877e0f0cb9f7ce5fb10ccce555595af091d64184070defe3", func := "vignette/vignettelaw02.RegionLooks", spec := "regionLooks", unfollowed := true, recurses := true, apart := false, narrowed := true }
def RegionLooksUptoSaid : Prop := regionLooksUptoRow.holds Try.pinned (OpenSpec.upto regionLooksSpec)

/-- 'vignettelaw10.TilesTells', WHERE WHAT IT READS IS OF BULK AT MOST 1048576: true; the input reads as it did. -/
def tilesTellsUptoRow : OpenClaim := { program := "ytjghghbldifhaaa", sum := "9520cf10592de42b877e0f0cb9f7ce5fb10ccce555595af091d64184070defe3", func := "vignette/vignettelaw10.TilesTells", spec := "tilesTells", unfollowed := true, recurses := true, apart := false, narrowed := true }
def TilesTellsUptoSaid : Prop := tilesTellsUptoRow.holds Try.pinned (OpenSpec.upto tilesTellsSpec)

/-- 'vignettelaw10.TilesAll', WHERE WHAT IT READS IS OF BULK AT MOST 1048576: true; the input reads as it did. -/
def tilesAllUptoRow : OpenClaim := { program := "ytjghghbldifhaaa", sum := "9520cf10592de42b877e0f0cb9f7ce5fb10ccce555595af091d64184070defe3", func := "vignette/vignettelaw10.TilesAll", spec := "tilesAll", unfollowed := true, recurses := true, apart := false, narrowed := true }
def TilesAllUptoSaid : Prop := tilesAllUptoRow.holds Try.pinned (OpenSpec.upto tilesAllSpec)

/-- 'vignettelaw18.ScrollTells', WHERE WHAT IT READS IS OF BULK AT MOST 1048576: true; the input reads as it did. -/
def scrollTellsUptoRow : OpenClaim := { program := "ytjghghbldifhaaa", sum := "9520cf10592de42b877e0f0cb9f7ce5fb10ccce555595af091d64184070defe3", func := "vignette/vignettelaw18.ScrollTells", spec := "scrollTells", unfollowed := true, recurses := true, apart := false, narrowed := true }
def ScrollTellsUptoSaid : Prop := scrollTellsUptoRow.holds Try.pinned (OpenSpec.upto scrollTellsSpec)

/-- 'vignettelaw18.ScrollMoves', WHERE WHAT IT READS IS OF BULK AT MOST 1048576: true; the input reads as it did. -/
def scrollMovesUptoRow : OpenClaim := { program := "ytjghghbldifhaaa", sum := "9520cf10592de42b877e0f0cb9f7ce5fb10ccce555595af091d64184070defe3", func := "vignette/vignettelaw18.ScrollMoves", spec := "scrollMoves", unfollowed := true, recurses := true, apart := false, narrowed := true }
def ScrollMovesUptoSaid : Prop := scrollMovesUptoRow.holds Try.pinned (OpenSpec.upto scrollMovesSpec)

/-- 'vignettelaw18.ScrollNone', WHERE WHAT IT READS IS OF BULK AT MOST 1048576: true; the input reads as it did. -/
def scrollNoneUptoRow : OpenClaim := { program := "ytjghghbldifhaaa", sum := "9520cf10592de42b877e0f0cb9f7ce5fb10ccce555595af091d64184070defe3", func := "vignette/vignettelaw18.ScrollNone", spec := "scrollNone", unfollowed := true, recurses := true, apart := false, narrowed := true }
def ScrollNoneUptoSaid : Prop := scrollNoneUptoRow.holds Try.pinned (OpenSpec.upto scrollNoneSpec)

/-- 'vignettelaw03.PixbufTwo', WHERE WHAT IT READS IS OF BULK AT MOST 1048576: true; the input reads as it did. -/
def pixbufTwoUptoRow : OpenClaim := { program := "ytjghghbldifhaaa", sum := "9520cf10592de42b877e0f0cb9f7ce5fb10ccce555595af091d64184070defe3", func := "vignette/vignettelaw03.PixbufTwo", spec := "pixbufTwo", unfollowed := true, recurses := true, apart := false, narrowed := true }
def PixbufTwoUptoSaid : Prop := pixbufTwoUptoRow.holds Try.pinned (OpenSpec.upto pixbufTwoSpec)

/-- 'vignettelaw03.PixbufJust', WHERE WHAT IT READS IS OF BULK AT MOST 1048576: true; the input reads as it did. -/
def pixbufJustUptoRow : OpenClaim := { program := "ytjghghbldifhaaa", sum := "9520cf10592de42b877e0f0cb9f7ce5fb10ccce555595af091d64184070defe3", func := "vignette/vignettelaw03.PixbufJust", spec := "pixbufJust", unfollowed := true, recurses := true, apart := false, narrowed := true }
def PixbufJustUptoSaid : Prop := pixbufJustUptoRow.holds Try.pinned (OpenSpec.upto pixbufJustSpec)

/-- 'vignettelaw03.PixbufNil', WHERE WHAT IT READS IS OF BULK AT MOST 1048576: true; the input reads as it did. -/
def pixbufNilUptoRow : OpenClaim := { program := "ytjghghbldifhaaa", sum := "9520cf10592de42b877e0f0cb9f7ce5fb10ccce555595af091d64184070defe3", func := "vignette/vignettelaw03.PixbufNil", spec := "pixbufNil", unfollowed := true, recurses := true, apart := false, narrowed := true }
def PixbufNilUptoSaid : Prop := pixbufNilUptoRow.holds Try.pinned (OpenSpec.upto pixbufNilSpec)

/-- 'vignettelaw18.ScrollRight', WHERE WHAT IT READS IS OF BULK AT MOST 1048576: true; the input reads as it did. -/
def scrollRightUptoRow : OpenClaim := { program := "ytjghghbldifhaaa", sum := "9520cf10592de42b877e0f0cb9f7ce5fb10ccce555595af091d64184070defe3", func := "vignette/vignettelaw18.ScrollRight", spec := "scrollRight", unfollowed := true, recurses := true, apart := false, narrowed := true }
def ScrollRightUptoSaid : Prop := scrollRightUptoRow.holds Try.pinned (OpenSpec.upto scrollRightSpec)

end Rows
end Go.Proofs.Ytjghghbldifhaaa
