/-
  No cell of these rows narrows 'for every input' (looked for: loops, veiled, ifaces, maps, wideKeys, modest, calm, conditions, laid).
  DERIVED. THE GIVEN ROWS OF THIS SEAT. 12 by the template 'for every input the law returns true; each argument reads behind the call as it read before'; 0 by the template 'total and deterministic' (their statements: YtilcggkbancniaaTotals.lean).
  GIVEN WITH THE SEED: the statements are not yours to turn. If you find one false, say at which input.
  Laid BY PROGRAM, IN A SANDBOX (cutbox-rows.mjs): the forced cells as the released guide's own fill.sh prints them over the translation fcd269cb0a6c3068… (all of the seat's roots in one cut). By AI agents, Wed Nov 11 2026. No macro, syntax, notation, axiom, sorry.
-/
import Derived.Test.YtilcggkbancniaaChecked
import GoSem.Claim
import GoSem.ClaimJoined
import GoSem.ClaimMapViews
import Derived.JoinedTies
import Derived.KernelRfl
namespace Go.Proofs.Ytilcggkbancniaa
/- THE CELL 'sum', in the pinned program and in every row, IS THE sha256 OF THE DUMP (.gsa) THAT YtilcggkbancniaaProg.lean LOADS. Nothing in Lean hashes anything: it is a label: what it is worth is what the hold of that sum in a sandbox is worth. -/
noncomputable def Try.pinned : Pinned := { name := "ytilcggkbancniaa", sum := "fcd269cb0a6c30686c4a5c9c60a620819b56845067151cf194af17cb52445722", checked := Try.checked }
namespace Rows
def none {H : Type} : Left H := { results := [], args := [] }

/-- 'vignettelaw03.PixbufPlays': WHATEVER THE INPUT: true; the input reads as it did. -/
def pixbufPlaysSpec : ChangeSpec := { name := "pixbufPlays", fn := fun _ => fun
  | [d1, d2] => { results := [.lit (.bool true)], args := [d1, d2] }
  | _ => none }
def pixbufPlaysRow : OpenClaim := { program := "ytilcggkbancniaa", sum := "fcd269cb0a6c30686c4a5c9c60a620819b56845067151cf194af17cb52445722", func := "vignette/vignettelaw03.PixbufPlays", spec := "pixbufPlays", unfollowed := true, recurses := true, apart := false }
def PixbufPlaysSaid : Prop := pixbufPlaysRow.holds Try.pinned (OpenSpec.ofChange pixbufPlaysSpec)

/-- ITS FALSE NEIGHBOUR: 'it returns false'. Refute it at one input. -/
def pixbufPlaysWrong : ChangeSpec := { name := "pixbufPlays", fn := fun _ => fun
  | [d1, d2] => { results := [.lit (.bool false)], args := [d1, d2] }
  | _ => none }
def PixbufPlaysWrongFalsely : Prop := pixbufPlaysRow.holds Try.pinned (OpenSpec.ofChange pixbufPlaysWrong)

/-- 'vignettelaw03.PixbufParts': WHATEVER THE INPUT: true; the input reads as it did. -/
def pixbufPartsSpec : ChangeSpec := { name := "pixbufParts", fn := fun _ => fun
  | [d1, d2, d3] => { results := [.lit (.bool true)], args := [d1, d2, d3] }
  | _ => none }
def pixbufPartsRow : OpenClaim := { program := "ytilcggkbancniaa", sum := "fcd269cb0a6c30686c4a5c9c60a620819b56845067151cf194af17cb52445722", func := "vignette/vignettelaw03.PixbufParts", spec := "pixbufParts", unfollowed := true, recurses := true, apart := false }
def PixbufPartsSaid : Prop := pixbufPartsRow.holds Try.pinned (OpenSpec.ofChange pixbufPartsSpec)

/-- ITS FALSE NEIGHBOUR: 'it returns false'. Refute it at one input. -/
def pixbufPartsWrong : ChangeSpec := { name := "pixbufParts", fn := fun _ => fun
  | [d1, d2, d3] => { results := [.lit (.bool false)], args := [d1, d2, d3] }
  | _ => none }
def PixbufPartsWrongFalsely : Prop := pixbufPartsRow.holds Try.pinned (OpenSpec.ofChange pixbufPartsWrong)

/-- 'vignettelaw03.PixbufBlits': WHATEVER THE INPUT: true; the input reads as it did. -/
def pixbufBlitsSpec : ChangeSpec := { name := "pixbufBlits", fn := fun _ => fun
  | [d1, d2, d3, d4, d5] => { results := [.lit (.bool true)], args := [d1, d2, d3, d4, d5] }
  | _ => none }
def pixbufBlitsRow : OpenClaim := { program := "ytilcggkbancniaa", sum := "fcd269cb0a6c30686c4a5c9c60a620819b56845067151cf194af17cb52445722", func := "vignette/vignettelaw03.PixbufBlits", spec := "pixbufBlits", unfollowed := true, recurses := true, apart := false }
def PixbufBlitsSaid : Prop := pixbufBlitsRow.holds Try.pinned (OpenSpec.ofChange pixbufBlitsSpec)

/-- ITS FALSE NEIGHBOUR: 'it returns false'. Refute it at one input. -/
def pixbufBlitsWrong : ChangeSpec := { name := "pixbufBlits", fn := fun _ => fun
  | [d1, d2, d3, d4, d5] => { results := [.lit (.bool false)], args := [d1, d2, d3, d4, d5] }
  | _ => none }
def PixbufBlitsWrongFalsely : Prop := pixbufBlitsRow.holds Try.pinned (OpenSpec.ofChange pixbufBlitsWrong)

/-- 'vignettelaw02.RegionSets': WHATEVER THE INPUT: true; the input reads as it did. -/
def regionSetsSpec : ChangeSpec := { name := "regionSets", fn := fun _ => fun
  | [d1, d2] => { results := [.lit (.bool true)], args := [d1, d2] }
  | _ => none }
def regionSetsRow : OpenClaim := { program := "ytilcggkbancniaa", sum := "fcd269cb0a6c30686c4a5c9c60a620819b56845067151cf194af17cb52445722", func := "vignette/vignettelaw02.RegionSets", spec := "regionSets", unfollowed := true, recurses := true, apart := false }
def RegionSetsSaid : Prop := regionSetsRow.holds Try.pinned (OpenSpec.ofChange regionSetsSpec)

/-- ITS FALSE NEIGHBOUR: 'it returns false'. Refute it at one input. -/
def regionSetsWrong : ChangeSpec := { name := "regionSets", fn := fun _ => fun
  | [d1, d2] => { results := [.lit (.bool false)], args := [d1, d2] }
  | _ => none }
def RegionSetsWrongFalsely : Prop := regionSetsRow.holds Try.pinned (OpenSpec.ofChange regionSetsWrong)

/-- 'vignettelaw02.RegionSteps': WHATEVER THE INPUT: true; the input reads as it did. -/
def regionStepsSpec : ChangeSpec := { name := "regionSteps", fn := fun _ => fun
  | [d1, d2, d3] => { results := [.lit (.bool true)], args := [d1, d2, d3] }
  | _ => none }
def regionStepsRow : OpenClaim := { program := "ytilcggkbancniaa", sum := "fcd269cb0a6c30686c4a5c9c60a620819b56845067151cf194af17cb52445722", func := "vignette/vignettelaw02.RegionSteps", spec := "regionSteps", unfollowed := true, recurses := true, apart := false }
def RegionStepsSaid : Prop := regionStepsRow.holds Try.pinned (OpenSpec.ofChange regionStepsSpec)

/-- ITS FALSE NEIGHBOUR: 'it returns false'. Refute it at one input. -/
def regionStepsWrong : ChangeSpec := { name := "regionSteps", fn := fun _ => fun
  | [d1, d2, d3] => { results := [.lit (.bool false)], args := [d1, d2, d3] }
  | _ => none }
def RegionStepsWrongFalsely : Prop := regionStepsRow.holds Try.pinned (OpenSpec.ofChange regionStepsWrong)

/-- 'vignettelaw02.RegionShifts': WHATEVER THE INPUT: true; the input reads as it did. -/
def regionShiftsSpec : ChangeSpec := { name := "regionShifts", fn := fun _ => fun
  | [d1, d2, d3, d4, d5] => { results := [.lit (.bool true)], args := [d1, d2, d3, d4, d5] }
  | _ => none }
def regionShiftsRow : OpenClaim := { program := "ytilcggkbancniaa", sum := "fcd269cb0a6c30686c4a5c9c60a620819b56845067151cf194af17cb52445722", func := "vignette/vignettelaw02.RegionShifts", spec := "regionShifts", unfollowed := true, recurses := true, apart := false }
def RegionShiftsSaid : Prop := regionShiftsRow.holds Try.pinned (OpenSpec.ofChange regionShiftsSpec)

/-- ITS FALSE NEIGHBOUR: 'it returns false'. Refute it at one input. -/
def regionShiftsWrong : ChangeSpec := { name := "regionShifts", fn := fun _ => fun
  | [d1, d2, d3, d4, d5] => { results := [.lit (.bool false)], args := [d1, d2, d3, d4, d5] }
  | _ => none }
def RegionShiftsWrongFalsely : Prop := regionShiftsRow.holds Try.pinned (OpenSpec.ofChange regionShiftsWrong)

/-- 'vignettelaw02.RegionForm': WHATEVER THE INPUT: true; the input reads as it did. -/
def regionFormSpec : ChangeSpec := { name := "regionForm", fn := fun _ => fun
  | [d1, d2, d3, d4] => { results := [.lit (.bool true)], args := [d1, d2, d3, d4] }
  | _ => none }
def regionFormRow : OpenClaim := { program := "ytilcggkbancniaa", sum := "fcd269cb0a6c30686c4a5c9c60a620819b56845067151cf194af17cb52445722", func := "vignette/vignettelaw02.RegionForm", spec := "regionForm", unfollowed := true, recurses := true, apart := false }
def RegionFormSaid : Prop := regionFormRow.holds Try.pinned (OpenSpec.ofChange regionFormSpec)

/-- ITS FALSE NEIGHBOUR: 'it returns false'. Refute it at one input. -/
def regionFormWrong : ChangeSpec := { name := "regionForm", fn := fun _ => fun
  | [d1, d2, d3, d4] => { results := [.lit (.bool false)], args := [d1, d2, d3, d4] }
  | _ => none }
def RegionFormWrongFalsely : Prop := regionFormRow.holds Try.pinned (OpenSpec.ofChange regionFormWrong)

/-- 'vignettelaw02.RegionLooks': WHATEVER THE INPUT: true; the input reads as it did. -/
def regionLooksSpec : ChangeSpec := { name := "regionLooks", fn := fun _ => fun
  | [d1, d2, d3, d4] => { results := [.lit (.bool true)], args := [d1, d2, d3, d4] }
  | _ => none }
def regionLooksRow : OpenClaim := { program := "ytilcggkbancniaa", sum := "fcd269cb0a6c30686c4a5c9c60a620819b56845067151cf194af17cb52445722", func := "vignette/vignettelaw02.RegionLooks", spec := "regionLooks", unfollowed := true, recurses := true, apart := false }
def RegionLooksSaid : Prop := regionLooksRow.holds Try.pinned (OpenSpec.ofChange regionLooksSpec)

/-- ITS FALSE NEIGHBOUR: 'it returns false'. Refute it at one input. -/
def regionLooksWrong : ChangeSpec := { name := "regionLooks", fn := fun _ => fun
  | [d1, d2, d3, d4] => { results := [.lit (.bool false)], args := [d1, d2, d3, d4] }
  | _ => none }
def RegionLooksWrongFalsely : Prop := regionLooksRow.holds Try.pinned (OpenSpec.ofChange regionLooksWrong)

/-- 'vignettelaw10.TilesTells': WHATEVER THE INPUT: true; the input reads as it did. -/
def tilesTellsSpec : ChangeSpec := { name := "tilesTells", fn := fun _ => fun
  | [d1, d2, d3, d4] => { results := [.lit (.bool true)], args := [d1, d2, d3, d4] }
  | _ => none }
def tilesTellsRow : OpenClaim := { program := "ytilcggkbancniaa", sum := "fcd269cb0a6c30686c4a5c9c60a620819b56845067151cf194af17cb52445722", func := "vignette/vignettelaw10.TilesTells", spec := "tilesTells", unfollowed := true, recurses := true, apart := false }
def TilesTellsSaid : Prop := tilesTellsRow.holds Try.pinned (OpenSpec.ofChange tilesTellsSpec)

/-- ITS FALSE NEIGHBOUR: 'it returns false'. Refute it at one input. -/
def tilesTellsWrong : ChangeSpec := { name := "tilesTells", fn := fun _ => fun
  | [d1, d2, d3, d4] => { results := [.lit (.bool false)], args := [d1, d2, d3, d4] }
  | _ => none }
def TilesTellsWrongFalsely : Prop := tilesTellsRow.holds Try.pinned (OpenSpec.ofChange tilesTellsWrong)

/-- 'vignettelaw10.TilesTwice': WHATEVER THE INPUT: true; the input reads as it did. -/
def tilesTwiceSpec : ChangeSpec := { name := "tilesTwice", fn := fun _ => fun
  | [d1, d2, d3, d4] => { results := [.lit (.bool true)], args := [d1, d2, d3, d4] }
  | _ => none }
def tilesTwiceRow : OpenClaim := { program := "ytilcggkbancniaa", sum := "fcd269cb0a6c30686c4a5c9c60a620819b56845067151cf194af17cb52445722", func := "vignette/vignettelaw10.TilesTwice", spec := "tilesTwice", unfollowed := true, recurses := true, apart := false }
def TilesTwiceSaid : Prop := tilesTwiceRow.holds Try.pinned (OpenSpec.ofChange tilesTwiceSpec)

/-- ITS FALSE NEIGHBOUR: 'it returns false'. Refute it at one input. -/
def tilesTwiceWrong : ChangeSpec := { name := "tilesTwice", fn := fun _ => fun
  | [d1, d2, d3, d4] => { results := [.lit (.bool false)], args := [d1, d2, d3, d4] }
  | _ => none }
def TilesTwiceWrongFalsely : Prop := tilesTwiceRow.holds Try.pinned (OpenSpec.ofChange tilesTwiceWrong)

/-- 'vignettelaw10.TilesSums': WHATEVER THE INPUT: true; the input reads as it did. -/
def tilesSumsSpec : ChangeSpec := { name := "tilesSums", fn := fun _ => fun
  | [d1, d2, d3] => { results := [.lit (.bool true)], args := [d1, d2, d3] }
  | _ => none }
def tilesSumsRow : OpenClaim := { program := "ytilcggkbancniaa", sum := "fcd269cb0a6c30686c4a5c9c60a620819b56845067151cf194af17cb52445722", func := "vignette/vignettelaw10.TilesSums", spec := "tilesSums", unfollowed := true, recurses := true, apart := false }
def TilesSumsSaid : Prop := tilesSumsRow.holds Try.pinned (OpenSpec.ofChange tilesSumsSpec)

/-- ITS FALSE NEIGHBOUR: 'it returns false'. Refute it at one input. -/
def tilesSumsWrong : ChangeSpec := { name := "tilesSums", fn := fun _ => fun
  | [d1, d2, d3] => { results := [.lit (.bool false)], args := [d1, d2, d3] }
  | _ => none }
def TilesSumsWrongFalsely : Prop := tilesSumsRow.holds Try.pinned (OpenSpec.ofChange tilesSumsWrong)

/-- 'vignettelaw10.TilesOne': WHATEVER THE INPUT: true; the input reads as it did. -/
def tilesOneSpec : ChangeSpec := { name := "tilesOne", fn := fun _ => fun
  | [d1, d2, d3, d4] => { results := [.lit (.bool true)], args := [d1, d2, d3, d4] }
  | _ => none }
def tilesOneRow : OpenClaim := { program := "ytilcggkbancniaa", sum := "fcd269cb0a6c30686c4a5c9c60a620819b56845067151cf194af17cb52445722", func := "vignette/vignettelaw10.TilesOne", spec := "tilesOne", unfollowed := true, recurses := true, apart := false }
def TilesOneSaid : Prop := tilesOneRow.holds Try.pinned (OpenSpec.ofChange tilesOneSpec)

/-- ITS FALSE NEIGHBOUR: 'it returns false'. Refute it at one input. -/
def tilesOneWrong : ChangeSpec := { name := "tilesOne", fn := fun _ => fun
  | [d1, d2, d3, d4] => { results := [.lit (.bool false)], args := [d1, d2, d3, d4] }
  | _ => none }
def TilesOneWrongFalsely : Prop := tilesOneRow.holds Try.pinned (OpenSpec.ofChange tilesOneWrong)

/- THE SECOND FORM. 'bulk': how many values and letters a reading holds, each counted each time it is reached (what is shared counts as often as it is met; a slice's spare places count too). A statement '..UptoSaid' is the law's where the arguments, and the package variables that the reading takes, are together of bulk at most 1048576: NARROWER than '..Said'. Prove '..Said' where nothing that the law and all that it calls make is longer than what came in: it says more and counts as full. Else prove '..UptoSaid'. A law counts once. -/
mutual
def uptoBulk {H : Type} : DataW H → Nat
  | .lit (.string bytes) => bytes.length + 1
  | .lit _ => 1
  | .nil => 1
  | .ptr d => uptoBulk d + 1
  | .slice elems spare => uptoBulkAll elems + uptoBulkAll spare + 1
  | .agg parts => uptoBulkAll parts + 1
  | .iface _ d => uptoBulk d + 1
  | .map entries => uptoBulkEntries entries + 1
  | .held _ => 1
def uptoBulkAll {H : Type} : List (DataW H) → Nat
  | [] => 0
  | d :: r => uptoBulk d + uptoBulkAll r
def uptoBulkEntries {H : Type} : List (Lit × DataW H) → Nat
  | [] => 0
  | x :: r => uptoBulkEntry x + uptoBulkEntries r
def uptoBulkEntry {H : Type} : Lit × DataW H → Nat
  | (.string bytes, d) => bytes.length + uptoBulk d + 1
  | (_, d) => uptoBulk d + 1
 end
def uptoSmall : (H : Type) → List (DataW H) → Bool := fun _ ds => decide (uptoBulkAll ds ≤ 1048576)
def OpenSpec.upto (s : _root_.Go.ChangeSpec) : _root_.Go.OpenSpec := { _root_.Go.OpenSpec.ofChange s with cond := some uptoSmall }

/-- 'vignettelaw03.PixbufPlays', WHERE WHAT IT READS IS OF BULK AT MOST 1048576: true; the input reads as it did. -/
def pixbufPlaysUptoRow : OpenClaim := { program := "ytilcggkbancniaa", sum := "fcd269cb0a6c30686c4a5c9c60a620819b56845067151cf194af17cb52445722", func := "vignette/vignettelaw03.PixbufPlays", spec := "pixbufPlays", unfollowed := true, recurses := true, apart := false, narrowed := true }
def PixbufPlaysUptoSaid : Prop := pixbufPlaysUptoRow.holds Try.pinned (OpenSpec.upto pixbufPlaysSpec)

/-- 'vignettelaw03.PixbufParts', WHERE WHAT IT READS IS OF BULK AT MOST 1048576: true; the input reads as it did. -/
def pixbufPartsUptoRow : OpenClaim := { program := "ytilcggkbancniaa", sum := "fcd269cb0a6c30686c4a5c9c60a620819b56845067151cf194af17cb52445722", func := "vignette/vignettelaw03.PixbufParts", spec := "pixbufParts", unfollowed := true, recurses := true, apart := false, narrowed := true }
def PixbufPartsUptoSaid : Prop := pixbufPartsUptoRow.holds Try.pinned (OpenSpec.upto pixbufPartsSpec)

/-- 'vignettelaw03.PixbufBlits', WHERE WHAT IT READS IS OF BULK AT MOST 1048576: true; the input reads as it did. -/
def pixbufBlitsUptoRow : OpenClaim := { program := "ytilcggkbancniaa", sum := "fcd269cb0a6c30686c4a5c9c60a620819b56845067151cf194af17cb52445722", func := "vignette/vignettelaw03.PixbufBlits", spec := "pixbufBlits", unfollowed := true, recurses := true, apart := false, narrowed := true }
def PixbufBlitsUptoSaid : Prop := pixbufBlitsUptoRow.holds Try.pinned (OpenSpec.upto pixbufBlitsSpec)

/-- 'vignettelaw02.RegionSets', WHERE WHAT IT READS IS OF BULK AT MOST 1048576: true; the input reads as it did. -/
def regionSetsUptoRow : OpenClaim := { program := "ytilcggkbancniaa", sum := "fcd269cb0a6c30686c4a5c9c60a620819b56845067151cf194af17cb52445722", func := "vignette/vignettelaw02.RegionSets", spec := "regionSets", unfollowed := true, recurses := true, apart := false, narrowed := true }
def RegionSetsUptoSaid : Prop := regionSetsUptoRow.holds Try.pinned (OpenSpec.upto regionSetsSpec)

/-- 'vignettelaw02.RegionSteps', WHERE WHAT IT READS IS OF BULK AT MOST 1048576: true; the input reads as it did. -/
def regionStepsUptoRow : OpenClaim := { program := "ytilcggkbancniaa", sum := "fcd269cb0a6c30686c4a5c9c60a620819b56845067151cf194af17cb52445722", func := "vignette/vignettelaw02.RegionSteps", spec := "regionSteps", unfollowed := true, recurses := true, apart := false, narrowed := true }
def RegionStepsUptoSaid : Prop := regionStepsUptoRow.holds Try.pinned (OpenSpec.upto regionStepsSpec)

/-- 'vignettelaw02.RegionShifts', WHERE WHAT IT READS IS OF BULK AT MOST 1048576: true; the input reads as it did. -/
def regionShiftsUptoRow : OpenClaim := { program := "ytilcggkbancniaa", sum := "fcd269cb0a6c30686c4a5c9c60a620819b56845067151cf194af17cb52445722", func := "vignette/vignettelaw02.RegionShifts", spec := "regionShifts", unfollowed := true, recurses := true, apart := false, narrowed := true }
def RegionShiftsUptoSaid : Prop := regionShiftsUptoRow.holds Try.pinned (OpenSpec.upto regionShiftsSpec)

/-- 'vignettelaw02.RegionForm', WHERE WHAT IT READS IS OF BULK AT MOST 1048576: true; the input reads as it did. -/
def regionFormUptoRow : OpenClaim := { program := "ytilcggkbancniaa", sum := "fcd269cb0a6c30686c4a5c9c60a620819b56845067151cf194af17cb52445722", func := "vignette/vignettelaw02.RegionForm", spec := "regionForm", unfollowed := true, recurses := true, apart := false, narrowed := true }
def RegionFormUptoSaid : Prop := regionFormUptoRow.holds Try.pinned (OpenSpec.upto regionFormSpec)

/-- 'vignettelaw02.RegionLooks', WHERE WHAT IT READS IS OF BULK AT MOST 1048576: true; the input reads as it did. -/
def regionLooksUptoRow : OpenClaim := { program := "ytilcggkbancniaa", sum := "fcd269cb0a6c30686c4a5c9c60a620819b56845067151cf194af17cb52445722", func := "vignette/vignettelaw02.RegionLooks", spec := "regionLooks", unfollowed := true, recurses := true, apart := false, narrowed := true }
def RegionLooksUptoSaid : Prop := regionLooksUptoRow.holds Try.pinned (OpenSpec.upto regionLooksSpec)

/-- 'vignettelaw10.TilesTells', WHERE WHAT IT READS IS OF BULK AT MOST 1048576: true; the input reads as it did. -/
def tilesTellsUptoRow : OpenClaim := { program := "ytilcggkbancniaa", sum := "fcd269cb0a6c30686c4a5c9c60a620819b56845067151cf194af17cb52445722", func := "vignette/vignettelaw10.TilesTells", spec := "tilesTells", unfollowed := true, recurses := true, apart := false, narrowed := true }
def TilesTellsUptoSaid : Prop := tilesTellsUptoRow.holds Try.pinned (OpenSpec.upto tilesTellsSpec)

/-- 'vignettelaw10.TilesTwice', WHERE WHAT IT READS IS OF BULK AT MOST 1048576: true; the input reads as it did. -/
def tilesTwiceUptoRow : OpenClaim := { program := "ytilcggkbancniaa", sum := "fcd269cb0a6c30686c4a5c9c60a620819b56845067151cf194af17cb52445722", func := "vignette/vignettelaw10.TilesTwice", spec := "tilesTwice", unfollowed := true, recurses := true, apart := false, narrowed := true }
def TilesTwiceUptoSaid : Prop := tilesTwiceUptoRow.holds Try.pinned (OpenSpec.upto tilesTwiceSpec)

/-- 'vignettelaw10.TilesSums', WHERE WHAT IT READS IS OF BULK AT MOST 1048576: true; the input reads as it did. -/
def tilesSumsUptoRow : OpenClaim := { program := "ytilcggkbancniaa", sum := "fcd269cb0a6c30686c4a5c9c60a620819b56845067151cf194af17cb52445722", func := "vignette/vignettelaw10.TilesSums", spec := "tilesSums", unfollowed := true, recurses := true, apart := false, narrowed := true }
def TilesSumsUptoSaid : Prop := tilesSumsUptoRow.holds Try.pinned (OpenSpec.upto tilesSumsSpec)

/-- 'vignettelaw10.TilesOne', WHERE WHAT IT READS IS OF BULK AT MOST 1048576: true; the input reads as it did. -/
def tilesOneUptoRow : OpenClaim := { program := "ytilcggkbancniaa", sum := "fcd269cb0a6c30686c4a5c9c60a620819b56845067151cf194af17cb52445722", func := "vignette/vignettelaw10.TilesOne", spec := "tilesOne", unfollowed := true, recurses := true, apart := false, narrowed := true }
def TilesOneUptoSaid : Prop := tilesOneUptoRow.holds Try.pinned (OpenSpec.upto tilesOneSpec)

end Rows
end Go.Proofs.Ytilcggkbancniaa
