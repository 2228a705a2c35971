/-
  No cell of these rows narrows 'for every input' (looked for: loops, veiled, ifaces, maps, wideKeys, modest, calm, conditions, laid).
  DERIVED. THE GIVEN ROWS OF THIS SEAT. 18 by the template 'for every input the law returns true; each argument reads behind the call as it read before'; 0 by the template 'total and deterministic' (their statements: YtilhaifmfiobhaaTotals.lean).
  GIVEN WITH THE SEED: the statements are not yours to turn. If you find one false, say at which input.
  Laid BY PROGRAM, IN A SANDBOX (cutbox-rows.mjs): the forced cells as the released guide's own fill.sh prints them over the translation da3e5765e9045ec0… (all of the seat's roots in one cut). By AI agents, Wed Nov 11 2026. No macro, syntax, notation, axiom, sorry.
-/
import Derived.Test.YtilhaifmfiobhaaChecked
import GoSem.Claim
import GoSem.ClaimJoined
import GoSem.ClaimMapViews
import Derived.JoinedTies
import Derived.KernelRfl
namespace Go.Proofs.Ytilhaifmfiobhaa
/- THE CELL 'sum', in the pinned program and in every row, IS THE sha256 OF THE DUMP (.gsa) THAT YtilhaifmfiobhaaProg.lean LOADS. Nothing in Lean hashes anything: it is a label: what it is worth is what the hold of that sum in a sandbox is worth. -/
noncomputable def Try.pinned : Pinned := { name := "ytilhaifmfiobhaa", sum := "da3e5765e9045ec0a8b39fe82605211266fb58a9a9f54ff785ea4d6cdd7ce018", checked := Try.checked }
namespace Rows
def none {H : Type} : Left H := { results := [], args := [] }

/-- 'lingualaw08.SatFollows': WHATEVER THE INPUT: true; the input reads as it did. -/
def satFollowsSpec : ChangeSpec := { name := "satFollows", fn := fun _ => fun
  | [d1, d2, d3, d4] => { results := [.lit (.bool true)], args := [d1, d2, d3, d4] }
  | _ => none }
def satFollowsRow : OpenClaim := { program := "ytilhaifmfiobhaa", sum := "da3e5765e9045ec0a8b39fe82605211266fb58a9a9f54ff785ea4d6cdd7ce018", func := "lingua/lingualaw08.SatFollows", spec := "satFollows", unfollowed := true, recurses := true, plainKeys := false, apart := false }
def SatFollowsSaid : Prop := satFollowsRow.holds Try.pinned (OpenSpec.ofChange satFollowsSpec)

/-- ITS FALSE NEIGHBOUR: 'it returns false'. Refute it at one input. -/
def satFollowsWrong : ChangeSpec := { name := "satFollows", fn := fun _ => fun
  | [d1, d2, d3, d4] => { results := [.lit (.bool false)], args := [d1, d2, d3, d4] }
  | _ => none }
def SatFollowsWrongFalsely : Prop := satFollowsRow.holds Try.pinned (OpenSpec.ofChange satFollowsWrong)

/-- 'lingualaw08.SatForced': WHATEVER THE INPUT: true; the input reads as it did. -/
def satForcedSpec : ChangeSpec := { name := "satForced", fn := fun _ => fun
  | [d1, d2] => { results := [.lit (.bool true)], args := [d1, d2] }
  | _ => none }
def satForcedRow : OpenClaim := { program := "ytilhaifmfiobhaa", sum := "da3e5765e9045ec0a8b39fe82605211266fb58a9a9f54ff785ea4d6cdd7ce018", func := "lingua/lingualaw08.SatForced", spec := "satForced", unfollowed := true, recurses := true, plainKeys := false, apart := false }
def SatForcedSaid : Prop := satForcedRow.holds Try.pinned (OpenSpec.ofChange satForcedSpec)

/-- ITS FALSE NEIGHBOUR: 'it returns false'. Refute it at one input. -/
def satForcedWrong : ChangeSpec := { name := "satForced", fn := fun _ => fun
  | [d1, d2] => { results := [.lit (.bool false)], args := [d1, d2] }
  | _ => none }
def SatForcedWrongFalsely : Prop := satForcedRow.holds Try.pinned (OpenSpec.ofChange satForcedWrong)

/-- 'lingualaw08.SatTells': WHATEVER THE INPUT: true; the input reads as it did. -/
def satTellsSpec : ChangeSpec := { name := "satTells", fn := fun _ => fun
  | [d1, d2, d3, d4] => { results := [.lit (.bool true)], args := [d1, d2, d3, d4] }
  | _ => none }
def satTellsRow : OpenClaim := { program := "ytilhaifmfiobhaa", sum := "da3e5765e9045ec0a8b39fe82605211266fb58a9a9f54ff785ea4d6cdd7ce018", func := "lingua/lingualaw08.SatTells", spec := "satTells", unfollowed := true, recurses := true, plainKeys := false, apart := false }
def SatTellsSaid : Prop := satTellsRow.holds Try.pinned (OpenSpec.ofChange satTellsSpec)

/-- ITS FALSE NEIGHBOUR: 'it returns false'. Refute it at one input. -/
def satTellsWrong : ChangeSpec := { name := "satTells", fn := fun _ => fun
  | [d1, d2, d3, d4] => { results := [.lit (.bool false)], args := [d1, d2, d3, d4] }
  | _ => none }
def SatTellsWrongFalsely : Prop := satTellsRow.holds Try.pinned (OpenSpec.ofChange satTellsWrong)

/-- 'lingualaw08.SatDecides': WHATEVER THE INPUT: true; the input reads as it did. -/
def satDecidesSpec : ChangeSpec := { name := "satDecides", fn := fun _ => fun
  | [d1, d2, d3, d4] => { results := [.lit (.bool true)], args := [d1, d2, d3, d4] }
  | _ => none }
def satDecidesRow : OpenClaim := { program := "ytilhaifmfiobhaa", sum := "da3e5765e9045ec0a8b39fe82605211266fb58a9a9f54ff785ea4d6cdd7ce018", func := "lingua/lingualaw08.SatDecides", spec := "satDecides", unfollowed := true, recurses := true, plainKeys := false, apart := false }
def SatDecidesSaid : Prop := satDecidesRow.holds Try.pinned (OpenSpec.ofChange satDecidesSpec)

/-- ITS FALSE NEIGHBOUR: 'it returns false'. Refute it at one input. -/
def satDecidesWrong : ChangeSpec := { name := "satDecides", fn := fun _ => fun
  | [d1, d2, d3, d4] => { results := [.lit (.bool false)], args := [d1, d2, d3, d4] }
  | _ => none }
def SatDecidesWrongFalsely : Prop := satDecidesRow.holds Try.pinned (OpenSpec.ofChange satDecidesWrong)

/-- 'lingualaw08.SatFirst': WHATEVER THE INPUT: true; the input reads as it did. -/
def satFirstSpec : ChangeSpec := { name := "satFirst", fn := fun _ => fun
  | [d1, d2, d3] => { results := [.lit (.bool true)], args := [d1, d2, d3] }
  | _ => none }
def satFirstRow : OpenClaim := { program := "ytilhaifmfiobhaa", sum := "da3e5765e9045ec0a8b39fe82605211266fb58a9a9f54ff785ea4d6cdd7ce018", func := "lingua/lingualaw08.SatFirst", spec := "satFirst", unfollowed := true, recurses := true, plainKeys := false, apart := false }
def SatFirstSaid : Prop := satFirstRow.holds Try.pinned (OpenSpec.ofChange satFirstSpec)

/-- ITS FALSE NEIGHBOUR: 'it returns false'. Refute it at one input. -/
def satFirstWrong : ChangeSpec := { name := "satFirst", fn := fun _ => fun
  | [d1, d2, d3] => { results := [.lit (.bool false)], args := [d1, d2, d3] }
  | _ => none }
def SatFirstWrongFalsely : Prop := satFirstRow.holds Try.pinned (OpenSpec.ofChange satFirstWrong)

/-- 'lingualaw25.ClaimTells': WHATEVER THE INPUT: true; the input reads as it did. -/
def claimTellsSpec : ChangeSpec := { name := "claimTells", fn := fun _ => fun
  | [d1, d2] => { results := [.lit (.bool true)], args := [d1, d2] }
  | _ => none }
def claimTellsRow : OpenClaim := { program := "ytilhaifmfiobhaa", sum := "da3e5765e9045ec0a8b39fe82605211266fb58a9a9f54ff785ea4d6cdd7ce018", func := "lingua/lingualaw25.ClaimTells", spec := "claimTells", unfollowed := true, recurses := true, plainKeys := false, apart := false }
def ClaimTellsSaid : Prop := claimTellsRow.holds Try.pinned (OpenSpec.ofChange claimTellsSpec)

/-- ITS FALSE NEIGHBOUR: 'it returns false'. Refute it at one input. -/
def claimTellsWrong : ChangeSpec := { name := "claimTells", fn := fun _ => fun
  | [d1, d2] => { results := [.lit (.bool false)], args := [d1, d2] }
  | _ => none }
def ClaimTellsWrongFalsely : Prop := claimTellsRow.holds Try.pinned (OpenSpec.ofChange claimTellsWrong)

/-- 'lingualaw25.ClaimMore': WHATEVER THE INPUT: true; the input reads as it did. -/
def claimMoreSpec : ChangeSpec := { name := "claimMore", fn := fun _ => fun
  | [d1, d2, d3] => { results := [.lit (.bool true)], args := [d1, d2, d3] }
  | _ => none }
def claimMoreRow : OpenClaim := { program := "ytilhaifmfiobhaa", sum := "da3e5765e9045ec0a8b39fe82605211266fb58a9a9f54ff785ea4d6cdd7ce018", func := "lingua/lingualaw25.ClaimMore", spec := "claimMore", unfollowed := true, recurses := true, plainKeys := false, apart := false }
def ClaimMoreSaid : Prop := claimMoreRow.holds Try.pinned (OpenSpec.ofChange claimMoreSpec)

/-- ITS FALSE NEIGHBOUR: 'it returns false'. Refute it at one input. -/
def claimMoreWrong : ChangeSpec := { name := "claimMore", fn := fun _ => fun
  | [d1, d2, d3] => { results := [.lit (.bool false)], args := [d1, d2, d3] }
  | _ => none }
def ClaimMoreWrongFalsely : Prop := claimMoreRow.holds Try.pinned (OpenSpec.ofChange claimMoreWrong)

/-- 'lingualaw25.ClaimWorlds': WHATEVER THE INPUT: true; the input reads as it did. -/
def claimWorldsSpec : ChangeSpec := { name := "claimWorlds", fn := fun _ => fun
  | [d1, d2] => { results := [.lit (.bool true)], args := [d1, d2] }
  | _ => none }
def claimWorldsRow : OpenClaim := { program := "ytilhaifmfiobhaa", sum := "da3e5765e9045ec0a8b39fe82605211266fb58a9a9f54ff785ea4d6cdd7ce018", func := "lingua/lingualaw25.ClaimWorlds", spec := "claimWorlds", unfollowed := true, recurses := true, plainKeys := false, apart := false }
def ClaimWorldsSaid : Prop := claimWorldsRow.holds Try.pinned (OpenSpec.ofChange claimWorldsSpec)

/-- ITS FALSE NEIGHBOUR: 'it returns false'. Refute it at one input. -/
def claimWorldsWrong : ChangeSpec := { name := "claimWorlds", fn := fun _ => fun
  | [d1, d2] => { results := [.lit (.bool false)], args := [d1, d2] }
  | _ => none }
def ClaimWorldsWrongFalsely : Prop := claimWorldsRow.holds Try.pinned (OpenSpec.ofChange claimWorldsWrong)

/-- 'lingualaw25.ClaimFollows': WHATEVER THE INPUT: true; the input reads as it did. -/
def claimFollowsSpec : ChangeSpec := { name := "claimFollows", fn := fun _ => fun
  | [d1, d2, d3, d4] => { results := [.lit (.bool true)], args := [d1, d2, d3, d4] }
  | _ => none }
def claimFollowsRow : OpenClaim := { program := "ytilhaifmfiobhaa", sum := "da3e5765e9045ec0a8b39fe82605211266fb58a9a9f54ff785ea4d6cdd7ce018", func := "lingua/lingualaw25.ClaimFollows", spec := "claimFollows", unfollowed := true, recurses := true, plainKeys := false, apart := false }
def ClaimFollowsSaid : Prop := claimFollowsRow.holds Try.pinned (OpenSpec.ofChange claimFollowsSpec)

/-- ITS FALSE NEIGHBOUR: 'it returns false'. Refute it at one input. -/
def claimFollowsWrong : ChangeSpec := { name := "claimFollows", fn := fun _ => fun
  | [d1, d2, d3, d4] => { results := [.lit (.bool false)], args := [d1, d2, d3, d4] }
  | _ => none }
def ClaimFollowsWrongFalsely : Prop := claimFollowsRow.holds Try.pinned (OpenSpec.ofChange claimFollowsWrong)

/-- 'lingualaw25.ClaimConflict': WHATEVER THE INPUT: true; the input reads as it did. -/
def claimConflictSpec : ChangeSpec := { name := "claimConflict", fn := fun _ => fun
  | [d1, d2] => { results := [.lit (.bool true)], args := [d1, d2] }
  | _ => none }
def claimConflictRow : OpenClaim := { program := "ytilhaifmfiobhaa", sum := "da3e5765e9045ec0a8b39fe82605211266fb58a9a9f54ff785ea4d6cdd7ce018", func := "lingua/lingualaw25.ClaimConflict", spec := "claimConflict", unfollowed := true, recurses := true, plainKeys := false, apart := false }
def ClaimConflictSaid : Prop := claimConflictRow.holds Try.pinned (OpenSpec.ofChange claimConflictSpec)

/-- ITS FALSE NEIGHBOUR: 'it returns false'. Refute it at one input. -/
def claimConflictWrong : ChangeSpec := { name := "claimConflict", fn := fun _ => fun
  | [d1, d2] => { results := [.lit (.bool false)], args := [d1, d2] }
  | _ => none }
def ClaimConflictWrongFalsely : Prop := claimConflictRow.holds Try.pinned (OpenSpec.ofChange claimConflictWrong)

/-- 'lingualaw26.PersonWorlds': WHATEVER THE INPUT: true; the input reads as it did. -/
def personWorldsSpec : ChangeSpec := { name := "personWorlds", fn := fun _ => fun
  | [d1, d2, d3, d4] => { results := [.lit (.bool true)], args := [d1, d2, d3, d4] }
  | _ => none }
def personWorldsRow : OpenClaim := { program := "ytilhaifmfiobhaa", sum := "da3e5765e9045ec0a8b39fe82605211266fb58a9a9f54ff785ea4d6cdd7ce018", func := "lingua/lingualaw26.PersonWorlds", spec := "personWorlds", unfollowed := true, recurses := true, plainKeys := false, apart := false }
def PersonWorldsSaid : Prop := personWorldsRow.holds Try.pinned (OpenSpec.ofChange personWorldsSpec)

/-- ITS FALSE NEIGHBOUR: 'it returns false'. Refute it at one input. -/
def personWorldsWrong : ChangeSpec := { name := "personWorlds", fn := fun _ => fun
  | [d1, d2, d3, d4] => { results := [.lit (.bool false)], args := [d1, d2, d3, d4] }
  | _ => none }
def PersonWorldsWrongFalsely : Prop := personWorldsRow.holds Try.pinned (OpenSpec.ofChange personWorldsWrong)

/-- 'lingualaw26.PersonMore': WHATEVER THE INPUT: true; the input reads as it did. -/
def personMoreSpec : ChangeSpec := { name := "personMore", fn := fun _ => fun
  | [d1, d2, d3, d4, d5] => { results := [.lit (.bool true)], args := [d1, d2, d3, d4, d5] }
  | _ => none }
def personMoreRow : OpenClaim := { program := "ytilhaifmfiobhaa", sum := "da3e5765e9045ec0a8b39fe82605211266fb58a9a9f54ff785ea4d6cdd7ce018", func := "lingua/lingualaw26.PersonMore", spec := "personMore", unfollowed := true, recurses := true, plainKeys := false, apart := false }
def PersonMoreSaid : Prop := personMoreRow.holds Try.pinned (OpenSpec.ofChange personMoreSpec)

/-- ITS FALSE NEIGHBOUR: 'it returns false'. Refute it at one input. -/
def personMoreWrong : ChangeSpec := { name := "personMore", fn := fun _ => fun
  | [d1, d2, d3, d4, d5] => { results := [.lit (.bool false)], args := [d1, d2, d3, d4, d5] }
  | _ => none }
def PersonMoreWrongFalsely : Prop := personMoreRow.holds Try.pinned (OpenSpec.ofChange personMoreWrong)

/-- 'lingualaw26.PersonSame': WHATEVER THE INPUT: true; the input reads as it did. -/
def personSameSpec : ChangeSpec := { name := "personSame", fn := fun _ => fun
  | [d1, d2, d3, d4, d5] => { results := [.lit (.bool true)], args := [d1, d2, d3, d4, d5] }
  | _ => none }
def personSameRow : OpenClaim := { program := "ytilhaifmfiobhaa", sum := "da3e5765e9045ec0a8b39fe82605211266fb58a9a9f54ff785ea4d6cdd7ce018", func := "lingua/lingualaw26.PersonSame", spec := "personSame", unfollowed := true, recurses := true, plainKeys := false, apart := false }
def PersonSameSaid : Prop := personSameRow.holds Try.pinned (OpenSpec.ofChange personSameSpec)

/-- ITS FALSE NEIGHBOUR: 'it returns false'. Refute it at one input. -/
def personSameWrong : ChangeSpec := { name := "personSame", fn := fun _ => fun
  | [d1, d2, d3, d4, d5] => { results := [.lit (.bool false)], args := [d1, d2, d3, d4, d5] }
  | _ => none }
def PersonSameWrongFalsely : Prop := personSameRow.holds Try.pinned (OpenSpec.ofChange personSameWrong)

/-- 'lingualaw27.RightsGrants': WHATEVER THE INPUT: true; the input reads as it did. -/
def rightsGrantsSpec : ChangeSpec := { name := "rightsGrants", fn := fun _ => fun
  | [d1, d2, d3, d4, d5, d6, d7] => { results := [.lit (.bool true)], args := [d1, d2, d3, d4, d5, d6, d7] }
  | _ => none }
def rightsGrantsRow : OpenClaim := { program := "ytilhaifmfiobhaa", sum := "da3e5765e9045ec0a8b39fe82605211266fb58a9a9f54ff785ea4d6cdd7ce018", func := "lingua/lingualaw27.RightsGrants", spec := "rightsGrants", unfollowed := true, recurses := true, plainKeys := false, apart := false }
def RightsGrantsSaid : Prop := rightsGrantsRow.holds Try.pinned (OpenSpec.ofChange rightsGrantsSpec)

/-- ITS FALSE NEIGHBOUR: 'it returns false'. Refute it at one input. -/
def rightsGrantsWrong : ChangeSpec := { name := "rightsGrants", fn := fun _ => fun
  | [d1, d2, d3, d4, d5, d6, d7] => { results := [.lit (.bool false)], args := [d1, d2, d3, d4, d5, d6, d7] }
  | _ => none }
def RightsGrantsWrongFalsely : Prop := rightsGrantsRow.holds Try.pinned (OpenSpec.ofChange rightsGrantsWrong)

/-- 'lingualaw27.RightsTells': WHATEVER THE INPUT: true; the input reads as it did. -/
def rightsTellsSpec : ChangeSpec := { name := "rightsTells", fn := fun _ => fun
  | [d1, d2, d3, d4, d5, d6, d7, d8] => { results := [.lit (.bool true)], args := [d1, d2, d3, d4, d5, d6, d7, d8] }
  | _ => none }
def rightsTellsRow : OpenClaim := { program := "ytilhaifmfiobhaa", sum := "da3e5765e9045ec0a8b39fe82605211266fb58a9a9f54ff785ea4d6cdd7ce018", func := "lingua/lingualaw27.RightsTells", spec := "rightsTells", unfollowed := true, recurses := true, plainKeys := false, apart := false }
def RightsTellsSaid : Prop := rightsTellsRow.holds Try.pinned (OpenSpec.ofChange rightsTellsSpec)

/-- ITS FALSE NEIGHBOUR: 'it returns false'. Refute it at one input. -/
def rightsTellsWrong : ChangeSpec := { name := "rightsTells", fn := fun _ => fun
  | [d1, d2, d3, d4, d5, d6, d7, d8] => { results := [.lit (.bool false)], args := [d1, d2, d3, d4, d5, d6, d7, d8] }
  | _ => none }
def RightsTellsWrongFalsely : Prop := rightsTellsRow.holds Try.pinned (OpenSpec.ofChange rightsTellsWrong)

/-- 'lingualaw27.RightsWorlds': WHATEVER THE INPUT: true; the input reads as it did. -/
def rightsWorldsSpec : ChangeSpec := { name := "rightsWorlds", fn := fun _ => fun
  | [d1, d2, d3, d4, d5, d6] => { results := [.lit (.bool true)], args := [d1, d2, d3, d4, d5, d6] }
  | _ => none }
def rightsWorldsRow : OpenClaim := { program := "ytilhaifmfiobhaa", sum := "da3e5765e9045ec0a8b39fe82605211266fb58a9a9f54ff785ea4d6cdd7ce018", func := "lingua/lingualaw27.RightsWorlds", spec := "rightsWorlds", unfollowed := true, recurses := true, plainKeys := false, apart := false }
def RightsWorldsSaid : Prop := rightsWorldsRow.holds Try.pinned (OpenSpec.ofChange rightsWorldsSpec)

/-- ITS FALSE NEIGHBOUR: 'it returns false'. Refute it at one input. -/
def rightsWorldsWrong : ChangeSpec := { name := "rightsWorlds", fn := fun _ => fun
  | [d1, d2, d3, d4, d5, d6] => { results := [.lit (.bool false)], args := [d1, d2, d3, d4, d5, d6] }
  | _ => none }
def RightsWorldsWrongFalsely : Prop := rightsWorldsRow.holds Try.pinned (OpenSpec.ofChange rightsWorldsWrong)

/-- 'lingualaw27.RightsGrow': WHATEVER THE INPUT: true; the input reads as it did. -/
def rightsGrowSpec : ChangeSpec := { name := "rightsGrow", fn := fun _ => fun
  | [d1, d2, d3, d4, d5, d6] => { results := [.lit (.bool true)], args := [d1, d2, d3, d4, d5, d6] }
  | _ => none }
def rightsGrowRow : OpenClaim := { program := "ytilhaifmfiobhaa", sum := "da3e5765e9045ec0a8b39fe82605211266fb58a9a9f54ff785ea4d6cdd7ce018", func := "lingua/lingualaw27.RightsGrow", spec := "rightsGrow", unfollowed := true, recurses := true, plainKeys := false, apart := false }
def RightsGrowSaid : Prop := rightsGrowRow.holds Try.pinned (OpenSpec.ofChange rightsGrowSpec)

/-- ITS FALSE NEIGHBOUR: 'it returns false'. Refute it at one input. -/
def rightsGrowWrong : ChangeSpec := { name := "rightsGrow", fn := fun _ => fun
  | [d1, d2, d3, d4, d5, d6] => { results := [.lit (.bool false)], args := [d1, d2, d3, d4, d5, d6] }
  | _ => none }
def RightsGrowWrongFalsely : Prop := rightsGrowRow.holds Try.pinned (OpenSpec.ofChange rightsGrowWrong)

/-- 'lingualaw27.RightsSums': WHATEVER THE INPUT: true; the input reads as it did. -/
def rightsSumsSpec : ChangeSpec := { name := "rightsSums", fn := fun _ => fun
  | [d1, d2, d3, d4, d5, d6, d7] => { results := [.lit (.bool true)], args := [d1, d2, d3, d4, d5, d6, d7] }
  | _ => none }
def rightsSumsRow : OpenClaim := { program := "ytilhaifmfiobhaa", sum := "da3e5765e9045ec0a8b39fe82605211266fb58a9a9f54ff785ea4d6cdd7ce018", func := "lingua/lingualaw27.RightsSums", spec := "rightsSums", unfollowed := true, recurses := true, plainKeys := false, apart := false }
def RightsSumsSaid : Prop := rightsSumsRow.holds Try.pinned (OpenSpec.ofChange rightsSumsSpec)

/-- ITS FALSE NEIGHBOUR: 'it returns false'. Refute it at one input. -/
def rightsSumsWrong : ChangeSpec := { name := "rightsSums", fn := fun _ => fun
  | [d1, d2, d3, d4, d5, d6, d7] => { results := [.lit (.bool false)], args := [d1, d2, d3, d4, d5, d6, d7] }
  | _ => none }
def RightsSumsWrongFalsely : Prop := rightsSumsRow.holds Try.pinned (OpenSpec.ofChange rightsSumsWrong)

/- THE SECOND FORM. 'bulk': how many values and letters a reading holds, each counted each time it is reached (what is shared counts as often as it is met; a slice's spare places count too). A statement '..UptoSaid' is the law's where the arguments, and the package variables that the reading takes, are together of bulk at most 1048576: NARROWER than '..Said'. Prove '..Said' where nothing that the law and all that it calls make is longer than what came in: it says more and counts as full. Else prove '..UptoSaid'. A law counts once. -/
mutual
def uptoBulk {H : Type} : DataW H → Nat
  | .lit (.string bytes) => bytes.length + 1
  | .lit _ => 1
  | .nil => 1
  | .ptr d => uptoBulk d + 1
  | .slice elems spare => uptoBulkAll elems + uptoBulkAll spare + 1
  | .agg parts => uptoBulkAll parts + 1
  | .iface _ d => uptoBulk d + 1
  | .map entries => uptoBulkEntries entries + 1
  | .held _ => 1
def uptoBulkAll {H : Type} : List (DataW H) → Nat
  | [] => 0
  | d :: r => uptoBulk d + uptoBulkAll r
def uptoBulkEntries {H : Type} : List (Lit × DataW H) → Nat
  | [] => 0
  | x :: r => uptoBulkEntry x + uptoBulkEntries r
def uptoBulkEntry {H : Type} : Lit × DataW H → Nat
  | (.string bytes, d) => bytes.length + uptoBulk d + 1
  | (_, d) => uptoBulk d + 1
 end
def uptoSmall : (H : Type) → List (DataW H) → Bool := fun _ ds => decide (uptoBulkAll ds ≤ 1048576)
def OpenSpec.upto (s : _root_.Go.ChangeSpec) : _root_.Go.OpenSpec := { _root_.Go.OpenSpec.ofChange s with cond := some uptoSmall }

/-- 'lingualaw08.SatFollows', WHERE WHAT IT READS IS OF BULK AT MOST 1048576: true; the input reads as it did. -/
def satFollowsUptoRow : OpenClaim := { program := "ytilhaifmfiobhaa", sum := "da3e5765e9045ec0a8b39fe82605211266fb58a9a9f54ff785ea4d6cdd7ce018", func := "lingua/lingualaw08.SatFollows", spec := "satFollows", unfollowed := true, recurses := true, plainKeys := false, apart := false, narrowed := true }
def SatFollowsUptoSaid : Prop := satFollowsUptoRow.holds Try.pinned (OpenSpec.upto satFollowsSpec)

/-- 'lingualaw08.SatForced', WHERE WHAT IT READS IS OF BULK AT MOST 1048576: true; the input reads as it did. -/
def satForcedUptoRow : OpenClaim := { program := "ytilhaifmfiobhaa", sum := "da3e5765e9045ec0a8b39fe82605211266fb58a9a9f54ff785ea4d6cdd7ce018", func := "lingua/lingualaw08.SatForced", spec := "satForced", unfollowed := true, recurses := true, plainKeys := false, apart := false, narrowed := true }
def SatForcedUptoSaid : Prop := satForcedUptoRow.holds Try.pinned (OpenSpec.upto satForcedSpec)

/-- 'lingualaw08.SatTells', WHERE WHAT IT READS IS OF BULK AT MOST 1048576: true; the input reads as it did. -/
def satTellsUptoRow : OpenClaim := { program := "ytilhaifmfiobhaa", sum := "da3e5765e9045ec0a8b39fe82605211266fb58a9a9f54ff785ea4d6cdd7ce018", func := "lingua/lingualaw08.SatTells", spec := "satTells", unfollowed := true, recurses := true, plainKeys := false, apart := false, narrowed := true }
def SatTellsUptoSaid : Prop := satTellsUptoRow.holds Try.pinned (OpenSpec.upto satTellsSpec)

/-- 'lingualaw08.SatDecides', WHERE WHAT IT READS IS OF BULK AT MOST 1048576: true; the input reads as it did. -/
def satDecidesUptoRow : OpenClaim := { program := "ytilhaifmfiobhaa", sum := "da3e5765e9045ec0a8b39fe82605211266fb58a9a9f54ff785ea4d6cdd7ce018", func := "lingua/lingualaw08.SatDecides", spec := "satDecides", unfollowed := true, recurses := true, plainKeys := false, apart := false, narrowed := true }
def SatDecidesUptoSaid : Prop := satDecidesUptoRow.holds Try.pinned (OpenSpec.upto satDecidesSpec)

/-- 'lingualaw08.SatFirst', WHERE WHAT IT READS IS OF BULK AT MOST 1048576: true; the input reads as it did. -/
def satFirstUptoRow : OpenClaim := { program := "ytilhaifmfiobhaa", sum := "da3e5765e9045ec0a8b39fe82605211266fb58a9a9f54ff785ea4d6cdd7ce018", func := "lingua/lingualaw08.SatFirst", spec := "satFirst", unfollowed := true, recurses := true, plainKeys := false, apart := false, narrowed := true }
def SatFirstUptoSaid : Prop := satFirstUptoRow.holds Try.pinned (OpenSpec.upto satFirstSpec)

/-- 'lingualaw25.ClaimTells', WHERE WHAT IT READS IS OF BULK AT MOST 1048576: true; the input reads as it did. -/
def claimTellsUptoRow : OpenClaim := { program := "ytilhaifmfiobhaa", sum := "da3e5765e9045ec0a8b39fe82605211266fb58a9a9f54ff785ea4d6cdd7ce018", func := "lingua/lingualaw25.ClaimTells", spec := "claimTells", unfollowed := true, recurses := true, plainKeys := false, apart := false, narrowed := true }
def ClaimTellsUptoSaid : Prop := claimTellsUptoRow.holds Try.pinned (OpenSpec.upto claimTellsSpec)

/-- 'lingualaw25.ClaimMore', WHERE WHAT IT READS IS OF BULK AT MOST 1048576: true; the input reads as it did. -/
def claimMoreUptoRow : OpenClaim := { program := "ytilhaifmfiobhaa", sum := "da3e5765e9045ec0a8b39fe82605211266fb58a9a9f54ff785ea4d6cdd7ce018", func := "lingua/lingualaw25.ClaimMore", spec := "claimMore", unfollowed := true, recurses := true, plainKeys := false, apart := false, narrowed := true }
def ClaimMoreUptoSaid : Prop := claimMoreUptoRow.holds Try.pinned (OpenSpec.upto claimMoreSpec)

/-- 'lingualaw25.ClaimWorlds', WHERE WHAT IT READS IS OF BULK AT MOST 1048576: true; the input reads as it did. -/
def claimWorldsUptoRow : OpenClaim := { program := "ytilhaifmfiobhaa", sum := "da3e5765e9045ec0a8b39fe82605211266fb58a9a9f54ff785ea4d6cdd7ce018", func := "lingua/lingualaw25.ClaimWorlds", spec := "claimWorlds", unfollowed := true, recurses := true, plainKeys := false, apart := false, narrowed := true }
def ClaimWorldsUptoSaid : Prop := claimWorldsUptoRow.holds Try.pinned (OpenSpec.upto claimWorldsSpec)

/-- 'lingualaw25.ClaimFollows', WHERE WHAT IT READS IS OF BULK AT MOST 1048576: true; the input reads as it did. -/
def claimFollowsUptoRow : OpenClaim := { program := "ytilhaifmfiobhaa", sum := "da3e5765e9045ec0a8b39fe82605211266fb58a9a9f54ff785ea4d6cdd7ce018", func := "lingua/lingualaw25.ClaimFollows", spec := "claimFollows", unfollowed := true, recurses := true, plainKeys := false, apart := false, narrowed := true }
def ClaimFollowsUptoSaid : Prop := claimFollowsUptoRow.holds Try.pinned (OpenSpec.upto claimFollowsSpec)

/-- 'lingualaw25.ClaimConflict', WHERE WHAT IT READS IS OF BULK AT MOST 1048576: true; the input reads as it did. -/
def claimConflictUptoRow : OpenClaim := { program := "ytilhaifmfiobhaa", sum := "da3e5765e9045ec0a8b39fe82605211266fb58a9a9f54ff785ea4d6cdd7ce018", func := "lingua/lingualaw25.ClaimConflict", spec := "claimConflict", unfollowed := true, recurses := true, plainKeys := false, apart := false, narrowed := true }
def ClaimConflictUptoSaid : Prop := claimConflictUptoRow.holds Try.pinned (OpenSpec.upto claimConflictSpec)

/-- 'lingualaw26.PersonWorlds', WHERE WHAT IT READS IS OF BULK AT MOST 1048576: true; the input reads as it did. -/
def personWorldsUptoRow : OpenClaim := { program := "ytilhaifmfiobhaa", sum := "da3e5765e9045ec0a8b39fe82605211266fb58a9a9f54ff785ea4d6cdd7ce018", func := "lingua/lingualaw26.PersonWorlds", spec := "personWorlds", unfollowed := true, recurses := true, plainKeys := false, apart := false, narrowed := true }
def PersonWorldsUptoSaid : Prop := personWorldsUptoRow.holds Try.pinned (OpenSpec.upto personWorldsSpec)

/-- 'lingualaw26.PersonMore', WHERE WHAT IT READS IS OF BULK AT MOST 1048576: true; the input reads as it did. -/
def personMoreUptoRow : OpenClaim := { program := "ytilhaifmfiobhaa", sum := "da3e5765e9045ec0a8b39fe82605211266fb58a9a9f54ff785ea4d6cdd7ce018", func := "lingua/lingualaw26.PersonMore", spec := "personMore", unfollowed := true, recurses := true, plainKeys := false, apart := false, narrowed := true }
def PersonMoreUptoSaid : Prop := personMoreUptoRow.holds Try.pinned (OpenSpec.upto personMoreSpec)

/-- 'lingualaw26.PersonSame', WHERE WHAT IT READS IS OF BULK AT MOST 1048576: true; the input reads as it did. -/
def personSameUptoRow : OpenClaim := { program := "ytilhaifmfiobhaa", sum := "da3e5765e9045ec0a8b39fe82605211266fb58a9a9f54ff785ea4d6cdd7ce018", func := "lingua/lingualaw26.PersonSame", spec := "personSame", unfollowed := true, recurses := true, plainKeys := false, apart := false, narrowed := true }
def PersonSameUptoSaid : Prop := personSameUptoRow.holds Try.pinned (OpenSpec.upto personSameSpec)

/-- 'lingualaw27.RightsGrants', WHERE WHAT IT READS IS OF BULK AT MOST 1048576: true; the input reads as it did. -/
def rightsGrantsUptoRow : OpenClaim := { program := "ytilhaifmfiobhaa", sum := "da3e5765e9045ec0a8b39fe82605211266fb58a9a9f54ff785ea4d6cdd7ce018", func := "lingua/lingualaw27.RightsGrants", spec := "rightsGrants", unfollowed := true, recurses := true, plainKeys := false, apart := false, narrowed := true }
def RightsGrantsUptoSaid : Prop := rightsGrantsUptoRow.holds Try.pinned (OpenSpec.upto rightsGrantsSpec)

/-- 'lingualaw27.RightsTells', WHERE WHAT IT READS IS OF BULK AT MOST 1048576: true; the input reads as it did. -/
def rightsTellsUptoRow : OpenClaim := { program := "ytilhaifmfiobhaa", sum := "da3e5765e9045ec0a8b39fe82605211266fb58a9a9f54ff785ea4d6cdd7ce018", func := "lingua/lingualaw27.RightsTells", spec := "rightsTells", unfollowed := true, recurses := true, plainKeys := false, apart := false, narrowed := true }
def RightsTellsUptoSaid : Prop := rightsTellsUptoRow.holds Try.pinned (OpenSpec.upto rightsTellsSpec)

/-- 'lingualaw27.RightsWorlds', WHERE WHAT IT READS IS OF BULK AT MOST 1048576: true; the input reads as it did. -/
def rightsWorldsUptoRow : OpenClaim := { program := "ytilhaifmfiobhaa", sum := "da3e5765e9045ec0a8b39fe82605211266fb58a9a9f54ff785ea4d6cdd7ce018", func := "lingua/lingualaw27.RightsWorlds", spec := "rightsWorlds", unfollowed := true, recurses := true, plainKeys := false, apart := false, narrowed := true }
def RightsWorldsUptoSaid : Prop := rightsWorldsUptoRow.holds Try.pinned (OpenSpec.upto rightsWorldsSpec)

/-- 'lingualaw27.RightsGrow', WHERE WHAT IT READS IS OF BULK AT MOST 1048576: true; the input reads as it did. -/
def rightsGrowUptoRow : OpenClaim := { program := "ytilhaifmfiobhaa", sum := "da3e5765e9045ec0a8b39fe82605211266fb58a9a9f54ff785ea4d6cdd7ce018", func := "lingua/lingualaw27.RightsGrow", spec := "rightsGrow", unfollowed := true, recurses := true, plainKeys := false, apart := false, narrowed := true }
def RightsGrowUptoSaid : Prop := rightsGrowUptoRow.holds Try.pinned (OpenSpec.upto rightsGrowSpec)

/-- 'lingualaw27.RightsSums', WHERE WHAT IT READS IS OF BULK AT MOST 1048576: true; the input reads as it did. -/
def rightsSumsUptoRow : OpenClaim := { program := "ytilhaifmfiobhaa", sum := "da3e5765e9045ec0a8b39fe82605211266fb58a9a9f54ff785ea4d6cdd7ce018", func := "lingua/lingualaw27.RightsSums", spec := "rightsSums", unfollowed := true, recurses := true, plainKeys := false, apart := false, narrowed := true }
def RightsSumsUptoSaid : Prop := rightsSumsUptoRow.holds Try.pinned (OpenSpec.upto rightsSumsSpec)

end Rows
end Go.Proofs.Ytilhaifmfiobhaa
