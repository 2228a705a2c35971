/-
  No cell of these rows narrows 'for every input' (looked for: loops, veiled, ifaces, maps, wideKeys, modest, calm, conditions, laid).
  DERIVED. THE GIVEN ROWS OF THIS SEAT. 5 by the template 'for every input the law returns true; each argument reads behind the call as it read before'; 0 by the template 'total and deterministic' (their statements: YtilkcfabbilcbaaTotals.lean).
  GIVEN WITH THE SEED: the statements are not yours to turn. If you find one false, say at which input.
  Laid BY PROGRAM, IN A SANDBOX (cutbox-rows.mjs): the forced cells as the released guide's own fill.sh prints them over the translation 41dc44f4172fb5c1… (all of the seat's roots in one cut). By AI agents, Wed Nov 11 2026. No macro, syntax, notation, axiom, sorry.
-/
import Derived.Test.YtilkcfabbilcbaaChecked
import GoSem.Claim
import GoSem.ClaimJoined
import GoSem.ClaimMapViews
import Derived.JoinedTies
import Derived.KernelRfl
namespace Go.Proofs.Ytilkcfabbilcbaa
/- THE CELL 'sum', in the pinned program and in every row, IS THE sha256 OF THE DUMP (.gsa) THAT YtilkcfabbilcbaaProg.lean LOADS. Nothing in Lean hashes anything: it is a label: what it is worth is what the hold of that sum in a sandbox is worth. -/
noncomputable def Try.pinned : Pinned := { name := "ytilkcfabbilcbaa", sum := "41dc44f4172fb5c114bdaa1329e597d69e95d71dc77cb589397b76e6d3629aed", checked := Try.checked }
namespace Rows
def none {H : Type} : Left H := { results := [], args := [] }

/-- 'lingualaw33.LevelsTells': WHATEVER THE INPUT: true; the input reads as it did. -/
def levelsTellsSpec : ChangeSpec := { name := "levelsTells", fn := fun _ => fun
  | [d1, d2, d3, d4] => { results := [.lit (.bool true)], args := [d1, d2, d3, d4] }
  | _ => none }
def levelsTellsRow : OpenClaim := { program := "ytilkcfabbilcbaa", sum := "41dc44f4172fb5c114bdaa1329e597d69e95d71dc77cb589397b76e6d3629aed", func := "lingua/lingualaw33.LevelsTells", spec := "levelsTells", unfollowed := true, recurses := true, apart := false }
def LevelsTellsSaid : Prop := levelsTellsRow.holds Try.pinned (OpenSpec.ofChange levelsTellsSpec)

/-- ITS FALSE NEIGHBOUR: 'it returns false'. Refute it at one input. -/
def levelsTellsWrong : ChangeSpec := { name := "levelsTells", fn := fun _ => fun
  | [d1, d2, d3, d4] => { results := [.lit (.bool false)], args := [d1, d2, d3, d4] }
  | _ => none }
def LevelsTellsWrongFalsely : Prop := levelsTellsRow.holds Try.pinned (OpenSpec.ofChange levelsTellsWrong)

/-- 'lingualaw33.LevelsWorlds': WHATEVER THE INPUT: true; the input reads as it did. -/
def levelsWorldsSpec : ChangeSpec := { name := "levelsWorlds", fn := fun _ => fun
  | [d1, d2, d3, d4, d5, d6, d7] => { results := [.lit (.bool true)], args := [d1, d2, d3, d4, d5, d6, d7] }
  | _ => none }
def levelsWorldsRow : OpenClaim := { program := "ytilkcfabbilcbaa", sum := "41dc44f4172fb5c114bdaa1329e597d69e95d71dc77cb589397b76e6d3629aed", func := "lingua/lingualaw33.LevelsWorlds", spec := "levelsWorlds", unfollowed := true, recurses := true, apart := false }
def LevelsWorldsSaid : Prop := levelsWorldsRow.holds Try.pinned (OpenSpec.ofChange levelsWorldsSpec)

/-- ITS FALSE NEIGHBOUR: 'it returns false'. Refute it at one input. -/
def levelsWorldsWrong : ChangeSpec := { name := "levelsWorlds", fn := fun _ => fun
  | [d1, d2, d3, d4, d5, d6, d7] => { results := [.lit (.bool false)], args := [d1, d2, d3, d4, d5, d6, d7] }
  | _ => none }
def LevelsWorldsWrongFalsely : Prop := levelsWorldsRow.holds Try.pinned (OpenSpec.ofChange levelsWorldsWrong)

/-- 'lingualaw33.LevelsRight': WHATEVER THE INPUT: true; the input reads as it did. -/
def levelsRightSpec : ChangeSpec := { name := "levelsRight", fn := fun _ => fun
  | [d1, d2] => { results := [.lit (.bool true)], args := [d1, d2] }
  | _ => none }
def levelsRightRow : OpenClaim := { program := "ytilkcfabbilcbaa", sum := "41dc44f4172fb5c114bdaa1329e597d69e95d71dc77cb589397b76e6d3629aed", func := "lingua/lingualaw33.LevelsRight", spec := "levelsRight", unfollowed := true, recurses := true, apart := false }
def LevelsRightSaid : Prop := levelsRightRow.holds Try.pinned (OpenSpec.ofChange levelsRightSpec)

/-- ITS FALSE NEIGHBOUR: 'it returns false'. Refute it at one input. -/
def levelsRightWrong : ChangeSpec := { name := "levelsRight", fn := fun _ => fun
  | [d1, d2] => { results := [.lit (.bool false)], args := [d1, d2] }
  | _ => none }
def LevelsRightWrongFalsely : Prop := levelsRightRow.holds Try.pinned (OpenSpec.ofChange levelsRightWrong)

/-- 'lingualaw33.LevelsMore': WHATEVER THE INPUT: true; the input reads as it did. -/
def levelsMoreSpec : ChangeSpec := { name := "levelsMore", fn := fun _ => fun
  | [d1, d2, d3, d4, d5, d6] => { results := [.lit (.bool true)], args := [d1, d2, d3, d4, d5, d6] }
  | _ => none }
def levelsMoreRow : OpenClaim := { program := "ytilkcfabbilcbaa", sum := "41dc44f4172fb5c114bdaa1329e597d69e95d71dc77cb589397b76e6d3629aed", func := "lingua/lingualaw33.LevelsMore", spec := "levelsMore", unfollowed := true, recurses := true, apart := false }
def LevelsMoreSaid : Prop := levelsMoreRow.holds Try.pinned (OpenSpec.ofChange levelsMoreSpec)

/-- ITS FALSE NEIGHBOUR: 'it returns false'. Refute it at one input. -/
def levelsMoreWrong : ChangeSpec := { name := "levelsMore", fn := fun _ => fun
  | [d1, d2, d3, d4, d5, d6] => { results := [.lit (.bool false)], args := [d1, d2, d3, d4, d5, d6] }
  | _ => none }
def LevelsMoreWrongFalsely : Prop := levelsMoreRow.holds Try.pinned (OpenSpec.ofChange levelsMoreWrong)

/-- 'lingualaw33.LevelsBatch': WHATEVER THE INPUT: true; the input reads as it did. -/
def levelsBatchSpec : ChangeSpec := { name := "levelsBatch", fn := fun _ => fun
  | [d1, d2, d3, d4] => { results := [.lit (.bool true)], args := [d1, d2, d3, d4] }
  | _ => none }
def levelsBatchRow : OpenClaim := { program := "ytilkcfabbilcbaa", sum := "41dc44f4172fb5c114bdaa1329e597d69e95d71dc77cb589397b76e6d3629aed", func := "lingua/lingualaw33.LevelsBatch", spec := "levelsBatch", unfollowed := true, recurses := true, apart := false }
def LevelsBatchSaid : Prop := levelsBatchRow.holds Try.pinned (OpenSpec.ofChange levelsBatchSpec)

/-- ITS FALSE NEIGHBOUR: 'it returns false'. Refute it at one input. -/
def levelsBatchWrong : ChangeSpec := { name := "levelsBatch", fn := fun _ => fun
  | [d1, d2, d3, d4] => { results := [.lit (.bool false)], args := [d1, d2, d3, d4] }
  | _ => none }
def LevelsBatchWrongFalsely : Prop := levelsBatchRow.holds Try.pinned (OpenSpec.ofChange levelsBatchWrong)

/- THE SECOND FORM. 'bulk': how many values and letters a reading holds, each counted each time it is reached (what is shared counts as often as it is met; a slice's spare places count too). A statement '..UptoSaid' is the law's where the arguments, and the package variables that the reading takes, are together of bulk at most 1048576: NARROWER than '..Said'. Prove '..Said' where nothing that the law and all that it calls make is longer than what came in: it says more and counts as full. Else prove '..UptoSaid'. A law counts once. -/
mutual
def uptoBulk {H : Type} : DataW H → Nat
  | .lit (.string bytes) => bytes.length + 1
  | .lit _ => 1
  | .nil => 1
  | .ptr d => uptoBulk d + 1
  | .slice elems spare => uptoBulkAll elems + uptoBulkAll spare + 1
  | .agg parts => uptoBulkAll parts + 1
  | .iface _ d => uptoBulk d + 1
  | .map entries => uptoBulkEntries entries + 1
  | .held _ => 1
def uptoBulkAll {H : Type} : List (DataW H) → Nat
  | [] => 0
  | d :: r => uptoBulk d + uptoBulkAll r
def uptoBulkEntries {H : Type} : List (Lit × DataW H) → Nat
  | [] => 0
  | x :: r => uptoBulkEntry x + uptoBulkEntries r
def uptoBulkEntry {H : Type} : Lit × DataW H → Nat
  | (.string bytes, d) => bytes.length + uptoBulk d + 1
  | (_, d) => uptoBulk d + 1
 end
def uptoSmall : (H : Type) → List (DataW H) → Bool := fun _ ds => decide (uptoBulkAll ds ≤ 1048576)
def OpenSpec.upto (s : _root_.Go.ChangeSpec) : _root_.Go.OpenSpec := { _root_.Go.OpenSpec.ofChange s with cond := some uptoSmall }

/-- 'lingualaw33.LevelsTells', WHERE WHAT IT READS IS OF BULK AT MOST 1048576: true; the input reads as it did. -/
def levelsTellsUptoRow : OpenClaim := { program := "ytilkcfabbilcbaa", sum := "41dc44f4172fb5c114bdaa1329e597d69e95d71dc77cb589397b76e6d3629aed", func := "lingua/lingualaw33.LevelsTells", spec := "levelsTells", unfollowed := true, recurses := true, apart := false, narrowed := true }
def LevelsTellsUptoSaid : Prop := levelsTellsUptoRow.holds Try.pinned (OpenSpec.upto levelsTellsSpec)

/-- 'lingualaw33.LevelsWorlds', WHERE WHAT IT READS IS OF BULK AT MOST 1048576: true; the input reads as it did. -/
def levelsWorldsUptoRow : OpenClaim := { program := "ytilkcfabbilcbaa", sum := "41dc44f4172fb5c114bdaa1329e597d69e95d71dc77cb589397b76e6d3629aed", func := "lingua/lingualaw33.LevelsWorlds", spec := "levelsWorlds", unfollowed := true, recurses := true, apart := false, narrowed := true }
def LevelsWorldsUptoSaid : Prop := levelsWorldsUptoRow.holds Try.pinned (OpenSpec.upto levelsWorldsSpec)

/-- 'lingualaw33.LevelsRight', WHERE WHAT IT READS IS OF BULK AT MOST 1048576: true; the input reads as it did. -/
def levelsRightUptoRow : OpenClaim := { program := "ytilkcfabbilcbaa", sum := "41dc44f4172fb5c114bdaa1329e597d69e95d71dc77cb589397b76e6d3629aed", func := "lingua/lingualaw33.LevelsRight", spec := "levelsRight", unfollowed := true, recurses := true, apart := false, narrowed := true }
def LevelsRightUptoSaid : Prop := levelsRightUptoRow.holds Try.pinned (OpenSpec.upto levelsRightSpec)

/-- 'lingualaw33.LevelsMore', WHERE WHAT IT READS IS OF BULK AT MOST 1048576: true; the input reads as it did. -/
def levelsMoreUptoRow : OpenClaim := { program := "ytilkcfabbilcbaa", sum := "41dc44f4172fb5c114bdaa1329e597d69e95d71dc77cb589397b76e6d3629aed", func := "lingua/lingualaw33.LevelsMore", spec := "levelsMore", unfollowed := true, recurses := true, apart := false, narrowed := true }
def LevelsMoreUptoSaid : Prop := levelsMoreUptoRow.holds Try.pinned (OpenSpec.upto levelsMoreSpec)

/-- 'lingualaw33.LevelsBatch', WHERE WHAT IT READS IS OF BULK AT MOST 1048576: true; the input reads as it did. -/
def levelsBatchUptoRow : OpenClaim := { program := "ytilkcfabbilcbaa", sum := "41dc44f4172fb5c114bdaa1329e597d69e95d71dc77cb589397b76e6d3629aed", func := "lingua/lingualaw33.LevelsBatch", spec := "levelsBatch", unfollowed := true, recurses := true, apart := false, narrowed := true }
def LevelsBatchUptoSaid : Prop := levelsBatchUptoRow.holds Try.pinned (OpenSpec.upto levelsBatchSpec)

end Rows
end Go.Proofs.Ytilkcfabbilcbaa
