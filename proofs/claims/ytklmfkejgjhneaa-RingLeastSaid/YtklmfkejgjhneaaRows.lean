/-
  No cell of these rows narrows 'for every input' (looked for: loops, veiled, ifaces, maps, wideKeys, modest, calm, conditions, laid).
  DERIVED. THE GIVEN ROWS OF THIS SEAT. 17 by the template 'for every input the law returns true; each argument reads behind the call as it read before'; 0 by the template 'total and deterministic' (their statements: YtklmfkejgjhneaaTotals.lean).
  GIVEN WITH THE SEED: the statements are not yours to turn. If you find one false, say at which input.
  Laid BY PROGRAM, IN A SANDBOX (cutbox-rows.mjs): the forced cells as the released guide's own fill.sh prints them over the translation 5ee14705c7d94465… (all of the seat's roots in one cut). By AI agents, Wed Nov 11 2026. No macro, syntax, notation, axiom, sorry.
-/
import Derived.Test.YtklmfkejgjhneaaChecked
import GoSem.Claim
import GoSem.ClaimJoined
import GoSem.ClaimMapViews
import Derived.JoinedTies
import Derived.KernelRfl
namespace Go.Proofs.Ytklmfkejgjhneaa
/- THE CELL 'sum', in the pinned program and in every row, IS THE sha256 OF THE DUMP (.gsa) THAT YtklmfkejgjhneaaProg.lean LOADS. Nothing in Lean hashes anything: it is a label: what it is worth is what the hold of that sum in a sandbox is worth. -/
noncomputable def Try.pinned : Pinned := { name := "ytklmfkejgjhneaa", sum := "5ee14705c7d94465db1dbae1b8fa50a28a09788c7ae897c2c596729d28bae4df", checked := Try.checked }
namespace Rows
def none {H : Type} : Left H := { results := [], args := [] }

/-- 'lingualaw17.GroupTells': WHATEVER THE INPUT: true; the input reads as it did. -/
def groupTellsSpec : ChangeSpec := { name := "groupTells", fn := fun _ => fun
  | [d1, d2, d3, d4, d5] => { results := [.lit (.bool true)], args := [d1, d2, d3, d4, d5] }
  | _ => none }
def groupTellsRow : OpenClaim := { program := "ytklmfkejgjhneaa", sum := "5ee14705c7d94465db1dbae1b8fa50a28a09788c7ae897c2c596729d28bae4df", func := "lingua/lingualaw17.GroupTells", spec := "groupTells", unfollowed := true, recurses := true, plainKeys := false, apart := false }
def GroupTellsSaid : Prop := groupTellsRow.holds Try.pinned (OpenSpec.ofChange groupTellsSpec)

/-- ITS FALSE NEIGHBOUR: 'it returns false'. Refute it at one input. -/
def groupTellsWrong : ChangeSpec := { name := "groupTells", fn := fun _ => fun
  | [d1, d2, d3, d4, d5] => { results := [.lit (.bool false)], args := [d1, d2, d3, d4, d5] }
  | _ => none }
def GroupTellsWrongFalsely : Prop := groupTellsRow.holds Try.pinned (OpenSpec.ofChange groupTellsWrong)

/-- 'lingualaw17.GroupStays': WHATEVER THE INPUT: true; the input reads as it did. -/
def groupStaysSpec : ChangeSpec := { name := "groupStays", fn := fun _ => fun
  | [d1, d2, d3] => { results := [.lit (.bool true)], args := [d1, d2, d3] }
  | _ => none }
def groupStaysRow : OpenClaim := { program := "ytklmfkejgjhneaa", sum := "5ee14705c7d94465db1dbae1b8fa50a28a09788c7ae897c2c596729d28bae4df", func := "lingua/lingualaw17.GroupStays", spec := "groupStays", unfollowed := true, recurses := true, plainKeys := false, apart := false }
def GroupStaysSaid : Prop := groupStaysRow.holds Try.pinned (OpenSpec.ofChange groupStaysSpec)

/-- ITS FALSE NEIGHBOUR: 'it returns false'. Refute it at one input. -/
def groupStaysWrong : ChangeSpec := { name := "groupStays", fn := fun _ => fun
  | [d1, d2, d3] => { results := [.lit (.bool false)], args := [d1, d2, d3] }
  | _ => none }
def GroupStaysWrongFalsely : Prop := groupStaysRow.holds Try.pinned (OpenSpec.ofChange groupStaysWrong)

/-- 'lingualaw17.GroupGrows': WHATEVER THE INPUT: true; the input reads as it did. -/
def groupGrowsSpec : ChangeSpec := { name := "groupGrows", fn := fun _ => fun
  | [d1, d2, d3, d4, d5, d6] => { results := [.lit (.bool true)], args := [d1, d2, d3, d4, d5, d6] }
  | _ => none }
def groupGrowsRow : OpenClaim := { program := "ytklmfkejgjhneaa", sum := "5ee14705c7d94465db1dbae1b8fa50a28a09788c7ae897c2c596729d28bae4df", func := "lingua/lingualaw17.GroupGrows", spec := "groupGrows", unfollowed := true, recurses := true, plainKeys := false, apart := false }
def GroupGrowsSaid : Prop := groupGrowsRow.holds Try.pinned (OpenSpec.ofChange groupGrowsSpec)

/-- ITS FALSE NEIGHBOUR: 'it returns false'. Refute it at one input. -/
def groupGrowsWrong : ChangeSpec := { name := "groupGrows", fn := fun _ => fun
  | [d1, d2, d3, d4, d5, d6] => { results := [.lit (.bool false)], args := [d1, d2, d3, d4, d5, d6] }
  | _ => none }
def GroupGrowsWrongFalsely : Prop := groupGrowsRow.holds Try.pinned (OpenSpec.ofChange groupGrowsWrong)

/-- 'lingualaw17.GroupApart': WHATEVER THE INPUT: true; the input reads as it did. -/
def groupApartSpec : ChangeSpec := { name := "groupApart", fn := fun _ => fun
  | [d1, d2, d3, d4] => { results := [.lit (.bool true)], args := [d1, d2, d3, d4] }
  | _ => none }
def groupApartRow : OpenClaim := { program := "ytklmfkejgjhneaa", sum := "5ee14705c7d94465db1dbae1b8fa50a28a09788c7ae897c2c596729d28bae4df", func := "lingua/lingualaw17.GroupApart", spec := "groupApart", unfollowed := true, recurses := true, plainKeys := false, apart := false }
def GroupApartSaid : Prop := groupApartRow.holds Try.pinned (OpenSpec.ofChange groupApartSpec)

/-- ITS FALSE NEIGHBOUR: 'it returns false'. Refute it at one input. -/
def groupApartWrong : ChangeSpec := { name := "groupApart", fn := fun _ => fun
  | [d1, d2, d3, d4] => { results := [.lit (.bool false)], args := [d1, d2, d3, d4] }
  | _ => none }
def GroupApartWrongFalsely : Prop := groupApartRow.holds Try.pinned (OpenSpec.ofChange groupApartWrong)

/-- 'lingualaw40.ScanTells': WHATEVER THE INPUT: true; the input reads as it did. -/
def scanTellsSpec : ChangeSpec := { name := "scanTells", fn := fun _ => fun
  | [d1, d2, d3, d4, d5] => { results := [.lit (.bool true)], args := [d1, d2, d3, d4, d5] }
  | _ => none }
def scanTellsRow : OpenClaim := { program := "ytklmfkejgjhneaa", sum := "5ee14705c7d94465db1dbae1b8fa50a28a09788c7ae897c2c596729d28bae4df", func := "lingua/lingualaw40.ScanTells", spec := "scanTells", unfollowed := true, recurses := true, plainKeys := false, apart := false }
def ScanTellsSaid : Prop := scanTellsRow.holds Try.pinned (OpenSpec.ofChange scanTellsSpec)

/-- ITS FALSE NEIGHBOUR: 'it returns false'. Refute it at one input. -/
def scanTellsWrong : ChangeSpec := { name := "scanTells", fn := fun _ => fun
  | [d1, d2, d3, d4, d5] => { results := [.lit (.bool false)], args := [d1, d2, d3, d4, d5] }
  | _ => none }
def ScanTellsWrongFalsely : Prop := scanTellsRow.holds Try.pinned (OpenSpec.ofChange scanTellsWrong)

/-- 'lingualaw40.ScanKeeps': WHATEVER THE INPUT: true; the input reads as it did. -/
def scanKeepsSpec : ChangeSpec := { name := "scanKeeps", fn := fun _ => fun
  | [d1, d2, d3] => { results := [.lit (.bool true)], args := [d1, d2, d3] }
  | _ => none }
def scanKeepsRow : OpenClaim := { program := "ytklmfkejgjhneaa", sum := "5ee14705c7d94465db1dbae1b8fa50a28a09788c7ae897c2c596729d28bae4df", func := "lingua/lingualaw40.ScanKeeps", spec := "scanKeeps", unfollowed := true, recurses := true, plainKeys := false, apart := false }
def ScanKeepsSaid : Prop := scanKeepsRow.holds Try.pinned (OpenSpec.ofChange scanKeepsSpec)

/-- ITS FALSE NEIGHBOUR: 'it returns false'. Refute it at one input. -/
def scanKeepsWrong : ChangeSpec := { name := "scanKeeps", fn := fun _ => fun
  | [d1, d2, d3] => { results := [.lit (.bool false)], args := [d1, d2, d3] }
  | _ => none }
def ScanKeepsWrongFalsely : Prop := scanKeepsRow.holds Try.pinned (OpenSpec.ofChange scanKeepsWrong)

/-- 'lingualaw40.ScanChanges': WHATEVER THE INPUT: true; the input reads as it did. -/
def scanChangesSpec : ChangeSpec := { name := "scanChanges", fn := fun _ => fun
  | [d1, d2, d3, d4, d5] => { results := [.lit (.bool true)], args := [d1, d2, d3, d4, d5] }
  | _ => none }
def scanChangesRow : OpenClaim := { program := "ytklmfkejgjhneaa", sum := "5ee14705c7d94465db1dbae1b8fa50a28a09788c7ae897c2c596729d28bae4df", func := "lingua/lingualaw40.ScanChanges", spec := "scanChanges", unfollowed := true, recurses := true, plainKeys := false, apart := false }
def ScanChangesSaid : Prop := scanChangesRow.holds Try.pinned (OpenSpec.ofChange scanChangesSpec)

/-- ITS FALSE NEIGHBOUR: 'it returns false'. Refute it at one input. -/
def scanChangesWrong : ChangeSpec := { name := "scanChanges", fn := fun _ => fun
  | [d1, d2, d3, d4, d5] => { results := [.lit (.bool false)], args := [d1, d2, d3, d4, d5] }
  | _ => none }
def ScanChangesWrongFalsely : Prop := scanChangesRow.holds Try.pinned (OpenSpec.ofChange scanChangesWrong)

/-- 'lingualaw40.ScanApart': WHATEVER THE INPUT: true; the input reads as it did. -/
def scanApartSpec : ChangeSpec := { name := "scanApart", fn := fun _ => fun
  | [d1, d2, d3] => { results := [.lit (.bool true)], args := [d1, d2, d3] }
  | _ => none }
def scanApartRow : OpenClaim := { program := "ytklmfkejgjhneaa", sum := "5ee14705c7d94465db1dbae1b8fa50a28a09788c7ae897c2c596729d28bae4df", func := "lingua/lingualaw40.ScanApart", spec := "scanApart", unfollowed := true, recurses := true, plainKeys := false, apart := false }
def ScanApartSaid : Prop := scanApartRow.holds Try.pinned (OpenSpec.ofChange scanApartSpec)

/-- ITS FALSE NEIGHBOUR: 'it returns false'. Refute it at one input. -/
def scanApartWrong : ChangeSpec := { name := "scanApart", fn := fun _ => fun
  | [d1, d2, d3] => { results := [.lit (.bool false)], args := [d1, d2, d3] }
  | _ => none }
def ScanApartWrongFalsely : Prop := scanApartRow.holds Try.pinned (OpenSpec.ofChange scanApartWrong)

/-- 'lingualaw42.HoldTells': WHATEVER THE INPUT: true; the input reads as it did. -/
def holdTellsSpec : ChangeSpec := { name := "holdTells", fn := fun _ => fun
  | [d1, d2, d3, d4, d5] => { results := [.lit (.bool true)], args := [d1, d2, d3, d4, d5] }
  | _ => none }
def holdTellsRow : OpenClaim := { program := "ytklmfkejgjhneaa", sum := "5ee14705c7d94465db1dbae1b8fa50a28a09788c7ae897c2c596729d28bae4df", func := "lingua/lingualaw42.HoldTells", spec := "holdTells", unfollowed := true, recurses := true, plainKeys := false, apart := false }
def HoldTellsSaid : Prop := holdTellsRow.holds Try.pinned (OpenSpec.ofChange holdTellsSpec)

/-- ITS FALSE NEIGHBOUR: 'it returns false'. Refute it at one input. -/
def holdTellsWrong : ChangeSpec := { name := "holdTells", fn := fun _ => fun
  | [d1, d2, d3, d4, d5] => { results := [.lit (.bool false)], args := [d1, d2, d3, d4, d5] }
  | _ => none }
def HoldTellsWrongFalsely : Prop := holdTellsRow.holds Try.pinned (OpenSpec.ofChange holdTellsWrong)

/-- 'lingualaw42.HoldKeeps': WHATEVER THE INPUT: true; the input reads as it did. -/
def holdKeepsSpec : ChangeSpec := { name := "holdKeeps", fn := fun _ => fun
  | [d1, d2, d3, d4] => { results := [.lit (.bool true)], args := [d1, d2, d3, d4] }
  | _ => none }
def holdKeepsRow : OpenClaim := { program := "ytklmfkejgjhneaa", sum := "5ee14705c7d94465db1dbae1b8fa50a28a09788c7ae897c2c596729d28bae4df", func := "lingua/lingualaw42.HoldKeeps", spec := "holdKeeps", unfollowed := true, recurses := true, plainKeys := false, apart := false }
def HoldKeepsSaid : Prop := holdKeepsRow.holds Try.pinned (OpenSpec.ofChange holdKeepsSpec)

/-- ITS FALSE NEIGHBOUR: 'it returns false'. Refute it at one input. -/
def holdKeepsWrong : ChangeSpec := { name := "holdKeeps", fn := fun _ => fun
  | [d1, d2, d3, d4] => { results := [.lit (.bool false)], args := [d1, d2, d3, d4] }
  | _ => none }
def HoldKeepsWrongFalsely : Prop := holdKeepsRow.holds Try.pinned (OpenSpec.ofChange holdKeepsWrong)

/-- 'lingualaw42.HoldMore': WHATEVER THE INPUT: true; the input reads as it did. -/
def holdMoreSpec : ChangeSpec := { name := "holdMore", fn := fun _ => fun
  | [d1, d2, d3, d4, d5] => { results := [.lit (.bool true)], args := [d1, d2, d3, d4, d5] }
  | _ => none }
def holdMoreRow : OpenClaim := { program := "ytklmfkejgjhneaa", sum := "5ee14705c7d94465db1dbae1b8fa50a28a09788c7ae897c2c596729d28bae4df", func := "lingua/lingualaw42.HoldMore", spec := "holdMore", unfollowed := true, recurses := true, plainKeys := false, apart := false }
def HoldMoreSaid : Prop := holdMoreRow.holds Try.pinned (OpenSpec.ofChange holdMoreSpec)

/-- ITS FALSE NEIGHBOUR: 'it returns false'. Refute it at one input. -/
def holdMoreWrong : ChangeSpec := { name := "holdMore", fn := fun _ => fun
  | [d1, d2, d3, d4, d5] => { results := [.lit (.bool false)], args := [d1, d2, d3, d4, d5] }
  | _ => none }
def HoldMoreWrongFalsely : Prop := holdMoreRow.holds Try.pinned (OpenSpec.ofChange holdMoreWrong)

/-- 'lingualaw42.HoldLifts': WHATEVER THE INPUT: true; the input reads as it did. -/
def holdLiftsSpec : ChangeSpec := { name := "holdLifts", fn := fun _ => fun
  | [d1, d2, d3, d4] => { results := [.lit (.bool true)], args := [d1, d2, d3, d4] }
  | _ => none }
def holdLiftsRow : OpenClaim := { program := "ytklmfkejgjhneaa", sum := "5ee14705c7d94465db1dbae1b8fa50a28a09788c7ae897c2c596729d28bae4df", func := "lingua/lingualaw42.HoldLifts", spec := "holdLifts", unfollowed := true, recurses := true, plainKeys := false, apart := false }
def HoldLiftsSaid : Prop := holdLiftsRow.holds Try.pinned (OpenSpec.ofChange holdLiftsSpec)

/-- ITS FALSE NEIGHBOUR: 'it returns false'. Refute it at one input. -/
def holdLiftsWrong : ChangeSpec := { name := "holdLifts", fn := fun _ => fun
  | [d1, d2, d3, d4] => { results := [.lit (.bool false)], args := [d1, d2, d3, d4] }
  | _ => none }
def HoldLiftsWrongFalsely : Prop := holdLiftsRow.holds Try.pinned (OpenSpec.ofChange holdLiftsWrong)

/-- 'lingualaw37.RingTells': WHATEVER THE INPUT: true; the input reads as it did. -/
def ringTellsSpec : ChangeSpec := { name := "ringTells", fn := fun _ => fun
  | [d1, d2, d3, d4, d5] => { results := [.lit (.bool true)], args := [d1, d2, d3, d4, d5] }
  | _ => none }
def ringTellsRow : OpenClaim := { program := "ytklmfkejgjhneaa", sum := "5ee14705c7d94465db1dbae1b8fa50a28a09788c7ae897c2c596729d28bae4df", func := "lingua/lingualaw37.RingTells", spec := "ringTells", unfollowed := true, recurses := true, plainKeys := false, apart := false }
def RingTellsSaid : Prop := ringTellsRow.holds Try.pinned (OpenSpec.ofChange ringTellsSpec)

/-- ITS FALSE NEIGHBOUR: 'it returns false'. Refute it at one input. -/
def ringTellsWrong : ChangeSpec := { name := "ringTells", fn := fun _ => fun
  | [d1, d2, d3, d4, d5] => { results := [.lit (.bool false)], args := [d1, d2, d3, d4, d5] }
  | _ => none }
def RingTellsWrongFalsely : Prop := ringTellsRow.holds Try.pinned (OpenSpec.ofChange ringTellsWrong)

/-- 'lingualaw37.RingSettles': WHATEVER THE INPUT: true; the input reads as it did. -/
def ringSettlesSpec : ChangeSpec := { name := "ringSettles", fn := fun _ => fun
  | [d1, d2, d3] => { results := [.lit (.bool true)], args := [d1, d2, d3] }
  | _ => none }
def ringSettlesRow : OpenClaim := { program := "ytklmfkejgjhneaa", sum := "5ee14705c7d94465db1dbae1b8fa50a28a09788c7ae897c2c596729d28bae4df", func := "lingua/lingualaw37.RingSettles", spec := "ringSettles", unfollowed := true, recurses := true, plainKeys := false, apart := false }
def RingSettlesSaid : Prop := ringSettlesRow.holds Try.pinned (OpenSpec.ofChange ringSettlesSpec)

/-- ITS FALSE NEIGHBOUR: 'it returns false'. Refute it at one input. -/
def ringSettlesWrong : ChangeSpec := { name := "ringSettles", fn := fun _ => fun
  | [d1, d2, d3] => { results := [.lit (.bool false)], args := [d1, d2, d3] }
  | _ => none }
def RingSettlesWrongFalsely : Prop := ringSettlesRow.holds Try.pinned (OpenSpec.ofChange ringSettlesWrong)

/-- 'lingualaw37.RingLeast': WHATEVER THE INPUT: true; the input reads as it did. -/
def ringLeastSpec : ChangeSpec := { name := "ringLeast", fn := fun _ => fun
  | [d1, d2, d3, d4] => { results := [.lit (.bool true)], args := [d1, d2, d3, d4] }
  | _ => none }
def ringLeastRow : OpenClaim := { program := "ytklmfkejgjhneaa", sum := "5ee14705c7d94465db1dbae1b8fa50a28a09788c7ae897c2c596729d28bae4df", func := "lingua/lingualaw37.RingLeast", spec := "ringLeast", unfollowed := true, recurses := true, plainKeys := false, apart := false }
def RingLeastSaid : Prop := ringLeastRow.holds Try.pinned (OpenSpec.ofChange ringLeastSpec)

/-- ITS FALSE NEIGHBOUR: 'it returns false'. Refute it at one input. -/
def ringLeastWrong : ChangeSpec := { name := "ringLeast", fn := fun _ => fun
  | [d1, d2, d3, d4] => { results := [.lit (.bool false)], args := [d1, d2, d3, d4] }
  | _ => none }
def RingLeastWrongFalsely : Prop := ringLeastRow.holds Try.pinned (OpenSpec.ofChange ringLeastWrong)

/-- 'lingualaw37.RingForeign': WHATEVER THE INPUT: true; the input reads as it did. -/
def ringForeignSpec : ChangeSpec := { name := "ringForeign", fn := fun _ => fun
  | [d1, d2] => { results := [.lit (.bool true)], args := [d1, d2] }
  | _ => none }
def ringForeignRow : OpenClaim := { program := "ytklmfkejgjhneaa", sum := "5ee14705c7d94465db1dbae1b8fa50a28a09788c7ae897c2c596729d28bae4df", func := "lingua/lingualaw37.RingForeign", spec := "ringForeign", unfollowed := true, recurses := true, plainKeys := false, apart := false }
def RingForeignSaid : Prop := ringForeignRow.holds Try.pinned (OpenSpec.ofChange ringForeignSpec)

/-- ITS FALSE NEIGHBOUR: 'it returns false'. Refute it at one input. -/
def ringForeignWrong : ChangeSpec := { name := "ringForeign", fn := fun _ => fun
  | [d1, d2] => { results := [.lit (.bool false)], args := [d1, d2] }
  | _ => none }
def RingForeignWrongFalsely : Prop := ringForeignRow.holds Try.pinned (OpenSpec.ofChange ringForeignWrong)

/-- 'lingualaw37.RingReach': WHATEVER THE INPUT: true; the input reads as it did. -/
def ringReachSpec : ChangeSpec := { name := "ringReach", fn := fun _ => fun
  | [d1, d2, d3, d4] => { results := [.lit (.bool true)], args := [d1, d2, d3, d4] }
  | _ => none }
def ringReachRow : OpenClaim := { program := "ytklmfkejgjhneaa", sum := "5ee14705c7d94465db1dbae1b8fa50a28a09788c7ae897c2c596729d28bae4df", func := "lingua/lingualaw37.RingReach", spec := "ringReach", unfollowed := true, recurses := true, plainKeys := false, apart := false }
def RingReachSaid : Prop := ringReachRow.holds Try.pinned (OpenSpec.ofChange ringReachSpec)

/-- ITS FALSE NEIGHBOUR: 'it returns false'. Refute it at one input. -/
def ringReachWrong : ChangeSpec := { name := "ringReach", fn := fun _ => fun
  | [d1, d2, d3, d4] => { results := [.lit (.bool false)], args := [d1, d2, d3, d4] }
  | _ => none }
def RingReachWrongFalsely : Prop := ringReachRow.holds Try.pinned (OpenSpec.ofChange ringReachWrong)

/- THE SECOND FORM. 'bulk': how many values and letters a reading holds, each counted each time it is reached (what is shared counts as often as it is met; a slice's spare places count too). A statement '..UptoSaid' is the law's where the arguments, and the package variables that the reading takes, are together of bulk at most 1048576: NARROWER than '..Said'. Prove '..Said' where nothing that the law and all that it calls make is longer than what came in: it says more and counts as full. Else prove '..UptoSaid'. A law counts once. -/
mutual
def uptoBulk {H : Type} : DataW H → Nat
  | .lit (.string bytes) => bytes.length + 1
  | .lit _ => 1
  | .nil => 1
  | .ptr d => uptoBulk d + 1
  | .slice elems spare => uptoBulkAll elems + uptoBulkAll spare + 1
  | .agg parts => uptoBulkAll parts + 1
  | .iface _ d => uptoBulk d + 1
  | .map entries => uptoBulkEntries entries + 1
  | .held _ => 1
def uptoBulkAll {H : Type} : List (DataW H) → Nat
  | [] => 0
  | d :: r => uptoBulk d + uptoBulkAll r
def uptoBulkEntries {H : Type} : List (Lit × DataW H) → Nat
  | [] => 0
  | x :: r => uptoBulkEntry x + uptoBulkEntries r
def uptoBulkEntry {H : Type} : Lit × DataW H → Nat
  | (.string bytes, d) => bytes.length + uptoBulk d + 1
  | (_, d) => uptoBulk d + 1
 end
def uptoSmall : (H : Type) → List (DataW H) → Bool := fun _ ds => decide (uptoBulkAll ds ≤ 1048576)
def OpenSpec.upto (s : _root_.Go.ChangeSpec) : _root_.Go.OpenSpec := { _root_.Go.OpenSpec.ofChange s with cond := some uptoSmall }

/-- 'lingualaw17.GroupTells', WHERE WHAT IT READS IS OF BULK AT MOST 1048576: true; the input reads as it did. -/
def groupTellsUptoRow : OpenClaim := { program := "ytklmfkejgjhneaa", sum := "5ee14705c7d94465db1dbae1b8fa50a28a09788c7ae897c2c596729d28bae4df", func := "lingua/lingualaw17.GroupTells", spec := "groupTells", unfollowed := true, recurses := true, plainKeys := false, apart := false, narrowed := true }
def GroupTellsUptoSaid : Prop := groupTellsUptoRow.holds Try.pinned (OpenSpec.upto groupTellsSpec)

/-- 'lingualaw17.GroupStays', WHERE WHAT IT READS IS OF BULK AT MOST 1048576: true; the input reads as it did. -/
def groupStaysUptoRow : OpenClaim := { program := "ytklmfkejgjhneaa", sum := "5ee14705c7d94465db1dbae1b8fa50a28a09788c7ae897c2c596729d28bae4df", func := "lingua/lingualaw17.GroupStays", spec := "groupStays", unfollowed := true, recurses := true, plainKeys := false, apart := false, narrowed := true }
def GroupStaysUptoSaid : Prop := groupStaysUptoRow.holds Try.pinned (OpenSpec.upto groupStaysSpec)

/-- 'lingualaw17.GroupGrows', WHERE WHAT IT READS IS OF BULK AT MOST 1048576: true; the input reads as it did. -/
def groupGrowsUptoRow : OpenClaim := { program := "ytklmfkejgjhneaa", sum := "5ee14705c7d94465db1dbae1b8fa50a28a09788c7ae897c2c596729d28bae4df", func := "lingua/lingualaw17.GroupGrows", spec := "groupGrows", unfollowed := true, recurses := true, plainKeys := false, apart := false, narrowed := true }
def GroupGrowsUptoSaid : Prop := groupGrowsUptoRow.holds Try.pinned (OpenSpec.upto groupGrowsSpec)

/-- 'lingualaw17.GroupApart', WHERE WHAT IT READS IS OF BULK AT MOST 1048576: true; the input reads as it did. -/
def groupApartUptoRow : OpenClaim := { program := "ytklmfkejgjhneaa", sum := "5ee14705c7d94465db1dbae1b8fa50a28a09788c7ae897c2c596729d28bae4df", func := "lingua/lingualaw17.GroupApart", spec := "groupApart", unfollowed := true, recurses := true, plainKeys := false, apart := false, narrowed := true }
def GroupApartUptoSaid : Prop := groupApartUptoRow.holds Try.pinned (OpenSpec.upto groupApartSpec)

/-- 'lingualaw40.ScanTells', WHERE WHAT IT READS IS OF BULK AT MOST 1048576: true; the input reads as it did. -/
def scanTellsUptoRow : OpenClaim := { program := "ytklmfkejgjhneaa", sum := "5ee14705c7d94465db1dbae1b8fa50a28a09788c7ae897c2c596729d28bae4df", func := "lingua/lingualaw40.ScanTells", spec := "scanTells", unfollowed := true, recurses := true, plainKeys := false, apart := false, narrowed := true }
def ScanTellsUptoSaid : Prop := scanTellsUptoRow.holds Try.pinned (OpenSpec.upto scanTellsSpec)

/-- 'lingualaw40.ScanKeeps', WHERE WHAT IT READS IS OF BULK AT MOST 1048576: true; the input reads as it did. -/
def scanKeepsUptoRow : OpenClaim := { program := "ytklmfkejgjhneaa", sum := "5ee14705c7d94465db1dbae1b8fa50a28a09788c7ae897c2c596729d28bae4df", func := "lingua/lingualaw40.ScanKeeps", spec := "scanKeeps", unfollowed := true, recurses := true, plainKeys := false, apart := false, narrowed := true }
def ScanKeepsUptoSaid : Prop := scanKeepsUptoRow.holds Try.pinned (OpenSpec.upto scanKeepsSpec)

/-- 'lingualaw40.ScanChanges', WHERE WHAT IT READS IS OF BULK AT MOST 1048576: true; the input reads as it did. -/
def scanChangesUptoRow : OpenClaim := { program := "ytklmfkejgjhneaa", sum := "5ee14705c7d94465db1dbae1b8fa50a28a09788c7ae897c2c596729d28bae4df", func := "lingua/lingualaw40.ScanChanges", spec := "scanChanges", unfollowed := true, recurses := true, plainKeys := false, apart := false, narrowed := true }
def ScanChangesUptoSaid : Prop := scanChangesUptoRow.holds Try.pinned (OpenSpec.upto scanChangesSpec)

/-- 'lingualaw40.ScanApart', WHERE WHAT IT READS IS OF BULK AT MOST 1048576: true; the input reads as it did. -/
def scanApartUptoRow : OpenClaim := { program := "ytklmfkejgjhneaa", sum := "5ee14705c7d94465db1dbae1b8fa50a28a09788c7ae897c2c596729d28bae4df", func := "lingua/lingualaw40.ScanApart", spec := "scanApart", unfollowed := true, recurses := true, plainKeys := false, apart := false, narrowed := true }
def ScanApartUptoSaid : Prop := scanApartUptoRow.holds Try.pinned (OpenSpec.upto scanApartSpec)

/-- 'lingualaw42.HoldTells', WHERE WHAT IT READS IS OF BULK AT MOST 1048576: true; the input reads as it did. -/
def holdTellsUptoRow : OpenClaim := { program := "ytklmfkejgjhneaa", sum := "5ee14705c7d94465db1dbae1b8fa50a28a09788c7ae897c2c596729d28bae4df", func := "lingua/lingualaw42.HoldTells", spec := "holdTells", unfollowed := true, recurses := true, plainKeys := false, apart := false, narrowed := true }
def HoldTellsUptoSaid : Prop := holdTellsUptoRow.holds Try.pinned (OpenSpec.upto holdTellsSpec)

/-- 'lingualaw42.HoldKeeps', WHERE WHAT IT READS IS OF BULK AT MOST 1048576: true; the input reads as it did. -/
def holdKeepsUptoRow : OpenClaim := { program := "ytklmfkejgjhneaa", sum := "5ee14705c7d94465db1dbae1b8fa50a28a09788c7ae897c2c596729d28bae4df", func := "lingua/lingualaw42.HoldKeeps", spec := "holdKeeps", unfollowed := true, recurses := true, plainKeys := false, apart := false, narrowed := true }
def HoldKeepsUptoSaid : Prop := holdKeepsUptoRow.holds Try.pinned (OpenSpec.upto holdKeepsSpec)

/-- 'lingualaw42.HoldMore', WHERE WHAT IT READS IS OF BULK AT MOST 1048576: true; the input reads as it did. -/
def holdMoreUptoRow : OpenClaim := { program := "ytklmfkejgjhneaa", sum := "5ee14705c7d94465db1dbae1b8fa50a28a09788c7ae897c2c596729d28bae4df", func := "lingua/lingualaw42.HoldMore", spec := "holdMore", unfollowed := true, recurses := true, plainKeys := false, apart := false, narrowed := true }
def HoldMoreUptoSaid : Prop := holdMoreUptoRow.holds Try.pinned (OpenSpec.upto holdMoreSpec)

/-- 'lingualaw42.HoldLifts', WHERE WHAT IT READS IS OF BULK AT MOST 1048576: true; the input reads as it did. -/
def holdLiftsUptoRow : OpenClaim := { program := "ytklmfkejgjhneaa", sum := "5ee14705c7d94465db1dbae1b8fa50a28a09788c7ae897c2c596729d28bae4df", func := "lingua/lingualaw42.HoldLifts", spec := "holdLifts", unfollowed := true, recurses := true, plainKeys := false, apart := false, narrowed := true }
def HoldLiftsUptoSaid : Prop := holdLiftsUptoRow.holds Try.pinned (OpenSpec.upto holdLiftsSpec)

/-- 'lingualaw37.RingTells', WHERE WHAT IT READS IS OF BULK AT MOST 1048576: true; the input reads as it did. -/
def ringTellsUptoRow : OpenClaim := { program := "ytklmfkejgjhneaa", sum := "5ee14705c7d94465db1dbae1b8fa50a28a09788c7ae897c2c596729d28bae4df", func := "lingua/lingualaw37.RingTells", spec := "ringTells", unfollowed := true, recurses := true, plainKeys := false, apart := false, narrowed := true }
def RingTellsUptoSaid : Prop := ringTellsUptoRow.holds Try.pinned (OpenSpec.upto ringTellsSpec)

/-- 'lingualaw37.RingSettles', WHERE WHAT IT READS IS OF BULK AT MOST 1048576: true; the input reads as it did. -/
def ringSettlesUptoRow : OpenClaim := { program := "ytklmfkejgjhneaa", sum := "5ee14705c7d94465db1dbae1b8fa50a28a09788c7ae897c2c596729d28bae4df", func := "lingua/lingualaw37.RingSettles", spec := "ringSettles", unfollowed := true, recurses := true, plainKeys := false, apart := false, narrowed := true }
def RingSettlesUptoSaid : Prop := ringSettlesUptoRow.holds Try.pinned (OpenSpec.upto ringSettlesSpec)

/-- 'lingualaw37.RingLeast', WHERE WHAT IT READS IS OF BULK AT MOST 1048576: true; the input reads as it did. -/
def ringLeastUptoRow : OpenClaim := { program := "ytklmfkejgjhneaa", sum := "5ee14705c7d94465db1dbae1b8fa50a28a09788c7ae897c2c596729d28bae4df", func := "lingua/lingualaw37.RingLeast", spec := "ringLeast", unfollowed := true, recurses := true, plainKeys := false, apart := false, narrowed := true }
def RingLeastUptoSaid : Prop := ringLeastUptoRow.holds Try.pinned (OpenSpec.upto ringLeastSpec)

/-- 'lingualaw37.RingForeign', WHERE WHAT IT READS IS OF BULK AT MOST 1048576: true; the input reads as it did. -/
def ringForeignUptoRow : OpenClaim := { program := "ytklmfkejgjhneaa", sum := "5ee14705c7d94465db1dbae1b8fa50a28a09788c7ae897c2c596729d28bae4df", func := "lingua/lingualaw37.RingForeign", spec := "ringForeign", unfollowed := true, recurses := true, plainKeys := false, apart := false, narrowed := true }
def RingForeignUptoSaid : Prop := ringForeignUptoRow.holds Try.pinned (OpenSpec.upto ringForeignSpec)

/-- 'lingualaw37.RingReach', WHERE WHAT IT READS IS OF BULK AT MOST 1048576: true; the input reads as it did. -/
def ringReachUptoRow : OpenClaim := { program := "ytklmfkejgjhneaa", sum := "5ee14705c7d94465db1dbae1b8fa50a28a09788c7ae897c2c596729d28bae4df", func := "lingua/lingualaw37.RingReach", spec := "ringReach", unfollowed := true, recurses := true, plainKeys := false, apart := false, narrowed := true }
def RingReachUptoSaid : Prop := ringReachUptoRow.holds Try.pinned (OpenSpec.upto ringReachSpec)

end Rows
end Go.Proofs.Ytklmfkejgjhneaa
