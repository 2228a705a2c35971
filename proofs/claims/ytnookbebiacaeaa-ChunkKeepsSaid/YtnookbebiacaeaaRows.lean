/-
  NARROWER THAN 'FOR EVERY INPUT', by the rows' own cells (each row's printed sentence says how): KnowWorlds: loops · KnowMore: loops · KnowBest: loops.
  DERIVED. THE GIVEN ROWS OF THIS SEAT. 19 by the template 'for every input the law returns true; each argument reads behind the call as it read before'; 0 by the template 'total and deterministic' (their statements: YtnookbebiacaeaaTotals.lean).
  GIVEN WITH THE SEED: the statements are not yours to turn. If you find one false, say at which input.
  Laid BY PROGRAM, IN A SANDBOX (cutbox-rows.mjs): the forced cells as the released guide's own fill.sh prints them over the translation b605b95881cc3720… (all of the seat's roots in one cut). By AI agents, Wed Nov 11 2026. No macro, syntax, notation, axiom, sorry.
-/
import Derived.Test.YtnookbebiacaeaaChecked
import GoSem.Claim
import GoSem.ClaimJoined
import GoSem.ClaimMapViews
import Derived.JoinedTies
import Derived.KernelRfl
namespace Go.Proofs.Ytnookbebiacaeaa
/- THE CELL 'sum', in the pinned program and in every row, IS THE sha256 OF THE DUMP (.gsa) THAT YtnookbebiacaeaaProg.lean LOADS. Nothing in Lean hashes anything: it is a label: what it is worth is what the hold of that sum in a sandbox is worth. -/
noncomputable def Try.pinned : Pinned := { name := "ytnookbebiacaeaa", sum := "b605b95881cc3720d99eba4ac6ca95a100a2c4c35e6888ffd16da7551e9b230e", checked := Try.checked }
namespace Rows
def none {H : Type} : Left H := { results := [], args := [] }

/-- 'lingualaw35.ReceiptTells': WHATEVER THE INPUT: true; the input reads as it did. -/
def receiptTellsSpec : ChangeSpec := { name := "receiptTells", fn := fun _ => fun
  | [d1, d2, d3, d4, d5, d6, d7, d8] => { results := [.lit (.bool true)], args := [d1, d2, d3, d4, d5, d6, d7, d8] }
  | _ => none }
def receiptTellsRow : OpenClaim := { program := "ytnookbebiacaeaa", sum := "b605b95881cc3720d99eba4ac6ca95a100a2c4c35e6888ffd16da7551e9b230e", func := "lingua/lingualaw35.ReceiptTells", spec := "receiptTells", unfollowed := true, recurses := true, plainKeys := false, apart := false }
def ReceiptTellsSaid : Prop := receiptTellsRow.holds Try.pinned (OpenSpec.ofChange receiptTellsSpec)

/-- ITS FALSE NEIGHBOUR: 'it returns false'. Refute it at one input. -/
def receiptTellsWrong : ChangeSpec := { name := "receiptTells", fn := fun _ => fun
  | [d1, d2, d3, d4, d5, d6, d7, d8] => { results := [.lit (.bool false)], args := [d1, d2, d3, d4, d5, d6, d7, d8] }
  | _ => none }
def ReceiptTellsWrongFalsely : Prop := receiptTellsRow.holds Try.pinned (OpenSpec.ofChange receiptTellsWrong)

/-- 'lingualaw35.ReceiptWeaker': WHATEVER THE INPUT: true; the input reads as it did. -/
def receiptWeakerSpec : ChangeSpec := { name := "receiptWeaker", fn := fun _ => fun
  | [d1, d2, d3] => { results := [.lit (.bool true)], args := [d1, d2, d3] }
  | _ => none }
def receiptWeakerRow : OpenClaim := { program := "ytnookbebiacaeaa", sum := "b605b95881cc3720d99eba4ac6ca95a100a2c4c35e6888ffd16da7551e9b230e", func := "lingua/lingualaw35.ReceiptWeaker", spec := "receiptWeaker", unfollowed := true, recurses := true, plainKeys := false, apart := false }
def ReceiptWeakerSaid : Prop := receiptWeakerRow.holds Try.pinned (OpenSpec.ofChange receiptWeakerSpec)

/-- ITS FALSE NEIGHBOUR: 'it returns false'. Refute it at one input. -/
def receiptWeakerWrong : ChangeSpec := { name := "receiptWeaker", fn := fun _ => fun
  | [d1, d2, d3] => { results := [.lit (.bool false)], args := [d1, d2, d3] }
  | _ => none }
def ReceiptWeakerWrongFalsely : Prop := receiptWeakerRow.holds Try.pinned (OpenSpec.ofChange receiptWeakerWrong)

/-- 'lingualaw35.ReceiptReason': WHATEVER THE INPUT: true; the input reads as it did. -/
def receiptReasonSpec : ChangeSpec := { name := "receiptReason", fn := fun _ => fun
  | [d1, d2, d3, d4] => { results := [.lit (.bool true)], args := [d1, d2, d3, d4] }
  | _ => none }
def receiptReasonRow : OpenClaim := { program := "ytnookbebiacaeaa", sum := "b605b95881cc3720d99eba4ac6ca95a100a2c4c35e6888ffd16da7551e9b230e", func := "lingua/lingualaw35.ReceiptReason", spec := "receiptReason", unfollowed := true, recurses := true, plainKeys := false, apart := false }
def ReceiptReasonSaid : Prop := receiptReasonRow.holds Try.pinned (OpenSpec.ofChange receiptReasonSpec)

/-- ITS FALSE NEIGHBOUR: 'it returns false'. Refute it at one input. -/
def receiptReasonWrong : ChangeSpec := { name := "receiptReason", fn := fun _ => fun
  | [d1, d2, d3, d4] => { results := [.lit (.bool false)], args := [d1, d2, d3, d4] }
  | _ => none }
def ReceiptReasonWrongFalsely : Prop := receiptReasonRow.holds Try.pinned (OpenSpec.ofChange receiptReasonWrong)

/-- 'lingualaw35.ReceiptForward': WHATEVER THE INPUT: true; the input reads as it did. -/
def receiptForwardSpec : ChangeSpec := { name := "receiptForward", fn := fun _ => fun
  | [d1, d2, d3] => { results := [.lit (.bool true)], args := [d1, d2, d3] }
  | _ => none }
def receiptForwardRow : OpenClaim := { program := "ytnookbebiacaeaa", sum := "b605b95881cc3720d99eba4ac6ca95a100a2c4c35e6888ffd16da7551e9b230e", func := "lingua/lingualaw35.ReceiptForward", spec := "receiptForward", unfollowed := true, recurses := true, plainKeys := false, apart := false }
def ReceiptForwardSaid : Prop := receiptForwardRow.holds Try.pinned (OpenSpec.ofChange receiptForwardSpec)

/-- ITS FALSE NEIGHBOUR: 'it returns false'. Refute it at one input. -/
def receiptForwardWrong : ChangeSpec := { name := "receiptForward", fn := fun _ => fun
  | [d1, d2, d3] => { results := [.lit (.bool false)], args := [d1, d2, d3] }
  | _ => none }
def ReceiptForwardWrongFalsely : Prop := receiptForwardRow.holds Try.pinned (OpenSpec.ofChange receiptForwardWrong)

/-- 'lingualaw35.ReceiptAdds': WHATEVER THE INPUT: true; the input reads as it did. -/
def receiptAddsSpec : ChangeSpec := { name := "receiptAdds", fn := fun _ => fun
  | [d1, d2, d3, d4] => { results := [.lit (.bool true)], args := [d1, d2, d3, d4] }
  | _ => none }
def receiptAddsRow : OpenClaim := { program := "ytnookbebiacaeaa", sum := "b605b95881cc3720d99eba4ac6ca95a100a2c4c35e6888ffd16da7551e9b230e", func := "lingua/lingualaw35.ReceiptAdds", spec := "receiptAdds", unfollowed := true, recurses := true, plainKeys := false, apart := false }
def ReceiptAddsSaid : Prop := receiptAddsRow.holds Try.pinned (OpenSpec.ofChange receiptAddsSpec)

/-- ITS FALSE NEIGHBOUR: 'it returns false'. Refute it at one input. -/
def receiptAddsWrong : ChangeSpec := { name := "receiptAdds", fn := fun _ => fun
  | [d1, d2, d3, d4] => { results := [.lit (.bool false)], args := [d1, d2, d3, d4] }
  | _ => none }
def ReceiptAddsWrongFalsely : Prop := receiptAddsRow.holds Try.pinned (OpenSpec.ofChange receiptAddsWrong)

/-- 'lingualaw35.ReceiptHolds': WHATEVER THE INPUT: true; the input reads as it did. -/
def receiptHoldsSpec : ChangeSpec := { name := "receiptHolds", fn := fun _ => fun
  | [d1, d2, d3, d4, d5] => { results := [.lit (.bool true)], args := [d1, d2, d3, d4, d5] }
  | _ => none }
def receiptHoldsRow : OpenClaim := { program := "ytnookbebiacaeaa", sum := "b605b95881cc3720d99eba4ac6ca95a100a2c4c35e6888ffd16da7551e9b230e", func := "lingua/lingualaw35.ReceiptHolds", spec := "receiptHolds", unfollowed := true, recurses := true, plainKeys := false, apart := false }
def ReceiptHoldsSaid : Prop := receiptHoldsRow.holds Try.pinned (OpenSpec.ofChange receiptHoldsSpec)

/-- ITS FALSE NEIGHBOUR: 'it returns false'. Refute it at one input. -/
def receiptHoldsWrong : ChangeSpec := { name := "receiptHolds", fn := fun _ => fun
  | [d1, d2, d3, d4, d5] => { results := [.lit (.bool false)], args := [d1, d2, d3, d4, d5] }
  | _ => none }
def ReceiptHoldsWrongFalsely : Prop := receiptHoldsRow.holds Try.pinned (OpenSpec.ofChange receiptHoldsWrong)

/-- 'lingualaw34.KnowWorlds': WHATEVER THE INPUT: true; the input reads as it did. -/
def knowWorldsSpec : ChangeSpec := { name := "knowWorlds", fn := fun _ => fun
  | [d1, d2, d3, d4] => { results := [.lit (.bool true)], args := [d1, d2, d3, d4] }
  | _ => none }
def knowWorldsRow : OpenClaim := { program := "ytnookbebiacaeaa", sum := "b605b95881cc3720d99eba4ac6ca95a100a2c4c35e6888ffd16da7551e9b230e", func := "lingua/lingualaw34.KnowWorlds", spec := "knowWorlds", unfollowed := true, recurses := true, loops := true, plainKeys := false, apart := false }
def KnowWorldsSaid : Prop := knowWorldsRow.holds Try.pinned (OpenSpec.ofChange knowWorldsSpec)

/-- ITS FALSE NEIGHBOUR: 'it returns false'. Refute it at one input. -/
def knowWorldsWrong : ChangeSpec := { name := "knowWorlds", fn := fun _ => fun
  | [d1, d2, d3, d4] => { results := [.lit (.bool false)], args := [d1, d2, d3, d4] }
  | _ => none }
def KnowWorldsWrongFalsely : Prop := knowWorldsRow.holds Try.pinned (OpenSpec.ofChange knowWorldsWrong)

/-- 'lingualaw34.KnowMore': WHATEVER THE INPUT: true; the input reads as it did. -/
def knowMoreSpec : ChangeSpec := { name := "knowMore", fn := fun _ => fun
  | [d1, d2, d3, d4] => { results := [.lit (.bool true)], args := [d1, d2, d3, d4] }
  | _ => none }
def knowMoreRow : OpenClaim := { program := "ytnookbebiacaeaa", sum := "b605b95881cc3720d99eba4ac6ca95a100a2c4c35e6888ffd16da7551e9b230e", func := "lingua/lingualaw34.KnowMore", spec := "knowMore", unfollowed := true, recurses := true, loops := true, plainKeys := false, apart := false }
def KnowMoreSaid : Prop := knowMoreRow.holds Try.pinned (OpenSpec.ofChange knowMoreSpec)

/-- ITS FALSE NEIGHBOUR: 'it returns false'. Refute it at one input. -/
def knowMoreWrong : ChangeSpec := { name := "knowMore", fn := fun _ => fun
  | [d1, d2, d3, d4] => { results := [.lit (.bool false)], args := [d1, d2, d3, d4] }
  | _ => none }
def KnowMoreWrongFalsely : Prop := knowMoreRow.holds Try.pinned (OpenSpec.ofChange knowMoreWrong)

/-- 'lingualaw34.KnowBest': WHATEVER THE INPUT: true; the input reads as it did. -/
def knowBestSpec : ChangeSpec := { name := "knowBest", fn := fun _ => fun
  | [d1, d2, d3] => { results := [.lit (.bool true)], args := [d1, d2, d3] }
  | _ => none }
def knowBestRow : OpenClaim := { program := "ytnookbebiacaeaa", sum := "b605b95881cc3720d99eba4ac6ca95a100a2c4c35e6888ffd16da7551e9b230e", func := "lingua/lingualaw34.KnowBest", spec := "knowBest", unfollowed := true, recurses := true, loops := true, plainKeys := false, apart := false }
def KnowBestSaid : Prop := knowBestRow.holds Try.pinned (OpenSpec.ofChange knowBestSpec)

/-- ITS FALSE NEIGHBOUR: 'it returns false'. Refute it at one input. -/
def knowBestWrong : ChangeSpec := { name := "knowBest", fn := fun _ => fun
  | [d1, d2, d3] => { results := [.lit (.bool false)], args := [d1, d2, d3] }
  | _ => none }
def KnowBestWrongFalsely : Prop := knowBestRow.holds Try.pinned (OpenSpec.ofChange knowBestWrong)

/-- 'lingualaw38.ChunkTells': WHATEVER THE INPUT: true; the input reads as it did. -/
def chunkTellsSpec : ChangeSpec := { name := "chunkTells", fn := fun _ => fun
  | [d1, d2] => { results := [.lit (.bool true)], args := [d1, d2] }
  | _ => none }
def chunkTellsRow : OpenClaim := { program := "ytnookbebiacaeaa", sum := "b605b95881cc3720d99eba4ac6ca95a100a2c4c35e6888ffd16da7551e9b230e", func := "lingua/lingualaw38.ChunkTells", spec := "chunkTells", inPlace := ["internal/abi.NoEscape"], unfollowed := true, recurses := true, plainKeys := false, apart := false }
def ChunkTellsSaid : Prop := chunkTellsRow.holds Try.pinned (OpenSpec.ofChange chunkTellsSpec)

/-- ITS FALSE NEIGHBOUR: 'it returns false'. Refute it at one input. -/
def chunkTellsWrong : ChangeSpec := { name := "chunkTells", fn := fun _ => fun
  | [d1, d2] => { results := [.lit (.bool false)], args := [d1, d2] }
  | _ => none }
def ChunkTellsWrongFalsely : Prop := chunkTellsRow.holds Try.pinned (OpenSpec.ofChange chunkTellsWrong)

/-- 'lingualaw38.ChunkSecret': WHATEVER THE INPUT: true; the input reads as it did. -/
def chunkSecretSpec : ChangeSpec := { name := "chunkSecret", fn := fun _ => fun
  | [d1, d2] => { results := [.lit (.bool true)], args := [d1, d2] }
  | _ => none }
def chunkSecretRow : OpenClaim := { program := "ytnookbebiacaeaa", sum := "b605b95881cc3720d99eba4ac6ca95a100a2c4c35e6888ffd16da7551e9b230e", func := "lingua/lingualaw38.ChunkSecret", spec := "chunkSecret", inPlace := ["internal/abi.NoEscape"], unfollowed := true, recurses := true, plainKeys := false, apart := false }
def ChunkSecretSaid : Prop := chunkSecretRow.holds Try.pinned (OpenSpec.ofChange chunkSecretSpec)

/-- ITS FALSE NEIGHBOUR: 'it returns false'. Refute it at one input. -/
def chunkSecretWrong : ChangeSpec := { name := "chunkSecret", fn := fun _ => fun
  | [d1, d2] => { results := [.lit (.bool false)], args := [d1, d2] }
  | _ => none }
def ChunkSecretWrongFalsely : Prop := chunkSecretRow.holds Try.pinned (OpenSpec.ofChange chunkSecretWrong)

/-- 'lingualaw38.ChunkOnce': WHATEVER THE INPUT: true; the input reads as it did. -/
def chunkOnceSpec : ChangeSpec := { name := "chunkOnce", fn := fun _ => fun
  | [d] => { results := [.lit (.bool true)], args := [d] }
  | _ => none }
def chunkOnceRow : OpenClaim := { program := "ytnookbebiacaeaa", sum := "b605b95881cc3720d99eba4ac6ca95a100a2c4c35e6888ffd16da7551e9b230e", func := "lingua/lingualaw38.ChunkOnce", spec := "chunkOnce", inPlace := ["internal/abi.NoEscape"], unfollowed := true, recurses := true, plainKeys := false, apart := false }
def ChunkOnceSaid : Prop := chunkOnceRow.holds Try.pinned (OpenSpec.ofChange chunkOnceSpec)

/-- ITS FALSE NEIGHBOUR: 'it returns false'. Refute it at one input. -/
def chunkOnceWrong : ChangeSpec := { name := "chunkOnce", fn := fun _ => fun
  | [d] => { results := [.lit (.bool false)], args := [d] }
  | _ => none }
def ChunkOnceWrongFalsely : Prop := chunkOnceRow.holds Try.pinned (OpenSpec.ofChange chunkOnceWrong)

/-- 'lingualaw38.ChunkKeeps': WHATEVER THE INPUT: true; the input reads as it did. -/
def chunkKeepsSpec : ChangeSpec := { name := "chunkKeeps", fn := fun _ => fun
  | [d1, d2] => { results := [.lit (.bool true)], args := [d1, d2] }
  | _ => none }
def chunkKeepsRow : OpenClaim := { program := "ytnookbebiacaeaa", sum := "b605b95881cc3720d99eba4ac6ca95a100a2c4c35e6888ffd16da7551e9b230e", func := "lingua/lingualaw38.ChunkKeeps", spec := "chunkKeeps", inPlace := ["internal/abi.NoEscape", "maps.clone"], unfollowed := true, recurses := true, plainKeys := false, apart := false }
def ChunkKeepsSaid : Prop := chunkKeepsRow.holds Try.pinned (OpenSpec.ofChange chunkKeepsSpec)

/-- ITS FALSE NEIGHBOUR: 'it returns false'. Refute it at one input. -/
def chunkKeepsWrong : ChangeSpec := { name := "chunkKeeps", fn := fun _ => fun
  | [d1, d2] => { results := [.lit (.bool false)], args := [d1, d2] }
  | _ => none }
def ChunkKeepsWrongFalsely : Prop := chunkKeepsRow.holds Try.pinned (OpenSpec.ofChange chunkKeepsWrong)

/-- 'lingualaw15.ConvErase': WHATEVER THE INPUT: true; the input reads as it did. -/
def convEraseSpec : ChangeSpec := { name := "convErase", fn := fun _ => fun
  | [d1, d2, d3] => { results := [.lit (.bool true)], args := [d1, d2, d3] }
  | _ => none }
def convEraseRow : OpenClaim := { program := "ytnookbebiacaeaa", sum := "b605b95881cc3720d99eba4ac6ca95a100a2c4c35e6888ffd16da7551e9b230e", func := "lingua/lingualaw15.ConvErase", spec := "convErase", unfollowed := true, recurses := true, plainKeys := false, apart := false }
def ConvEraseSaid : Prop := convEraseRow.holds Try.pinned (OpenSpec.ofChange convEraseSpec)

/-- ITS FALSE NEIGHBOUR: 'it returns false'. Refute it at one input. -/
def convEraseWrong : ChangeSpec := { name := "convErase", fn := fun _ => fun
  | [d1, d2, d3] => { results := [.lit (.bool false)], args := [d1, d2, d3] }
  | _ => none }
def ConvEraseWrongFalsely : Prop := convEraseRow.holds Try.pinned (OpenSpec.ofChange convEraseWrong)

/-- 'lingualaw15.ConvPast': WHATEVER THE INPUT: true; the input reads as it did. -/
def convPastSpec : ChangeSpec := { name := "convPast", fn := fun _ => fun
  | [d] => { results := [.lit (.bool true)], args := [d] }
  | _ => none }
def convPastRow : OpenClaim := { program := "ytnookbebiacaeaa", sum := "b605b95881cc3720d99eba4ac6ca95a100a2c4c35e6888ffd16da7551e9b230e", func := "lingua/lingualaw15.ConvPast", spec := "convPast", unfollowed := true, recurses := true, plainKeys := false, apart := false }
def ConvPastSaid : Prop := convPastRow.holds Try.pinned (OpenSpec.ofChange convPastSpec)

/-- ITS FALSE NEIGHBOUR: 'it returns false'. Refute it at one input. -/
def convPastWrong : ChangeSpec := { name := "convPast", fn := fun _ => fun
  | [d] => { results := [.lit (.bool false)], args := [d] }
  | _ => none }
def ConvPastWrongFalsely : Prop := convPastRow.holds Try.pinned (OpenSpec.ofChange convPastWrong)

/-- 'lingualaw15.ConvAgain': WHATEVER THE INPUT: true; the input reads as it did. -/
def convAgainSpec : ChangeSpec := { name := "convAgain", fn := fun _ => fun
  | [d1, d2, d3] => { results := [.lit (.bool true)], args := [d1, d2, d3] }
  | _ => none }
def convAgainRow : OpenClaim := { program := "ytnookbebiacaeaa", sum := "b605b95881cc3720d99eba4ac6ca95a100a2c4c35e6888ffd16da7551e9b230e", func := "lingua/lingualaw15.ConvAgain", spec := "convAgain", unfollowed := true, recurses := true, plainKeys := false, apart := false }
def ConvAgainSaid : Prop := convAgainRow.holds Try.pinned (OpenSpec.ofChange convAgainSpec)

/-- ITS FALSE NEIGHBOUR: 'it returns false'. Refute it at one input. -/
def convAgainWrong : ChangeSpec := { name := "convAgain", fn := fun _ => fun
  | [d1, d2, d3] => { results := [.lit (.bool false)], args := [d1, d2, d3] }
  | _ => none }
def ConvAgainWrongFalsely : Prop := convAgainRow.holds Try.pinned (OpenSpec.ofChange convAgainWrong)

/-- 'lingualaw15.ConvRefuses': WHATEVER THE INPUT: true; the input reads as it did. -/
def convRefusesSpec : ChangeSpec := { name := "convRefuses", fn := fun _ => fun
  | [d] => { results := [.lit (.bool true)], args := [d] }
  | _ => none }
def convRefusesRow : OpenClaim := { program := "ytnookbebiacaeaa", sum := "b605b95881cc3720d99eba4ac6ca95a100a2c4c35e6888ffd16da7551e9b230e", func := "lingua/lingualaw15.ConvRefuses", spec := "convRefuses", unfollowed := true, recurses := true, plainKeys := false, apart := false }
def ConvRefusesSaid : Prop := convRefusesRow.holds Try.pinned (OpenSpec.ofChange convRefusesSpec)

/-- ITS FALSE NEIGHBOUR: 'it returns false'. Refute it at one input. -/
def convRefusesWrong : ChangeSpec := { name := "convRefuses", fn := fun _ => fun
  | [d] => { results := [.lit (.bool false)], args := [d] }
  | _ => none }
def ConvRefusesWrongFalsely : Prop := convRefusesRow.holds Try.pinned (OpenSpec.ofChange convRefusesWrong)

/-- 'lingualaw15.ConvTells': WHATEVER THE INPUT: true; the input reads as it did. -/
def convTellsSpec : ChangeSpec := { name := "convTells", fn := fun _ => fun
  | [d1, d2, d3, d4, d5] => { results := [.lit (.bool true)], args := [d1, d2, d3, d4, d5] }
  | _ => none }
def convTellsRow : OpenClaim := { program := "ytnookbebiacaeaa", sum := "b605b95881cc3720d99eba4ac6ca95a100a2c4c35e6888ffd16da7551e9b230e", func := "lingua/lingualaw15.ConvTells", spec := "convTells", unfollowed := true, recurses := true, plainKeys := false, apart := false }
def ConvTellsSaid : Prop := convTellsRow.holds Try.pinned (OpenSpec.ofChange convTellsSpec)

/-- ITS FALSE NEIGHBOUR: 'it returns false'. Refute it at one input. -/
def convTellsWrong : ChangeSpec := { name := "convTells", fn := fun _ => fun
  | [d1, d2, d3, d4, d5] => { results := [.lit (.bool false)], args := [d1, d2, d3, d4, d5] }
  | _ => none }
def ConvTellsWrongFalsely : Prop := convTellsRow.holds Try.pinned (OpenSpec.ofChange convTellsWrong)

/-- 'lingualaw15.ConvOpens': WHATEVER THE INPUT: true; the input reads as it did. -/
def convOpensSpec : ChangeSpec := { name := "convOpens", fn := fun _ => fun
  | [d1, d2, d3] => { results := [.lit (.bool true)], args := [d1, d2, d3] }
  | _ => none }
def convOpensRow : OpenClaim := { program := "ytnookbebiacaeaa", sum := "b605b95881cc3720d99eba4ac6ca95a100a2c4c35e6888ffd16da7551e9b230e", func := "lingua/lingualaw15.ConvOpens", spec := "convOpens", unfollowed := true, recurses := true, plainKeys := false, apart := false }
def ConvOpensSaid : Prop := convOpensRow.holds Try.pinned (OpenSpec.ofChange convOpensSpec)

/-- ITS FALSE NEIGHBOUR: 'it returns false'. Refute it at one input. -/
def convOpensWrong : ChangeSpec := { name := "convOpens", fn := fun _ => fun
  | [d1, d2, d3] => { results := [.lit (.bool false)], args := [d1, d2, d3] }
  | _ => none }
def ConvOpensWrongFalsely : Prop := convOpensRow.holds Try.pinned (OpenSpec.ofChange convOpensWrong)

/- THE SECOND FORM. 'bulk': how many values and letters a reading holds, each counted each time it is reached (what is shared counts as often as it is met; a slice's spare places count too). A statement '..UptoSaid' is the law's where the arguments, and the package variables that the reading takes, are together of bulk at most 1048576: NARROWER than '..Said'. Prove '..Said' where nothing that the law and all that it calls make is longer than what came in: it says more and counts as full. Else prove '..UptoSaid'. A law counts once. -/
mutual
def uptoBulk {H : Type} : DataW H → Nat
  | .lit (.string bytes) => bytes.length + 1
  | .lit _ => 1
  | .nil => 1
  | .ptr d => uptoBulk d + 1
  | .slice elems spare => uptoBulkAll elems + uptoBulkAll spare + 1
  | .agg parts => uptoBulkAll parts + 1
  | .iface _ d => uptoBulk d + 1
  | .map entries => uptoBulkEntries entries + 1
  | .held _ => 1
def uptoBulkAll {H : Type} : List (DataW H) → Nat
  | [] => 0
  | d :: r => uptoBulk d + uptoBulkAll r
def uptoBulkEntries {H : Type} : List (Lit × DataW H) → Nat
  | [] => 0
  | x :: r => uptoBulkEntry x + uptoBulkEntries r
def uptoBulkEntry {H : Type} : Lit × DataW H → Nat
  | (.string bytes, d) => bytes.length + uptoBulk d + 1
  | (_, d) => uptoBulk d + 1
 end
def uptoSmall : (H : Type) → List (DataW H) → Bool := fun _ ds => decide (uptoBulkAll ds ≤ 1048576)
def OpenSpec.upto (s : _root_.Go.ChangeSpec) : _root_.Go.OpenSpec := { _root_.Go.OpenSpec.ofChange s with cond := some uptoSmall }

/-- 'lingualaw35.ReceiptTells', WHERE WHAT IT READS IS OF BULK AT MOST 1048576: true; the input reads as it did. -/
def receiptTellsUptoRow : OpenClaim := { program := "ytnookbebiacaeaa", sum := "b605b95881cc3720d99eba4ac6ca95a100a2c4c35e6888ffd16da7551e9b230e", func := "lingua/lingualaw35.ReceiptTells", spec := "receiptTells", unfollowed := true, recurses := true, plainKeys := false, apart := false, narrowed := true }
def ReceiptTellsUptoSaid : Prop := receiptTellsUptoRow.holds Try.pinned (OpenSpec.upto receiptTellsSpec)

/-- 'lingualaw35.ReceiptWeaker', WHERE WHAT IT READS IS OF BULK AT MOST 1048576: true; the input reads as it did. -/
def receiptWeakerUptoRow : OpenClaim := { program := "ytnookbebiacaeaa", sum := "b605b95881cc3720d99eba4ac6ca95a100a2c4c35e6888ffd16da7551e9b230e", func := "lingua/lingualaw35.ReceiptWeaker", spec := "receiptWeaker", unfollowed := true, recurses := true, plainKeys := false, apart := false, narrowed := true }
def ReceiptWeakerUptoSaid : Prop := receiptWeakerUptoRow.holds Try.pinned (OpenSpec.upto receiptWeakerSpec)

/-- 'lingualaw35.ReceiptReason', WHERE WHAT IT READS IS OF BULK AT MOST 1048576: true; the input reads as it did. -/
def receiptReasonUptoRow : OpenClaim := { program := "ytnookbebiacaeaa", sum := "b605b95881cc3720d99eba4ac6ca95a100a2c4c35e6888ffd16da7551e9b230e", func := "lingua/lingualaw35.ReceiptReason", spec := "receiptReason", unfollowed := true, recurses := true, plainKeys := false, apart := false, narrowed := true }
def ReceiptReasonUptoSaid : Prop := receiptReasonUptoRow.holds Try.pinned (OpenSpec.upto receiptReasonSpec)

/-- 'lingualaw35.ReceiptForward', WHERE WHAT IT READS IS OF BULK AT MOST 1048576: true; the input reads as it did. -/
def receiptForwardUptoRow : OpenClaim := { program := "ytnookbebiacaeaa", sum := "b605b95881cc3720d99eba4ac6ca95a100a2c4c35e6888ffd16da7551e9b230e", func := "lingua/lingualaw35.ReceiptForward", spec := "receiptForward", unfollowed := true, recurses := true, plainKeys := false, apart := false, narrowed := true }
def ReceiptForwardUptoSaid : Prop := receiptForwardUptoRow.holds Try.pinned (OpenSpec.upto receiptForwardSpec)

/-- 'lingualaw35.ReceiptAdds', WHERE WHAT IT READS IS OF BULK AT MOST 1048576: true; the input reads as it did. -/
def receiptAddsUptoRow : OpenClaim := { program := "ytnookbebiacaeaa", sum := "b605b95881cc3720d99eba4ac6ca95a100a2c4c35e6888ffd16da7551e9b230e", func := "lingua/lingualaw35.ReceiptAdds", spec := "receiptAdds", unfollowed := true, recurses := true, plainKeys := false, apart := false, narrowed := true }
def ReceiptAddsUptoSaid : Prop := receiptAddsUptoRow.holds Try.pinned (OpenSpec.upto receiptAddsSpec)

/-- 'lingualaw35.ReceiptHolds', WHERE WHAT IT READS IS OF BULK AT MOST 1048576: true; the input reads as it did. -/
def receiptHoldsUptoRow : OpenClaim := { program := "ytnookbebiacaeaa", sum := "b605b95881cc3720d99eba4ac6ca95a100a2c4c35e6888ffd16da7551e9b230e", func := "lingua/lingualaw35.ReceiptHolds", spec := "receiptHolds", unfollowed := true, recurses := true, plainKeys := false, apart := false, narrowed := true }
def ReceiptHoldsUptoSaid : Prop := receiptHoldsUptoRow.holds Try.pinned (OpenSpec.upto receiptHoldsSpec)

/-- 'lingualaw34.KnowWorlds', WHERE WHAT IT READS IS OF BULK AT MOST 1048576: true; the input reads as it did. -/
def knowWorldsUptoRow : OpenClaim := { program := "ytnookbebiacaeaa", sum := "b605b95881cc3720d99eba4ac6ca95a100a2c4c35e6888ffd16da7551e9b230e", func := "lingua/lingualaw34.KnowWorlds", spec := "knowWorlds", unfollowed := true, recurses := true, loops := true, plainKeys := false, apart := false, narrowed := true }
def KnowWorldsUptoSaid : Prop := knowWorldsUptoRow.holds Try.pinned (OpenSpec.upto knowWorldsSpec)

/-- 'lingualaw34.KnowMore', WHERE WHAT IT READS IS OF BULK AT MOST 1048576: true; the input reads as it did. -/
def knowMoreUptoRow : OpenClaim := { program := "ytnookbebiacaeaa", sum := "b605b95881cc3720d99eba4ac6ca95a100a2c4c35e6888ffd16da7551e9b230e", func := "lingua/lingualaw34.KnowMore", spec := "knowMore", unfollowed := true, recurses := true, loops := true, plainKeys := false, apart := false, narrowed := true }
def KnowMoreUptoSaid : Prop := knowMoreUptoRow.holds Try.pinned (OpenSpec.upto knowMoreSpec)

/-- 'lingualaw34.KnowBest', WHERE WHAT IT READS IS OF BULK AT MOST 1048576: true; the input reads as it did. -/
def knowBestUptoRow : OpenClaim := { program := "ytnookbebiacaeaa", sum := "b605b95881cc3720d99eba4ac6ca95a100a2c4c35e6888ffd16da7551e9b230e", func := "lingua/lingualaw34.KnowBest", spec := "knowBest", unfollowed := true, recurses := true, loops := true, plainKeys := false, apart := false, narrowed := true }
def KnowBestUptoSaid : Prop := knowBestUptoRow.holds Try.pinned (OpenSpec.upto knowBestSpec)

/-- 'lingualaw38.ChunkTells', WHERE WHAT IT READS IS OF BULK AT MOST 1048576: true; the input reads as it did. -/
def chunkTellsUptoRow : OpenClaim := { program := "ytnookbebiacaeaa", sum := "b605b95881cc3720d99eba4ac6ca95a100a2c4c35e6888ffd16da7551e9b230e", func := "lingua/lingualaw38.ChunkTells", spec := "chunkTells", inPlace := ["internal/abi.NoEscape"], unfollowed := true, recurses := true, plainKeys := false, apart := false, narrowed := true }
def ChunkTellsUptoSaid : Prop := chunkTellsUptoRow.holds Try.pinned (OpenSpec.upto chunkTellsSpec)

/-- 'lingualaw38.ChunkSecret', WHERE WHAT IT READS IS OF BULK AT MOST 1048576: true; the input reads as it did. -/
def chunkSecretUptoRow : OpenClaim := { program := "ytnookbebiacaeaa", sum := "b605b95881cc3720d99eba4ac6ca95a100a2c4c35e6888ffd16da7551e9b230e", func := "lingua/lingualaw38.ChunkSecret", spec := "chunkSecret", inPlace := ["internal/abi.NoEscape"], unfollowed := true, recurses := true, plainKeys := false, apart := false, narrowed := true }
def ChunkSecretUptoSaid : Prop := chunkSecretUptoRow.holds Try.pinned (OpenSpec.upto chunkSecretSpec)

/-- 'lingualaw38.ChunkOnce', WHERE WHAT IT READS IS OF BULK AT MOST 1048576: true; the input reads as it did. -/
def chunkOnceUptoRow : OpenClaim := { program := "ytnookbebiacaeaa", sum := "b605b95881cc3720d99eba4ac6ca95a100a2c4c35e6888ffd16da7551e9b230e", func := "lingua/lingualaw38.ChunkOnce", spec := "chunkOnce", inPlace := ["internal/abi.NoEscape"], unfollowed := true, recurses := true, plainKeys := false, apart := false, narrowed := true }
def ChunkOnceUptoSaid : Prop := chunkOnceUptoRow.holds Try.pinned (OpenSpec.upto chunkOnceSpec)

/-- 'lingualaw38.ChunkKeeps', WHERE WHAT IT READS IS OF BULK AT MOST 1048576: true; the input reads as it did. -/
def chunkKeepsUptoRow : OpenClaim := { program := "ytnookbebiacaeaa", sum := "b605b95881cc3720d99eba4ac6ca95a100a2c4c35e6888ffd16da7551e9b230e", func := "lingua/lingualaw38.ChunkKeeps", spec := "chunkKeeps", inPlace := ["internal/abi.NoEscape", "maps.clone"], unfollowed := true, recurses := true, plainKeys := false, apart := false, narrowed := true }
def ChunkKeepsUptoSaid : Prop := chunkKeepsUptoRow.holds Try.pinned (OpenSpec.upto chunkKeepsSpec)

/-- 'lingualaw15.ConvErase', WHERE WHAT IT READS IS OF BULK AT MOST 1048576: true; the input reads as it did. -/
def convEraseUptoRow : OpenClaim := { program := "ytnookbebiacaeaa", sum := "b605b95881cc3720d99eba4ac6ca95a100a2c4c35e6888ffd16da7551e9b230e", func := "lingua/lingualaw15.ConvErase", spec := "convErase", unfollowed := true, recurses := true, plainKeys := false, apart := false, narrowed := true }
def ConvEraseUptoSaid : Prop := convEraseUptoRow.holds Try.pinned (OpenSpec.upto convEraseSpec)

/-- 'lingualaw15.ConvPast', WHERE WHAT IT READS IS OF BULK AT MOST 1048576: true; the input reads as it did. -/
def convPastUptoRow : OpenClaim := { program := "ytnookbebiacaeaa", sum := "b605b95881cc3720d99eba4ac6ca95a100a2c4c35e6888ffd16da7551e9b230e", func := "lingua/lingualaw15.ConvPast", spec := "convPast", unfollowed := true, recurses := true, plainKeys := false, apart := false, narrowed := true }
def ConvPastUptoSaid : Prop := convPastUptoRow.holds Try.pinned (OpenSpec.upto convPastSpec)

/-- 'lingualaw15.ConvAgain', WHERE WHAT IT READS IS OF BULK AT MOST 1048576: true; the input reads as it did. -/
def convAgainUptoRow : OpenClaim := { program := "ytnookbebiacaeaa", sum := "b605b95881cc3720d99eba4ac6ca95a100a2c4c35e6888ffd16da7551e9b230e", func := "lingua/lingualaw15.ConvAgain", spec := "convAgain", unfollowed := true, recurses := true, plainKeys := false, apart := false, narrowed := true }
def ConvAgainUptoSaid : Prop := convAgainUptoRow.holds Try.pinned (OpenSpec.upto convAgainSpec)

/-- 'lingualaw15.ConvRefuses', WHERE WHAT IT READS IS OF BULK AT MOST 1048576: true; the input reads as it did. -/
def convRefusesUptoRow : OpenClaim := { program := "ytnookbebiacaeaa", sum := "b605b95881cc3720d99eba4ac6ca95a100a2c4c35e6888ffd16da7551e9b230e", func := "lingua/lingualaw15.ConvRefuses", spec := "convRefuses", unfollowed := true, recurses := true, plainKeys := false, apart := false, narrowed := true }
def ConvRefusesUptoSaid : Prop := convRefusesUptoRow.holds Try.pinned (OpenSpec.upto convRefusesSpec)

/-- 'lingualaw15.ConvTells', WHERE WHAT IT READS IS OF BULK AT MOST 1048576: true; the input reads as it did. -/
def convTellsUptoRow : OpenClaim := { program := "ytnookbebiacaeaa", sum := "b605b95881cc3720d99eba4ac6ca95a100a2c4c35e6888ffd16da7551e9b230e", func := "lingua/lingualaw15.ConvTells", spec := "convTells", unfollowed := true, recurses := true, plainKeys := false, apart := false, narrowed := true }
def ConvTellsUptoSaid : Prop := convTellsUptoRow.holds Try.pinned (OpenSpec.upto convTellsSpec)

/-- 'lingualaw15.ConvOpens', WHERE WHAT IT READS IS OF BULK AT MOST 1048576: true; the input reads as it did. -/
def convOpensUptoRow : OpenClaim := { program := "ytnookbebiacaeaa", sum := "b605b95881cc3720d99eba4ac6ca95a100a2c4c35e6888ffd16da7551e9b230e", func := "lingua/lingualaw15.ConvOpens", spec := "convOpens", unfollowed := true, recurses := true, plainKeys := false, apart := false, narrowed := true }
def ConvOpensUptoSaid : Prop := convOpensUptoRow.holds Try.pinned (OpenSpec.upto convOpensSpec)

end Rows
end Go.Proofs.Ytnookbebiacaeaa
