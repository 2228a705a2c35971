/-
  DERIVED. GIVEN WITH THE SEED: THE CARDS: each row of YtpnjmojpeaegoaaGreatDoorRows.lean that lists a variable, with what it lists TIED to the program's text (the seventh form; the later family's looks); each row that meets fmt, with fmt's text TOLD by the authors' own Lean function (tested against real Go, not proved from fmt's source: count such statements apart). THE CARD IS WHAT COUNTS. Prove the row's statement (the work); the ties are given (YtpnjmojpeaegoaaGreatDoorTie.lean); close each card by the builder's one call (the guide's Derived/Test/ToyasCard.lean, 'card_holds'). Laid BY PROGRAM, IN A SANDBOX (cutbox-door.mjs). By AI agents, Wed Nov 11 2026. No macro, syntax, notation, axiom, sorry.
-/
import Derived.Test.YtpnjmojpeaegoaaGreatDoorRows
import GoSem.ClaimSeven
namespace Go.Proofs.YtpnjmojpeaegoaaGreatDoor
namespace Rows

/-- THE TIED CARD OF 'linguatop.TopDelivered'. -/
def topDeliveredCard : Claim7 := { stood := { row := topDeliveredRow, standIns := [], harness := (true, "9d1c6bba320e4f0cd31b43e78e1b184c38f4989b7f0594e5c3f6f38613b0cde5"), looks := false }, kinds := [], alts := [], laidByText := true, laidKinds := [.data, .data, .data], laidTests := true, laidLooks := .later }
def TopDeliveredCardSaid : Prop := Claim7.holds Tryz.pinned (.plain (OpenSpec.ofChange topDeliveredSpec)) topDeliveredCard

/-- THE SECOND FORM's CARD OF 'linguatop.TopDelivered'. -/
def topDeliveredUptoCard : Claim7 := { stood := { row := topDeliveredUptoRow, standIns := [], harness := (true, "9d1c6bba320e4f0cd31b43e78e1b184c38f4989b7f0594e5c3f6f38613b0cde5"), looks := false }, kinds := [], alts := [], laidByText := true, laidKinds := [.data, .data, .data], laidTests := true, laidLooks := .later }
def TopDeliveredUptoCardSaid : Prop := Claim7.holds Tryz.pinned (.plain (OpenSpec.upto topDeliveredSpec)) topDeliveredUptoCard
end Rows
end Go.Proofs.YtpnjmojpeaegoaaGreatDoor
