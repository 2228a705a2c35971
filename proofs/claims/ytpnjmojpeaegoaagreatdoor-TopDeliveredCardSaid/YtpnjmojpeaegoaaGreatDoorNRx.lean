/-
  TopDelivered returns true whatever the input, and the input reads behind the call as it read before, where the three listed tables of Go's library hold what the program's text lays.
-/
import Derived.Test.YtpnjmojpeaegoaaGreatDoorTie
import Derived.Test.YtpnjmojpeaegoaaGreatDoorCards
import Derived.SevenTiedAt
import Derived.Test.YtpnjmojpeaegoaaGreatDoorN29
set_option linter.unusedSimpArgs false
set_option linter.unusedVariables false
namespace Go.Proofs.YtpnjmojpeaegoaaGreatDoor
open Go
theorem aGn:Rows.topDeliveredRow.wfByText (OpenSpec.ofChange Rows.topDeliveredSpec)=true:=V
theorem aGo:Tryz.prog.mainIs=some (true,"9d1c6bba320e4f0cd31b43e78e1b184c38f4989b7f0594e5c3f6f38613b0cde5".toList):=V
theorem aGp:Tryz.prog.funcNamed "lingua/linguatop.TopDelivered" =some 3:=V
theorem aGq:false=Tryz.prog.looks []:=V
theorem aGr:([27,28].all λu=> !Tryz.prog.wantsStandIn u)=true:=V
theorem aGs:false=Rows.topDeliveredRow.goesBy Tryz.prog:=V
theorem topDeliveredCard_holds:Rows.TopDeliveredCardSaid:=
 Claim7.holds_tied_plain_at .later [] [.data,.data,.data] true (true,"9d1c6bba320e4f0cd31b43e78e1b184c38f4989b7f0594e5c3f6f38613b0cde5") false
  W2 (λ_ h=>jC) aGn (λ_ h=>jC) topDelivered_row_tie rfl nT aGo rfl
  (λf fn e c=>by
   obtain rfl:f=3:=cK (aGp.symm.trans e)|>.symm;obtain rfl:fn=Tryz.f3:=(cK (Tryz.func3.symm.trans c)).symm;exact⟨aGq,λj t a=>by
    rw[Tryz.params3] at a;have g:t∈[27,28]:=by simpa using Array.mem_of_getElem? a
    exact(show Tryz.prog.wantsStandIn t=false by simpa using fU.1 aGr t g)⟩)
  aGs
end Go.Proofs.YtpnjmojpeaegoaaGreatDoor
