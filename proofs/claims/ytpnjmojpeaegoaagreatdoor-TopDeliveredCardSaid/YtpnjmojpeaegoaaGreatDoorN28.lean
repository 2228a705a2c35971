/-
  TopDelivered returns true whatever the input, and the input reads behind the call as it read before, where the three listed tables of Go's library hold what the program's text lays: a part of the proof.
-/
import Derived.Test.YtpnjmojpeaegoaaGreatDoorChecked
import Derived.JoinedOf
import Derived.KernelRfl
import Derived.Test.YtpnjmojpeaegoaaGreatDoorN27
set_option linter.unusedSimpArgs false
set_option linter.unusedVariables false
namespace Go.Proofs.YtpnjmojpeaegoaaGreatDoor
open Go
theorem jf1:laidOutB Tryz.checked.prog=true:=V
theorem jf2:mapsRowed Tryz.checked.prog=true:=V
theorem jf3:(Tryz.checked.prog.stops==[])=true:=V
theorem jf4:(Tryz.checked.prog.stopKnobs==[])=true:=V
theorem jf5:Tryz.checked.prog.stopsHeard=true:=V
theorem jf6:Tryz.checked.prog.mayEnter=true:=V
theorem CM {P:Program} {f:FuncId} {fn:Func} {s:ChangeSpec} {c:OpenClaim}
  (W:laidOutB P=true) (Y:mapsRowed P=true) (h3:(P.stops==[])=true) (h4:(P.stopKnobs==[])=true) (h5:P.stopsHeard=true) (h6:P.mayEnter=true)
  (a:(c.wf (OpenSpec.ofChange s)&&fn.params.all (P.readableRec ·)&&namedTie P c.named s.vars&&(c.stops==[])&&(c.knobs==[])&&s.vars.all (P.varReadable ·)&&fn.resultTypes.all (λt=>P.readableRec t&&decide (t<P.types.size))&&c.shortTexts.isNone&&(c.kinds==(if c.domain.isEmpty then [] else fn.params.toList.map λt=>match P.underlying t with|some (.int k)=>some k|_=>none))&&(c.pinned==c.pinnedBy))=true)
  (l:(c.inPlace==P.inPlace f)=true) (n:(c.unfollowed==P.unfollowed f)=true) (q:(c.recurses==P.recurses f)=true) (w:(c.named==P.varsNamed f)=true)
  (e:((c.maps==(fn.params.toList++s.plain.varTypes P).any (P.mapsRec ·))&&(c.ifaces==(fn.params.toList++s.plain.varTypes P).any (P.ifacesRec ·))&&(c.mapsOut==P.mapsAmong fn.resultTypes.toList)&&
   (c.loops==(fn.params.toList++s.plain.varTypes P).any (P.loopsFrom ·))&&(c.wideKeys==(fn.params.toList++s.plain.varTypes P++fn.resultTypes.toList).any (P.wideKeysFrom ·))&&(c.ifacesOut==fn.resultTypes.toList.any (P.ifacesRec ·))&&(c.loopsOut==fn.resultTypes.toList.any (P.loopsFrom ·)))=true)
  (x:(c.plainKeys==P.plainKeys)=true) (z:(c.lifted==P.liftsFinal)=true) (A:(P.make==some c.make)=true)
  (g:(c.veiled==(fn.params.toList++s.plain.varTypes P++fn.resultTypes.toList).any (P.veiledRec ·))=true) (h:c.veiledFits P fn.params.toList (fn.params.toList++s.plain.varTypes P++fn.resultTypes.toList)=true):joinedFacts P f fn s c=true:=by
 simp only[aW] at a e;unfold joinedFacts;simp only[aW];obtain⟨⟨⟨⟨⟨⟨⟨⟨⟨C,b2⟩,D⟩,E⟩,F⟩,G⟩,H⟩,K⟩,L⟩,j⟩:=a;obtain⟨⟨⟨⟨⟨⟨M,N⟩,O⟩,Q⟩,R⟩,S⟩,U⟩:=e;exact⟨⟨⟨⟨⟨⟨⟨⟨⟨⟨⟨⟨⟨⟨⟨⟨⟨⟨⟨⟨⟨⟨⟨⟨⟨⟨⟨⟨⟨⟨⟨C,W⟩,Y⟩,b2⟩,D⟩,E⟩,h3⟩,F⟩,h4⟩,l⟩,n⟩,q⟩,w⟩,M⟩,N⟩,O⟩,Q⟩,R⟩,G⟩,H⟩,S⟩,U⟩,x⟩,K⟩,h5⟩,h6⟩,z⟩,A⟩,L⟩,j⟩,g⟩,h⟩
end Go.Proofs.YtpnjmojpeaegoaaGreatDoor
