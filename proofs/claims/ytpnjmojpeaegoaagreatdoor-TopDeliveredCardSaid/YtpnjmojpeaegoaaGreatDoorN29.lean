/-
  TopDelivered returns true whatever the input, and the input reads behind the call as it read before, where the three listed tables of Go's library hold what the program's text lays: a part of the proof.
-/
import Derived.Test.YtpnjmojpeaegoaaGreatDoorRows
import Derived.Test.YtpnjmojpeaegoaaGreatDoorChecked
import Derived.LaidMore
import Derived.Lib.LaidTab
import Derived.Stop.LaidErr
import Derived.OpenShut
import Derived.Test.YtpnjmojpeaegoaaGreatDoorN28
set_option linter.unusedSimpArgs false
set_option linter.unusedVariables false
set_option maxRecDepth 100000
set_option maxHeartbeats 0
namespace Go.Proofs.YtpnjmojpeaegoaaGreatDoor
open Go.Eng Go.ChangeShapes Go.WideShapes Go.ChangeAt Go.RowKit
theorem jw (x:Sh.Vals [Te,.ksl Mt]) (_hwf:Sh.wfs [Te,.ksl Mt] x):cC 3 (Sh.tops [Te,.ksl Mt] x) [] (.b true):=
 j8.of_w (args:=[.ag (aAu x.1).av,.rs 35 (x.2.1.map CL).length (ZF (x.2.1.map CL))]) ⟨aGi _,.of_eq (aGh _),trivial⟩ (aAt (aAu x.1) (x.2.1.map CL))
theorem aEb:Tryz.prog.globalNamed "internal/strconv.uint64pow10" =some 0:=V
theorem aGj:(Tryz.prog.globals[0]?).map (·.type)=some 466:=V
theorem aGk:Tryz.prog.cellsOf 296=1:=V
theorem aGl:Tryz.prog.cellsOf 466=20:=V
def aGm:List Int:=[1,10,100,1000,10000,100000,1000000,10000000,100000000,1000000000,10000000000,100000000000,1000000000000,10000000000000,100000000000000,1000000000000000,10000000000000000,100000000000000000,1000000000000000000,10000000000000000000]
theorem Tf {W:World} (h:laidMetH Tryz.prog Rows.topDeliveredRow.laid W):Tb W:=by
 rw[MakeChecks.laidMetH_plain _ _ _ V] at h;have h:laidMet Tryz.prog [("math/bits.deBruijn32tab",Rows.laid_math_bits_deBruijn32tab),("math/bits.deBruijn64tab",Rows.laid_math_bits_deBruijn64tab),("internal/strconv.uint64pow10",Lib.tabData .u64 aGm)] W:=h;have a:=Lib.tabIs_of_head aEb aGj Tryz.underlying466 Tryz.underlying296 aGk aGl h.tail.tail;unfold Lib.TabIs World.var? at a;rw[aEb] at a;simp only[Option.bind_some] at a;split at a
 ·rename_i c e s g;have f:c=tbC:=by have:=cK a;rw[this];rfl
  exact⟨e,s,by rw[<-f];exact g⟩
 ·cases a
theorem MU (os:Os) (args:Array Value):laidMetH Tryz.prog Rows.topDeliveredRow.laid ((World.doorLaid Tryz.prog 24 os).forCall (λ_ _=>0) ⟨#[],args,[]⟩).memory:=
 laidMetH_of_parts3 (fuel:=8) (laidMet_of_run' 8 V V) V V
theorem P6 (os:Os) (g:os.Started) (H:Type) (enc:TypeId×Value->H):
  ReturnsInHanded {} Tryz.checked os 3 .any (λw args=>(Rows.topDeliveredSpec.pre enc Tryz.prog Tryz.f3 [] false w args/\laidMetH Tryz.prog Rows.topDeliveredRow.laid w)/\sizedMet enc Tryz.prog Tryz.f3 (OpenSpec.ofChange Rows.topDeliveredSpec) false w args)
   (Rows.topDeliveredSpec.post enc Tryz.prog Tryz.f3 false true false false):=by
 refine returnsInHanded_of_change_and (C:=Tryz.checked) (X:=λw _=>laidMetH Tryz.prog Rows.topDeliveredRow.laid w) (λ_ _ _ Q h=>h.of_heap Q) Tryz.own g V Tryz.func3
  (ChangeSpec.witness_shaped (enc:=enc) (C:=Tryz.checked) (os:=os) (X:=λw _=>laidMetH Tryz.prog Rows.topDeliveredRow.laid w) false (World.doorLaid Tryz.prog 24 os) #[.agg #[.slice none 0 0,.slice none 0 0,.slice none 0 0,.int .i64 0,.int .i64 0,.int .i64 0,.slice none 0 0,.int .i64 0],.slice none 0 0] 8 rfl (World.shaped_of_RefB V V) V V V (MU os _)) ?_
 intro W a args L gs S z f _ _ M _;have D: ∀(j:Nat) t v,Tryz.f3.params[j]? =some t->args[j]? =some v->Value.okWide Tryz.prog W .any a t v:=z;have F:=f;obtain⟨p,q,E,N,rfl,U,Y⟩:=f;obtain⟨rfl,rfl⟩:=trodVars_none N;obtain⟨c,rfl⟩: ∃c:List Value,args=c.toArray:=⟨args.toList,jS⟩;obtain⟨x,K,G,A,n⟩:=Im (P:=Tryz.prog) (l:=[Te,.ksl Mt]) (ts:=Tryz.f3.params.toList) (base:=a) (Il V) (λj t v h1 h2=>D j t v j1 j2) E;refine((jw x K).2 W c A n (Tf M)).mono ?_;rintro e W' ⟨v,β,rfl,O,_,R⟩;obtain rfl:=R.b_inv;exact⟨_,rfl,Xs Tryz.laidOut V F rfl (by match L,G with|[_,_],_=>rfl) rfl Tryz.underlying4 O⟩
theorem og:(Rows.topDeliveredRow.wf (OpenSpec.ofChange Rows.topDeliveredSpec)&&Tryz.f3.params.all (Tryz.checked.prog.readableRec ·)&&namedTie Tryz.checked.prog Rows.topDeliveredRow.named Rows.topDeliveredSpec.vars&&(Rows.topDeliveredRow.stops==[])&&(Rows.topDeliveredRow.knobs==[])&&Rows.topDeliveredSpec.vars.all (Tryz.checked.prog.varReadable ·)&&Tryz.f3.resultTypes.all (λt=>Tryz.checked.prog.readableRec t&&decide (t<Tryz.checked.prog.types.size))&&Rows.topDeliveredRow.shortTexts.isNone&&(Rows.topDeliveredRow.kinds==(if Rows.topDeliveredRow.domain.isEmpty then [] else Tryz.f3.params.toList.map λt=>match Tryz.checked.prog.underlying t with|some (.int k)=>some k|_=>none))&&(Rows.topDeliveredRow.pinned==Rows.topDeliveredRow.pinnedBy))=true:=V
theorem oh:(Rows.topDeliveredRow.inPlace==Tryz.checked.prog.inPlace 3)=true:=V
theorem oi:(Rows.topDeliveredRow.unfollowed==Tryz.checked.prog.unfollowed 3)=true:=V
theorem oj:(Rows.topDeliveredRow.recurses==Tryz.checked.prog.recurses 3)=true:=V
theorem om:(Rows.topDeliveredRow.named==Tryz.checked.prog.varsNamed 3)=true:=V
theorem oo:((Rows.topDeliveredRow.maps==(Tryz.f3.params.toList++Rows.topDeliveredSpec.plain.varTypes Tryz.checked.prog).any (Tryz.checked.prog.mapsRec ·))&&(Rows.topDeliveredRow.ifaces==(Tryz.f3.params.toList++Rows.topDeliveredSpec.plain.varTypes Tryz.checked.prog).any (Tryz.checked.prog.ifacesRec ·))&&(Rows.topDeliveredRow.mapsOut==Tryz.checked.prog.mapsAmong Tryz.f3.resultTypes.toList)&&(Rows.topDeliveredRow.loops==(Tryz.f3.params.toList++Rows.topDeliveredSpec.plain.varTypes Tryz.checked.prog).any (Tryz.checked.prog.loopsFrom ·))&&(Rows.topDeliveredRow.wideKeys==(Tryz.f3.params.toList++Rows.topDeliveredSpec.plain.varTypes Tryz.checked.prog++Tryz.f3.resultTypes.toList).any (Tryz.checked.prog.wideKeysFrom ·))&&(Rows.topDeliveredRow.ifacesOut==Tryz.f3.resultTypes.toList.any (Tryz.checked.prog.ifacesRec ·))&&(Rows.topDeliveredRow.loopsOut==Tryz.f3.resultTypes.toList.any (Tryz.checked.prog.loopsFrom ·)))=true:=V
theorem oq:(Rows.topDeliveredRow.plainKeys==Tryz.checked.prog.plainKeys)=true:=V
theorem ow:(Rows.topDeliveredRow.lifted==Tryz.checked.prog.liftsFinal)=true:=V
theorem ox:(Tryz.checked.prog.make==some Rows.topDeliveredRow.make)=true:=V
theorem jx:(Rows.topDeliveredRow.veiled==(Tryz.f3.params.toList++Rows.topDeliveredSpec.plain.varTypes Tryz.checked.prog++Tryz.f3.resultTypes.toList).any (Tryz.checked.prog.veiledRec ·))=true:=V
theorem jy:Rows.topDeliveredRow.veiledFits Tryz.checked.prog Tryz.f3.params.toList (Tryz.f3.params.toList++Rows.topDeliveredSpec.plain.varTypes Tryz.checked.prog++Tryz.f3.resultTypes.toList)=true:=V
theorem P7:joinedFacts Tryz.checked.prog 3 Tryz.f3 Rows.topDeliveredSpec Rows.topDeliveredRow=true:=
 CM (P:=Tryz.checked.prog) (f:=3) (fn:=Tryz.f3) (s:=Rows.topDeliveredSpec) (c:=Rows.topDeliveredRow) jf1 jf2 jf3 jf4 jf5 jf6 og oh oi oj om oo oq ow ox jx jy
theorem W2:Rows.TopDeliveredSaid:=
 OpenClaim.holds_of_wide 3 Tryz.f3 rfl rfl rfl rfl rfl rfl rfl ⟨rfl,rfl,rfl,rfl,rfl⟩ rfl rfl rfl rfl rfl V Tryz.func3 P7
  (kK V) (by unfold Func.isWrapper;rw[aB (by decide+kernel)];exact nT)
  (λe a H c _=>P6 e a H c)
end Go.Proofs.YtpnjmojpeaegoaaGreatDoor
