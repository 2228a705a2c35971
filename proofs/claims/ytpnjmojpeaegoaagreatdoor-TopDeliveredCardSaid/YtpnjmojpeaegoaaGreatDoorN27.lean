/-
  TopDelivered returns true whatever the input, and the input reads behind the call as it read before, where the three listed tables of Go's library hold what the program's text lays: a part of the proof.
-/
import Derived.Test.YtpnjmojpeaegoaaGreatDoorChecked
import Derived.Test.YtpnjmojpeaegoaaGreatDoorN26
set_option linter.unusedSimpArgs false
set_option linter.unusedVariables false
namespace Go.Proofs.YtpnjmojpeaegoaaGreatDoor
open Go.Eng
theorem Tryz.own:ownKnob Tryz.prog.godebug=none:=V
theorem Tryz.laidOut:laidOutB Tryz.prog=true:=V
def B8:Sh:= .ki .i64
def aJ3:Sh:= .kb
def shS:Sh:= .ks
def shC:Sh:= .kst [B8,B8]
def shG:Sh:= .kst [B8,B8,B8]
def Te:Sh:= .kst [.ksl shS,.ksl shC,.ksl shG,B8,B8,B8,.ksl B8,B8]
def Mt:Sh:= .kst [B8,B8,B8,B8,B8,.kst [B8,B8,B8,B8,B8,B8,B8,B8,shS,.ksl B8],.kst [B8,B8,B8,B8,aJ3],.kst [B8,B8,B8],.kst [B8,B8,aJ3],.kst [B8,B8,B8,B8],.kst [B8,B8,B8,B8],.ksl aJ3]
def ofC (v:shC.Val):Sb.Cm:=⟨v.1,v.2.1⟩
def ofG (v:shG.Val):Sb.Gt:=⟨v.1,v.2.1,v.2.2.1⟩
def aAu (v:Te.Val):Stp0:=⟨v.1,v.2.1.map ofC,v.2.2.1.map ofG,v.2.2.2.1,v.2.2.2.2.1,v.2.2.2.2.2.1,v.2.2.2.2.2.2.1,v.2.2.2.2.2.2.2.1⟩
def CL (v:Mt.Val):Inp where
 k:=v.1
 net:=v.2.1
 ev:=v.2.2.1
 loc:=v.2.2.2.1
 n:=v.2.2.2.2.1
 raw:=(λr=>⟨r.1,r.2.1,r.2.2.1,r.2.2.2.1,r.2.2.2.2.1,r.2.2.2.2.2.1,r.2.2.2.2.2.2.1,r.2.2.2.2.2.2.2.1,r.2.2.2.2.2.2.2.2.1,r.2.2.2.2.2.2.2.2.2.1⟩) v.2.2.2.2.2.1
 note:=(λr=>⟨r.1,r.2.1,r.2.2.1,r.2.2.2.1,r.2.2.2.2.1⟩) v.2.2.2.2.2.2.1
 pf:=(λr=>⟨r.1,r.2.1,r.2.2.1⟩) v.2.2.2.2.2.2.2.1
 ver:=(λr=>⟨r.1,r.2.1,r.2.2.1⟩) v.2.2.2.2.2.2.2.2.1
 hold:=(λr=>⟨r.1,r.2.1,r.2.2.1,r.2.2.2.1⟩) v.2.2.2.2.2.2.2.2.2.1
 ord:=(λr=>⟨r.1,r.2.1,r.2.2.1,r.2.2.2.1⟩) v.2.2.2.2.2.2.2.2.2.2.1
 up:=v.2.2.2.2.2.2.2.2.2.2.2.1
theorem aGh (l:List Mt.Val):eV (.rs 35 (l.map CL).length (ZF (l.map CL))) (Sh.top (.ksl Mt) l):=Ox Mt CL Inp.av H3 (λ_=>rfl) l rfl
theorem aGi (v:Te.Val):Mu (.ag (aAu v).av) (Sh.top Te v):=
 .ag ⟨.refl _,.of_eq (Ox shC ofC Sb.Cm.av Sb.dCm (λ_=>rfl) v.2.1 rfl),.of_eq (Ox shG ofG Sb.Gt.av Sb.dGt (λ_=>rfl) v.2.2.1 rfl),.refl _,.refl _,.refl _,.refl _,.refl _,trivial⟩
end Go.Proofs.YtpnjmojpeaegoaaGreatDoor
