/-
  TopDelivered returns true whatever the input, and the input reads behind the call as it read before, where the three listed tables of Go's library hold what the program's text lays: a part of the proof.
-/
import Derived.Shelf.SlIterI.Nil
import Derived.Shelf.SortM.Plain
import Derived.Shelf.SortM.SortNone
import Derived.Shelf.SlSortCmp.NoneTotal
import Derived.Shelf.Slices.CompactI
import Derived.Test.YtpnjmojpeaegoaaGreatDoorN18
set_option linter.unusedSimpArgs false
set_option linter.unusedVariables false
set_option maxRecDepth 100000
set_option maxHeartbeats 0
namespace Go.Proofs.YtpnjmojpeaegoaaGreatDoor
open Go.Eng Go.RowKit Go.Maps Go.Sort Go.Shelf
theorem A7 {P:Program} {f:FuncId} {B:Func} (h:(P.funcs[f]?).map (λg=>g.name== "runtime.NumGoroutine")=some false) (e:(P.funcs[f]?).map (λg=>{g with name:= ""})=some {B with name:= ""}):Bears P f B:=by
 unfold Bears;generalize P.funcs[f]? =o at*;cases o with
 |none=>cases e
 |some g=>exact⟨g.name,jH,by cases g;cases B;simpa using e⟩
def zx:Go.Shelf.Ren:=⟨fun|6=>47|15=>90|14=>89|28=>175|29=>176|20=>167|21=>168|22=>169|23=>170|24=>171|25=>172|26=>173|27=>174|46=>244|47=>245|48=>246|49=>247|50=>248|57=>303|n=>n,fun|22=>25|24=>3|25=>148|3=>3|39=>196|0=>0|53=>294|55=>296|4=>4|46=>288|45=>287|50=>89|5=>5|9=>9|66=>356|70=>360|76=>405|77=>406|n=>n,fun|n=>n⟩
theorem UX:Go.Proofs.SlLaysF.n6 Tryz.prog zx:=by constructor<;>first|kernel_rfl|(intro _;kernel_rfl)|exact A7 V V
def Yx:Go.Shelf.Ren:=⟨fun|6=>164|15=>90|14=>242|28=>175|29=>176|20=>294|21=>295|22=>296|23=>297|24=>298|25=>299|26=>300|27=>301|46=>344|47=>245|48=>246|49=>345|50=>346|57=>360|n=>n,fun|22=>141|24=>143|25=>284|3=>3|39=>196|0=>0|53=>294|55=>296|4=>4|46=>288|45=>287|50=>89|5=>5|9=>9|66=>356|70=>360|76=>405|77=>406|n=>n,fun|n=>n⟩
theorem aDh:Go.Proofs.SlLaysF0.n6 Tryz.prog Yx:=by constructor<;>first|kernel_rfl|(intro _;kernel_rfl)|exact A7 V V
def Yy:Go.Shelf.Ren:=⟨fun|5=>219|8=>90|7=>280|19=>175|20=>176|10=>321|11=>322|12=>323|13=>324|14=>325|15=>326|16=>327|17=>328|18=>329|30=>353|31=>245|32=>246|33=>354|34=>355|35=>91|40=>364|n=>n,fun|23=>25|25=>3|3=>3|32=>196|22=>25|0=>0|44=>294|46=>296|4=>4|36=>288|35=>287|41=>89|5=>5|9=>9|53=>356|57=>360|63=>405|64=>406|n=>n,fun|n=>n⟩
theorem zy:Go.Proofs.SlLaysM.n5 Tryz.prog Yy:=by constructor<;>first|kernel_rfl|(intro _;kernel_rfl)|exact A7 V V
def zz:Go.Shelf.Ren:=⟨fun|7=>284|10=>331|n=>n,fun|23=>152|26=>3|3=>4|28=>396|0=>0|27=>395|33=>160|4=>4|n=>n,fun|n=>n⟩
theorem aDi:Go.Proofs.SlLaysZI.n7 Tryz.prog zz:=by constructor<;>first|kernel_rfl|(intro _;kernel_rfl)|exact A7 V V
def ld:Go.Shelf.Ren:=⟨fun|6=>283|8=>330|9=>219|11=>356|13=>90|12=>280|23=>175|24=>176|14=>321|15=>322|16=>323|17=>324|18=>325|19=>326|20=>327|21=>328|22=>329|25=>353|26=>245|27=>246|28=>354|29=>355|30=>91|31=>364|n=>n,fun|26=>3|28=>396|24=>25|0=>0|3=>3|37=>196|48=>294|50=>296|4=>4|40=>288|39=>287|45=>89|5=>5|9=>9|51=>356|55=>360|57=>405|58=>406|33=>160|n=>n,fun|n=>n⟩
theorem PS:Go.Proofs.SlLaysZI.n6 Tryz.prog ld:=by constructor<;>first|kernel_rfl|(intro _;kernel_rfl)|exact A7 V V
def Yz:Go.Shelf.Ren:=⟨fun|20=>220|n=>n,fun|22=>25|3=>3|4=>4|0=>0|n=>n,fun|n=>n⟩
theorem Vc:Go.Proofs.Lays2.n20 Tryz.prog Yz:=by constructor<;>first|kernel_rfl|(intro _;kernel_rfl)|exact A7 V V
end Go.Proofs.YtpnjmojpeaegoaaGreatDoor
namespace Go.Proofs.YtpnjmojpeaegoaaGreatDoor
open Go.Eng Go.RowKit Go.Sort Go.Shelf Go.Qu
def PT (l:List Wt) (i j:Nat):Int:=pS [xR (l.getD i dW).d (l.getD j dW).d,xR (l.getD i dW).e (l.getD j dW).e]
theorem GQ (l:List Wt) (i j:Nat) (hi:i<l.length) (g:j<l.length):cC 48 [.I i,.I j,.rp [.rs 4 l.length (rW l)]] [] (.I (PT l i j)):=by
 refine hZ Tryz.func48 [.tmp 5] [] ?_;have e:(i:Int).toNat=i:=aQ i;have f:(j:Int).toNat=j:=aQ j;refine⟨⟨J,J⟩,⟨J,J⟩,⟨J,J⟩,⟨J,J⟩,?_⟩
 refine jb (E7 _ _) ?_
 refine jb (E7 _ _) ?_
 refine jb (GL _ _) ?_;refine RetIs.i ?_;rw[e,f];rfl
theorem aDj (n:Nat):Lies (α:=Fin n) 1 (λx=>[.int .i64 (x.1:Int)]) (λx=>[.I (x.1:Int)]) where
 pos:=jD
 len _:=rfl
 alen _:=rfl
 one x v hv:=by rw[bV] at hv;rw[hv];rfl
 to F w x j h1 h2:=by
  have:j=0:=j1
  subst this;exact .i _ _
 of F w x j v h1 h2 h:=by
  have:j=0:=j1
  subst this;cases h;rfl
theorem YF (l:List Wt) [Inhabited (Fin l.length)]:Y9 Tryz.prog 47 48 1 (λx:Fin l.length=>[.int .i64 (x.1:Int)]) (ltOf λx y:Fin l.length=>PT l x.1 y.1) [.rp [.rs 4 l.length (rW l)]]:=
 Ip UX ⟨_,Tryz.func48,V,rfl⟩ ⟨_,Tryz.func47,V,rfl⟩ (enc:=λx:Fin l.length=> .int .i64 (x.1:Int)) (av:=λx=> .I (x.1:Int)) (λ_=>rfl) (λ_ _ _=> .i _ _) (λx y=>GQ l x.1 y.1 x.2 y.2)
  (Uz (λx:Fin l.length=>(l.getD x.1 dW).d) (λx=>(l.getD x.1 dW).e) λx y=>bm _ _ _ _)
def kQ (l:List Wt) (a:Int) (k:Nat):List (Fin l.length):=((List.finRange l.length).take k).filter λi=>(l.getD i.1 dW).n==a
theorem PU (l:List Wt) (a:Int) {k:Nat} (h:k<l.length):kQ l a (k+1)=if((l.getD k dW).n==a)=true then kQ l a k++[⟨k,h⟩] else kQ l a k:=by
 unfold kQ;rw[bS jH,gS,List.getElem_finRange];by_cases c:((l.getD k dW).n==a)=true
 ·rw[aE c,oW (by exact c)];rfl
 ·rw[aB c,oV (by exact c)];simp
theorem GR (l:List Wt) (a:Int) (k:Nat):(kQ l a k).length<=l.length:=by unfold kQ;refine cO (gC _ _) ?_;simp;omega
theorem YG (l:List Wt) (a:Int):(kQ l a l.length).map (·.1)=(List.range l.length).filter λi=>(l.getD i dW).n==a:=by
 unfold kQ;have e:List.range l.length=(List.finRange l.length).map (·.1):=iV jS λi _ _=>jS
 rw[fR jS,e,vE];rfl
theorem Za (p:Pf_q0) (g:p.fit) (e:Int) (l:List Wt) (j:l.length<=1000000) (up:Bool) (f:((!up||(p2 p !=0))|| !pX l)=true):cM 12 false [] [p.ar,.I e,.rs 4 l.length (rW l),.b up] (λ_:Unit=>True) (λ_=>[]) (λ_=>[.row 3 1 0 (rI []),.row 68 4 l.length (rW l)]) (λ_=> .tup [.so 0,.so 1]):=by
 refine sE Tryz.func12 [.tmp 8,.tmp 9] [(999999,[.nl 8 3 1])] ?_
 repeat apply jL
 refine⟨[.row 68 4 l.length (rW l)],_,zZ l J,?_⟩
 refine jc (wD p g) ?_
 repeat apply jL
 refine⟨[],_,λ_=>bs l J,?_⟩
 repeat apply jL
 refine⟨λ_=> ?_,λh=>absurd (f.symm.trans h) jD⟩;exact⟨(),[(0,3),(1,1)],trivial,⟨nU,⟨⟨rfl,rfl,trivial,qA⟩,ni,trivial⟩,rfl⟩,rfl,λ_=>⟨rfl,λk hk=>absurd hk (dU k),λ_ _=>rfl⟩⟩
theorem GS {l:List Wt} (h:pX l=true): ∀x∈l,Eg x=true:=λx f=>by
 obtain⟨k,a,rfl⟩:=cU f;unfold pX at h;have c:(List.range l.length).any (qB l)=false:=jH
 have:=fH.1 c k (by simpa using a);unfold qB at this;rw[xE a] at this;cases e:Eg l[k]
 ·simp[e] at this
 ·rfl
theorem aDk {x:Wt} (h:Eg x=true):1<=x.l/\x.l<=1099511627776:=by unfold Eg PQ at h;simp at h;omega
theorem aFo {l:List Wt} (h:pX l=true) (j:Nat):0<=(l.getD j dW).l/\(l.getD j dW).l<=1099511627776:=by
 by_cases a:j<l.length
 ·have:=aDk (GS h _ (vM (d:=dW) a));omega
 ·have:l.getD j dW=dW:=by simp[List.getD,eY (Nat.not_lt.1 a)]
  rw[this];decide
theorem GT {l:List Wt} (h:pX l=true) {i j:Nat} (hj:j<l.length) (a:i<j) (g:(l.getD i dW).n=(l.getD j dW).n):(l.getD i dW).e≠(l.getD j dW).e:=λq=>by
 unfold pX at h;have c:(List.range l.length).any (qB l)=false:=jH
 have f:=fH.1 c j jT;refine f ?_;unfold qB Yv;rw[eZ];refine .inr (kC.2 ⟨l.getD i dW,?_,by rw[q,g];simp⟩);rw[<-gdT dW l a];exact vM (by rw[cT];omega)
theorem aFp {l:List Wt} (q:pX l=true) (r f:Int) {a:List (Fin l.length)} (j:a.Perm (kQ l f l.length)) (C:a.Pairwise λx y=>ltOf (λx y:Fin l.length=>PT l x.1 y.1) y x=false):
  Stp r f l (wM r l (a.map (·.1))).2.2 (kp (λw=>w.l==0) (wM r l (a.map (·.1))).2.1):=by
 have F:(a.map (·.1)).Perm ((List.range l.length).filter λi=>(l.getD i dW).n==f):=by rw[<-YG];exact j.map _
 have z:a.Nodup:=j.nodup_iff.2 (by
  unfold kQ;exact((List.nodup_finRange _).sublist (l9 _ _)).filter _)
 have g: ∀x∈a,(l.getD x.1 dW).n=f:=λx c=>by have:=j.mem_iff.1 c;unfold kQ at this;simpa using(eC.1 this).2
 refine YE F ?_ λx c=>by have:=aDk (GS q x c);omega
 rw[gQ];refine(C.and z).imp_of_mem λ{x y} c t ⟨k,D⟩=> ?_;have E:ltOf (λx y:Fin l.length=>PT l x.1 y.1) y x=ltP (l.getD y.1 dW).d (l.getD y.1 dW).e (l.getD x.1 dW).d (l.getD x.1 dW).e:=bm _ _ _ _;rw[E] at k;unfold ltP at k;simp only[bH] at k;have A:x.1≠y.1:=λe=>D (Fin.ext e);have G:(l.getD x.1 dW).e≠(l.getD y.1 dW).e:=by
  rcases sS A with h|h
  ·exact GT q y.2 h ((g x c).trans (g y t).symm)
  ·exact(GT q x.2 h ((g y t).trans (g x c).symm)).symm
 unfold Eb;omega
def fQ {n:Nat} (a:List (Fin n)) (j:Nat):List Nat:=(a.take j).map (·.1)
theorem PV {n:Nat} [Inhabited (Fin n)] {a:List (Fin n)} {j:Nat} (h:j<a.length):fQ a (j+1)=fQ a j++[(a.getD j default).1]:=by unfold fQ;rw[bS h,fJ,xE h];rfl
theorem YH (l:List Wt) (i:Nat) (x:Wt) (hi:i<l.length) (q:Nat):(if q=i then x.av else(l.getD q dW).av)=rW (l.set i x) q:=by
 unfold rW;rw[Yw];by_cases h:q=i
 ·rw[aE h,aE ⟨h.symm,hi⟩]
 ·rw[aB h,aB λk=>h k.1.symm]
theorem Qc (p:Pf_q0) (hp:p.fit) (g:Int) (l:List Wt) (hl:l.length<1000000) (Y:0<l.length) (W:p2 p=0) (hq:pX l=true):cM 12 false [] [p.ar,.I g,.rs 4 l.length (rW l),.b true] (λy:List Int×List Wt=>Stp p.rate g l y.1 y.2/\y.1.length<=l.length) (λ_=>[]) (λy=>[.row 3 1 y.1.length (rI y.1),.row 68 4 y.2.length (rW y.2)]) (λ_=> .tup [.so 0,.so 1]):=by
 refine sE Tryz.func12 [.tmp 8,.tmp 9] [(1000018,[.ex 1])] ?_
 haveI:Inhabited (Fin l.length):=⟨⟨0,Y⟩⟩
 repeat apply jL
 refine⟨[.row 68 4 l.length (rW l)],_,zZ l J,?_⟩
 refine jc (wD p hp) ?_
 repeat apply jL
 refine⟨[],_,λ_=>bs l J,?_⟩;rw[W,hq]
 repeat apply jL
 refine⟨λh=>absurd h jD,λ_=> ?_⟩
 repeat apply jL
 refine⟨[(11,3,1)],Nat,λk=>k<=l.length,λk=>[⟨36,[],.I k⟩,⟨11,[],.so 3⟩],λk=>[⟨3,[],.row 3 1 (kQ l g k).length λi=>[.I (((kQ l g k).getD i default).1:Int)]⟩],λk=>l.length-k,
  np,?_⟩
 intro k hk;have hk:k<=l.length:=hk;have a5:=GR l g k;refine .inl ⟨λt=> ?_,λt=> ?_⟩
 ·have t:=pH t;have t:(k:Int)<l.length:=t;have L:(k:Int).toNat=k:=aQ k;have G:=PU l g (k:=k) J
  repeat apply jL
  refine⟨⟨J,J⟩,J,?_⟩
  repeat apply jL
  refine jB ((l.getD (k:Int).toNat dW).n==g) (λh=> ?_) λh=> ?_
  ·rw[L] at h;rw[aE h] at G;refine⟨oJ J,?_⟩;have N:(kQ l g (k+1)).length=(kQ l g k).length+1:=by rw[G];simp
   refine⟨k+1,[(3,6)],J,jM,rfl,rfl,rfl,rfl,rfl,⟨nV,rfl⟩,⟨rfl,rfl,N.symm,λq hq=> ?_⟩⟩;show iJ _ _ _ q=[AV.I (((kQ l g (k+1)).getD q default).1:Int)];have hq:q<(kQ l g (k+1)).length:=hq;rw[G,zv];unfold iJ;by_cases C:q<(kQ l g k).length
   ·rw[aE C,aE C]
   ·have:q=(kQ l g k).length:=J;subst this;rw[aB C,aB C,aE rfl,iG];rfl
  ·rw[L] at h;rw[aB jR] at G;refine⟨k+1,[],J,jM,rfl,rfl,rfl,rfl,rfl,⟨nV,rfl⟩,⟨rfl,rfl,by rw[G],λq hq=>by rw[G]⟩⟩
 have t:=iT t;have t:(l.length:Int)<=k:=t;obtain rfl:k=l.length:=J
 refine aN (aN ?_);refine⟨false,[3],rfl,List (Fin l.length),_,_,_,_,sg (aDj _) (YF l) rfl (kQ l g l.length) _ (λi P=>rfl) J,λf fm=> ?_⟩;obtain⟨R,a0⟩:=fm;have cz:f.length<=l.length:=by rw[R.length_eq];exact GR _ _ _
 have hr:=l2 W;have a2:=λj=>YD (r:=p.rate) J (aFo hq) (fQ f j);have M: ∀j,(wM p.rate l (fQ f j)).2.2.length<=l.length:=λj=>by refine cO (GP _ _ _) ?_;unfold fQ;simp;omega
 repeat apply jL
 refine⟨[(14,3,1)],Nat,λj=>j<=f.length,λj=>[⟨57,[],.I j⟩,⟨15,[],.I (wM p.rate l (fQ f j)).1⟩,⟨14,[],.so 4⟩],λj=>[⟨1,[],.row 68 4 l.length (rW (wM p.rate l (fQ f j)).2.1)⟩,⟨4,[],.row 3 1 (wM p.rate l (fQ f j)).2.2.length (rI (wM p.rate l (fQ f j)).2.2)⟩],λj=>f.length-j,
  ⟨0,[],bI _,rfl,rfl,rfl,rfl,rfl,⟨nT,nT,rfl⟩,⟨⟨rfl,rfl,rfl,λq hq=>rfl⟩,nX⟩⟩,?_⟩
 intro j hj;have hj:j<=f.length:=hj;have a3:=a2 j;have a4:=M j;have z:j<f.length->wM p.rate l (fQ f (j+1))=po (wM p.rate l (fQ f j)) (f.getD j default).1:=λh=>by rw[PV h,GO]
 have D:=a3;refine .inl ⟨λt=> ?_,λt=> ?_⟩
 ·have t:=pH t;have t:(j:Int)<f.length:=t;have ej:(j:Int).toNat=j:=aQ j;have z:wM p.rate l (fQ f (j+1))=po (wM p.rate l (fQ f j)) (f.getD (j:Int).toNat default).1:=by rw[ej];exact z J
  repeat apply jL
  refine⟨⟨J,J⟩,J,?_⟩;have P:(f.getD (j:Int).toNat default).1<l.length:=(f.getD (j:Int).toNat default).2;have F:((f.getD (j:Int).toNat default).1:Int).toNat=(f.getD (j:Int).toNat default).1:=aQ _;have hw:=D.w (f.getD (j:Int).toNat default).1;have Y:=D.p0;have h1:=D.p1;have S:(f.getD (j:Int).toNat default).1<(wM p.rate l (fQ f j)).2.1.length:=by rw[D.len];exact P
  have w1:IntKind.i64.wrap (((wM p.rate l (fQ f j)).2.1.getD (f.getD (j:Int).toNat default).1 dW).l-min (wM p.rate l (fQ f j)).1 ((wM p.rate l (fQ f j)).2.1.getD (f.getD (j:Int).toNat default).1 dW).l)=((wM p.rate l (fQ f j)).2.1.getD (f.getD (j:Int).toNat default).1 dW).l-min (wM p.rate l (fQ f j)).1 ((wM p.rate l (fQ f j)).2.1.getD (f.getD (j:Int).toNat default).1 dW).l:=wr J J;have w2:IntKind.i64.wrap ((wM p.rate l (fQ f j)).1-min (wM p.rate l (fQ f j)).1 ((wM p.rate l (fQ f j)).2.1.getD (f.getD (j:Int).toNat default).1 dW).l)=(wM p.rate l (fQ f j)).1-min (wM p.rate l (fQ f j)).1 ((wM p.rate l (fQ f j)).2.1.getD (f.getD (j:Int).toNat default).1 dW).l:=wr J J
  repeat apply jL
  refine⟨⟨J,J⟩,J,?_⟩
  repeat apply jL
  refine⟨⟨J,J⟩,J,?_⟩
  repeat apply jL
  refine⟨⟨J,J⟩,J,?_⟩;refine⟨.row 68 4 l.length (rW (po (wM p.rate l (fQ f j)) (f.getD (j:Int).toNat default).1).2.1),⟨rfl,rfl,rfl,λq hq=> ?_⟩,?_⟩
  ·refine B9 ?_ (YH (wM p.rate l (fQ f j)).2.1 _ _ S q);rw[<-w1];rw[<-F] at P;by_cases h:q=(f.getD (j:Int).toNat default).1
   ·subst h;refine(aE F.symm).trans (B9 ?_ (aE rfl).symm);rw[F];rfl
   ·exact(aB λe=>h (e.trans F)).trans (aB h).symm
  repeat apply jL
  refine⟨⟨J,J⟩,J,?_⟩;have O:(po (wM p.rate l (fQ f j)) (f.getD (j:Int).toNat default).1).2.1.getD ((f.getD (j:Int).toNat default).1:Int).toNat dW={(wM p.rate l (fQ f j)).2.1.getD (f.getD (j:Int).toNat default).1 dW with l:=((wM p.rate l (fQ f j)).2.1.getD (f.getD (j:Int).toNat default).1 dW).l-min (wM p.rate l (fQ f j)).1 ((wM p.rate l (fQ f j)).2.1.getD (f.getD (j:Int).toNat default).1 dW).l}:=by rw[F];show((wM p.rate l (fQ f j)).2.1.set _ _).getD _ dW=_;rw[Yw,aE ⟨rfl,S⟩]
  refine jB (((po (wM p.rate l (fQ f j)) (f.getD (j:Int).toNat default).1).2.1.getD ((f.getD (j:Int).toNat default).1:Int).toNat dW).l==0) (λh=> ?_) λh=> ?_
  ·rw[O] at h;have E:(po (wM p.rate l (fQ f j)) (f.getD (j:Int).toNat default).1).2.2=(wM p.rate l (fQ f j)).2.2++[((wM p.rate l (fQ f j)).2.1.getD (f.getD (j:Int).toNat default).1 dW).e]:=by unfold po;exact aE h
   repeat apply jL
   refine⟨⟨J,J⟩,J,?_⟩;have a1:=M (j+1);rw[z,E,bD,cD] at a1;refine⟨oJ J,?_⟩;refine⟨j+1,[(4,6)],J,jM,rfl,rfl,rfl,rfl,rfl,⟨nV,⟨rfl,by rw[z,F];exact w2⟩,rfl⟩,⟨⟨rfl,rfl,rfl,λq hq=>by rw[z]⟩,⟨rfl,rfl,by rw[z,E,bD,cD],λq hq=> ?_⟩⟩⟩;rw[z,E];refine B9 ?_ (show [AV.I (((wM p.rate l (fQ f j)).2.2++[((wM p.rate l (fQ f j)).2.1.getD (f.getD (j:Int).toNat default).1 dW).e]).getD q 0)]=_ from rfl);rw[zv];show iJ _ _ _ q=_;unfold iJ;by_cases C:q<(wM p.rate l (fQ f j)).2.2.length
   ·rw[aE C,aE C];rfl
   ·have hq:q<(wM p.rate l (fQ f (j+1))).2.2.length:=hq;rw[z,E,bD,cD] at hq;have:q=(wM p.rate l (fQ f j)).2.2.length:=J
    subst this;rw[aB C,aB C,aE rfl,iG];show [AV.I ((po (wM p.rate l (fQ f j)) (f.getD (j:Int).toNat default).1).2.1.getD ((f.getD (j:Int).toNat default).1:Int).toNat dW).e]=_;rw[O]
  ·rw[O] at h;have E:(po (wM p.rate l (fQ f j)) (f.getD (j:Int).toNat default).1).2.2=(wM p.rate l (fQ f j)).2.2:=by unfold po;exact aB jR
   refine⟨j+1,[],J,jM,rfl,rfl,rfl,rfl,rfl,⟨nV,⟨rfl,by rw[z,F];exact w2⟩,rfl⟩,⟨⟨rfl,rfl,rfl,λq hq=>by rw[z]⟩,⟨rfl,rfl,by rw[z,E],λq hq=>by rw[z,E]⟩⟩⟩
 ·have t:=iT t;have t:(f.length:Int)<=j:=t;obtain rfl:j=f.length:=J
  have N:fQ f f.length=f.map (·.1):=by unfold fQ;rw[eJ]
  have K:=aFp hq p.rate g R a0;rw[<-N] at K;have U:=M f.length;cases Q:(wM p.rate l (fQ f f.length)).2.1.any λw=>w.l==0 with
  |true=>have H:=ub (wM p.rate l (fQ f f.length)).2.1 (by rw[D.len];omega) 52 (λw=>w.l==0) (λx _=>Ei x) Q;rw[D.len] at H;refine aN (aN ?_);refine⟨false,[1],rfl,Unit,_,_,_,_,H,λ_ _=> ?_⟩;exact⟨((wM p.rate l (fQ f f.length)).2.2,kp (λw=>w.l==0) (wM p.rate l (fQ f f.length)).2.1),[(0,4),(1,5)],⟨K,U⟩,⟨nU,⟨ni,ni,trivial⟩,rfl⟩,rfl,λ_=>⟨rfl,λ_ _=>rfl,λ_ _=>rfl⟩⟩
  |false=>
   have H:=Q7 (wM p.rate l (fQ f f.length)).2.1 (by rw[D.len];omega) 52 (λw=>w.l==0) (λx _=>Ei x) Q;rw[D.len] at H;refine aN (aN ?_);refine⟨false,[1],rfl,Unit,_,_,_,_,H,λ_ _=> ?_⟩;have L:kp (λw:Wt=>w.l==0) (wM p.rate l (fQ f f.length)).2.1=(wM p.rate l (fQ f f.length)).2.1:=lC.2 λx hx=>by have:=fH.1 Q x hx;simpa using this
   rw[L] at K;exact⟨((wM p.rate l (fQ f f.length)).2.2,(wM p.rate l (fQ f f.length)).2.1),[(0,4),(1,1)],⟨K,U⟩,⟨nU,⟨ni,⟨rfl,rfl,trivial,⟨rfl,rfl,D.len.symm,λ_ _=>rfl⟩⟩,trivial⟩,rfl⟩,rfl,λ_=>⟨rfl,λ_ _=>rfl,λ_ _=>rfl⟩⟩
theorem PW {F:Nat->Prop} {w:World} {v u:Value} (h:Rep0 F w (.val v) u):u=v:=by cases h;rfl
theorem PX (x:AV):cC 47 [.val (.slice none 0 0),x] [] (.tup []):=
 ⟨⟨_,Tryz.func47,V,rfl⟩,λw l f h _=>by
  match l,f with
  |[a,b],_=>
   have c:=PW (h 0 jS jS);have c:a= .slice none 0 0:=c;subst c;refine(AnyF.slices_SortFunc_none (P:=Tryz.prog) (ρ:=zx) {UX with} none 0 b w).mono ?_;rintro e t ⟨rfl,rfl⟩;exact⟨_,⟨λ_=>0,λ_=>undef⟩,rfl,Below.refl _ _,⟨λj o hj=>jj,λj o g hj=>jj,λj n o q g hj=>jj⟩,.tup [] [] rfl λj h1=>jl⟩⟩
theorem Qd (p:Pf_q0) (j:p.fit) (e:Int) (f:p2 p=0):cM 12 false [] [p.ar,.I e,.rs 4 0 (rW []),.b true] (λ_:Unit=>True) (λ_=>[]) (λ_=>[.row 3 1 0 (rI []),.row 68 4 0 (rW [])]) (λ_=> .tup [.so 0,.so 1]):=by
 refine sE Tryz.func12 [.tmp 8,.tmp 9] [(999999,[.nl 8 3 1])] ?_
 repeat apply jL
 refine⟨[.row 68 4 0 (rW [])],_,zZ [] jD,?_⟩
 refine jc (wD p j) ?_
 repeat apply jL
 refine⟨[],_,λ_=>bs [] jD,?_⟩;rw[f,show pX []=true from rfl]
 repeat apply jL
 refine⟨λh=>absurd h jD,λ_=> ?_⟩
 repeat apply jL
 refine⟨[],Unit,λ_=>True,λ_=>[⟨36,[],.I 0⟩,⟨11,[],.val (.slice none 0 0)⟩],λ_=>[],λ_=>0,⟨(),[],trivial,rfl,rfl,rfl,rfl,rfl,⟨nT,rfl⟩,trivial⟩,?_⟩;intro _ _;refine .inl ⟨λg=>absurd g jD,λ_=> ?_⟩
 refine jb (PX _) ?_
 repeat apply jL
 refine⟨[],Unit,λ_=>True,λ_=>[⟨57,[],.I 0⟩,⟨15,[],.u⟩,⟨14,[],.val (.slice none 0 0)⟩],λ_=>[],λ_=>0,⟨(),[],trivial,rfl,rfl,rfl,rfl,rfl,⟨nT,trivial,rfl⟩,trivial⟩,?_⟩;intro _ _;refine .inl ⟨λg=>absurd g jD,λ_=> ?_⟩;refine aN (aN ?_);refine⟨false,[1],rfl,Unit,_,_,_,_,Q7 [] jD 52 (λw=>w.l==0) (λx _=>Ei x) rfl,λ_ _=> ?_⟩;exact⟨(),[(0,3),(1,1)],trivial,⟨nU,⟨⟨rfl,rfl,trivial,qA⟩,ni,trivial⟩,rfl⟩,rfl,λ_=>⟨rfl,λk hk=>absurd hk (dU k),λ_ _=>rfl⟩⟩
def yB (p:Pf_q0) (a:Int) (l:List Wt) (up:Bool) (y:List Int×List Wt):Prop:=
 if((!up||(p2 p !=0))|| !pX l)=true then y=([],l) else Stp p.rate a l y.1 y.2/\y.1.length<=l.length
theorem Vd (p:Pf_q0) (e:p.fit) (a:Int) (l:List Wt) (g:l.length<1000000) (up:Bool):
  cM 12 true [] [p.ar,.I a,.rs 4 l.length (rW l),.b up] (yB p a l up) (λ_=>[]) (λ_=>[]) (λy=> .tup [.rs 1 y.1.length (rI y.1),.rs 4 y.2.length (rW y.2)]):=by
 by_cases c:((!up||(p2 p !=0))|| !pX l)=true
 ·exact((Za p e a l J up c).less (Z:=List Int×List Wt) (spec':=yB p a l up) (outs':=λ_=>[]) (os':=λy=>[.row 3 1 y.1.length (rI y.1),.row 68 4 y.2.length (rW y.2)]) (r':=λ_=> .tup [.so 0,.so 1]) λ_ _=>⟨([],l),by unfold yB;rw[aE c],rfl,rfl,rfl⟩).frz λ_ _=>(by constructor)
 ·have c:((!up||(p2 p !=0))|| !pX l)=false:=by simpa using c
  have h:=c;rw[bT,bT] at c;obtain⟨⟨h1,h2⟩,h3⟩:=c;have h1:up=true:=j1
  have h2:p2 p=0:=j2
  have h3:pX l=true:=j3
  subst h1;by_cases f:0<l.length
  ·exact((Qc p e a l g f h2 h3).less (Z:=List Int×List Wt) (spec':=yB p a l true) (outs':=λ_=>[]) (os':=λy=>[.row 3 1 y.1.length (rI y.1),.row 68 4 y.2.length (rW y.2)]) (r':=λ_=> .tup [.so 0,.so 1]) λy j=>⟨y,by unfold yB;rw[aB jR];exact j,rfl,rfl,rfl⟩).frz λ_ _=>(by constructor)
  ·have:l=[]:=fA J;subst this;exact((Qd p e a h2).less (Z:=List Int×List Wt) (spec':=yB p a [] true) (outs':=λ_=>[]) (os':=λy=>[.row 3 1 y.1.length (rI y.1),.row 68 4 y.2.length (rW y.2)]) (r':=λ_=> .tup [.so 0,.so 1]) λ_ _=>⟨([],[]),by
    unfold yB;rw[aB jR];exact⟨⟨[],.nil,.nil,.nil,rfl⟩,aG _⟩,rfl,rfl,rfl⟩).frz λ_ _=>(by constructor)
structure Jb where
 id:Int
 sz:Int
 due:Int
deriving DecidableEq
def Jb.av (j:Jb):List AV:=[.I j.id,.I j.sz,.I j.due]
def dJ:Jb:=⟨0,0,0⟩
instance:Inhabited Jb:=⟨dJ⟩
def rJ (l:List Jb) (k:Nat):List AV:=(l.getD k dJ).av
theorem Zb (l:List Jb) (a:l.length*24<=140737488355328):cC 163 [.rs 3 l.length (rJ l)] [.row 143 3 l.length (rJ l)] (.so 0):=by
 refine hZ Tryz.func163 [.tmp 2] [(999999,[.nl 2 143 3])] ?_;refine .inl λc hc=>⟨λh=> ?_,λh=>⟨by rw[dR];exact a,?_⟩⟩
 ·exact mK
 ·exact mN
def lf (l:List Jb) (c:Int) (k:Nat):Bool:=(l.take k).any λj=>j.id==c
def Qe (l:List Jb) (k:Nat):Bool:=((((decide ((l.getD k dJ).id<0)||lf l (l.getD k dJ).id k)||decide ((l.getD k dJ).sz<1))||decide ((l.getD k dJ).sz>1099511627776))||decide ((l.getD k dJ).due<0))||decide ((l.getD k dJ).due>1073741824)
def y9 (l:List Jb):Bool:= !(List.range l.length).any (Qe l)&&decide ((l.length:Int)<=1000)
theorem N9: ∀a b:Int,AV.I a=AV.I b->a=b:=λa b h=>by cases h;rfl
theorem Qf (l:List Jb) (c:Int) {k:Nat} (h:k<l.length):lf l c (k+1)=(lf l c k||(l.getD k dJ).id==c):=by unfold lf;rw[bS h,sO,xE h];simp
theorem Aa (l:List Jb) (F:l.length<2^62):cC 162 [.rs 3 l.length (rJ l)] [] (.b (y9 l)):=by
 refine hZ Tryz.func162 [.tmp 2] [] ?_
 repeat apply jL
 refine⟨[],Nat×List (Int×Bool),λx=>x.1<=l.length/\(∀j,j<x.1->Qe l j=false)/\ ∀c,hU x.2 c=if lf l c x.1=true then some true else none,λx=>[⟨9,[],.I x.1⟩],λx=>[⟨0,[],Dc (λk:Int=> .I k) (λb:Bool=>AV.b b) (0,false) x.2⟩],λx=>l.length-x.1,
  ⟨(0,[]),[],⟨bI _,λj g=>absurd g (dU j),λc=>rfl⟩,rfl,rfl,rfl,rfl,rfl,nT,qI⟩,?_⟩
 rintro⟨k,L⟩ ⟨hk,t,w⟩;dsimp only at hk t w;refine .inl ⟨λf=> ?_,λf=> ?_⟩
 ·have f:=pH f;have f:(k:Int)<l.length:=f;have q:(k:Int).toNat=k:=aQ k
  repeat apply jL
  refine⟨⟨jM,jM⟩,?_⟩;have E:=lK (L:=L) (d:=(0,false)) (vf:=λv:Bool=>AV.b v) N9 (l.getD (k:Int).toNat dJ).id false;have z:(hU L (l.getD (k:Int).toNat dJ).id).getD false=lf l (l.getD k dJ).id k:=by rw[w,q];cases lf l (l.getD k dJ).id k<;>rfl
  repeat apply jL
  refine⟨_,_,⟨λ_=>⟨λ_ _=>rfl,rfl,E⟩,?_⟩⟩;refine jB (((((decide ((l.getD (k:Int).toNat dJ).id<0)||(hU L (l.getD (k:Int).toNat dJ).id).getD false)||decide ((l.getD (k:Int).toNat dJ).sz<1))||decide ((l.getD (k:Int).toNat dJ).sz>1099511627776))||decide ((l.getD (k:Int).toNat dJ).due<0))||decide ((l.getD (k:Int).toNat dJ).due>1073741824)) (λh=> ?_) λh=> ?_
  ·rw[z,q] at h;refine RetIs.b ?_;unfold y9;rw[t5 (Qe l) 0 (List.range l.length) (j:=k) jO (by rw[Q6 J];exact h)];rfl
  ·rw[z,q] at h;have h:Qe l k=false:=h;refine⟨_,_,_,_,_,⟨λ_ _=>rfl,rfl,lJ (L:=L) (d:=(0,false)) (vf:=λv:Bool=>AV.b v) N9 (l.getD (k:Int).toNat dJ).id true⟩,?_⟩;have D:=eN.refl (Dc (λk:Int=> .I k) (λb:Bool=>AV.b b) (0,false) (kE L (l.getD (k:Int).toNat dJ).id true));refine⟨(k+1,kE L (l.getD (k:Int).toNat dJ).id true),[],⟨jM,λj g=> ?_,λc=> ?_⟩,jM,rfl,rfl,rfl,rfl,rfl,nV,D⟩
   ·have g:j<k+1:=g;by_cases C:j=k
    ·subst C;exact h
    ·exact t j J
   ·show hU (kE L (l.getD (k:Int).toNat dJ).id true) c=if lf l c (k+1)=true then some true else none;rw[rK,w,q,Qf l c J];by_cases n:c=(l.getD k dJ).id
    ·rw[aE n,n];simp
    ·rw[aB n,show((l.getD k dJ).id==c)=false by simpa using λh:(l.getD k dJ).id=c=>n h.symm,Bool.or_false]
 ·have f:=iT f;have f:(l.length:Int)<=k:=f;refine RetIs.b ?_;unfold y9;rw[t4 (Qe l) 0 _ λj g=>by rw[oP] at g;rw[Q6 g];exact t j J];rfl
def Zc (a b:Jb):Int:=pS [xR a.due b.due,xR a.id b.id]
theorem PY (a b:Jb):cC 165 [.ag a.av,.ag b.av] [] (.I (Zc a b)):=by
 refine hZ Tryz.func165 [.tmp 4] [(2000001,[.frz 0 [0,1]])] ?_
 exact mD
def Qg (j:Jb):List Value:=[.int .i64 j.id,.int .i64 j.sz,.int .i64 j.due]
theorem UY {p:Nat->Prop} (a:p 0) (c:p 1) (e:p 2): ∀k,k<3->p k:=by
 intro k f
 match k with
 |0=>exact a
 |1=>exact c
 |2=>exact e
 |k+3=>omega
theorem UZ:Lies 3 Qg Jb.av where
 pos:=jD
 len _:=rfl
 alen _:=rfl
 one x v hv:=by simp[Qg] at hv;rcases hv with rfl|rfl|rfl<;>rfl
 to F w x j c a:=by have e:j<3:=a;revert c a;refine UY (p:=λj=> ∀(c:j<x.av.length) (a:j<(Qg x).length),Rep0 F w x.av[j] (Qg x)[j]) ?_ ?_ ?_ j e<;>exact λ_ _=> .i _ _
 of F w x j v c a:=by have e:j<3:=a;revert c a;refine UY (p:=λj=> ∀(c:j<x.av.length) (a:j<(Qg x).length),Rep0 F w x.av[j] v->v=(Qg x)[j]) ?_ ?_ ?_ j e<;>exact λ_ _ h=>(by cases h;rfl)
theorem YI:Y9 Tryz.prog 164 165 3 Qg (ltOf Zc):=
 Oz aDh ⟨_,Tryz.func165,V,rfl⟩ ⟨_,Tryz.func164,V,rfl⟩ Tryz.isAgg143 Tryz.sizeOf143 UZ PY (Uz Jb.due Jb.id λx y=>bm _ _ _ _)
def pre (s:List Jb) (k:Nat):Int:=((s.take k).map Jb.sz).sum
theorem uf (s:List Jb) {k:Nat} (h:k<s.length):pre s (k+1)=pre s k+(s.getD k dJ).sz:=by unfold pre;rw[bS h,xE h];simp only[fJ,vC,gP,p4,List.sum_cons,List.sum_nil];omega
def rD (p:Pf_q0) (a:Int) (s:List Jb) (k:Nat):List AV:=[.I (s.getD k dJ).id,.I (s.getD k dJ).sz,.I (s.getD k dJ).due,.I (pre s (k+1)),.I (zY p a (s.getD k dJ).due)]
def PZ (p:Pf_q0) (l:List Jb) (a:Int):Bool:= !(((p2 p !=0|| !y9 l)||decide (a<0))||decide (a>1073741824))
theorem GU (p:Pf_q0) (j:p.fit) (l:List Jb) (g:l.length<2^62) (e:Int) (h:PZ p l e=false):cM 88 false [] [p.ar,.rs 3 l.length (rJ l),.I e] (λ_:Unit=>True) (λ_=>[]) (λ_=>[]) (λ_=> .tup [.u,.b false]):=by
 refine sE Tryz.func88 [.tmp 6,.tmp 7] [(999999,[.sl 6 .u]),(2000011,[.frz 0 [3]])] ?_
 refine jb (wD p j) ?_
 refine jc (Aa l g) ?_
 repeat apply jL
 refine⟨λ_=> ?_,λf=> ?_⟩
 ·exact⟨trivial,(),[],trivial,⟨nU,trivial,rfl⟩,rfl,λ_=>⟨rfl,trivial⟩⟩
 ·have f:(((p2 p !=0|| !y9 l)||decide (e<0))||decide (e>1073741824))=false:=f;unfold PZ at h;rw[f] at h;cases h
theorem VA {l:List Jb} (h:y9 l=true):l.length<=1000/\ ∀x∈l,0<=x.id/\1<=x.sz/\x.sz<=1099511627776/\0<=x.due/\x.due<=1073741824:=by
 unfold y9 at h;rw[aW,aM] at h;have c:(List.range l.length).any (Qe l)=false:=by simpa using h.1
 refine⟨J,λx e=> ?_⟩;obtain⟨k,a,rfl⟩:=cU e;have:=fH.1 c k (by simpa using a);unfold Qe at this;rw[xE a] at this;simp at this;omega
theorem YJ {s:List Jb} (h: ∀x∈s,1<=x.sz/\x.sz<=1099511627776) (f:s.length<=1000): ∀k,k<=s.length->0<=pre s k/\pre s k<=k*1099511627776:=by
 intro k
 induction k with
 |zero=>intro _;exact⟨kR _,kR _⟩
 |succ k a=>intro e;have:=a J;have c:=h _ (vM (d:=dJ) (show k<s.length by omega));rw[uf s J];omega
theorem Zd (p:Pf_q0) (w:p.fit) (l:List Jb) (e:Int) (h:PZ p l e=true):cM 88 false [] [p.ar,.rs 3 l.length (rJ l),.I e] (λs:List Jb=>s.Perm l/\s.Pairwise λx y=>ltOf Zc y x=false) (λ_=>[]) (λs=>[.row 193 5 s.length (rD p e s)]) (λ_=> .tup [.so 0,.b true]):=by
 refine sE Tryz.func88 [.tmp 6,.tmp 7] [(2000011,[.frz 0 [3]])] ?_;unfold PZ at h;have h:(((p2 p !=0|| !y9 l)||decide (e<0))||decide (e>1073741824))=false:=jH
 have F:y9 l=true:=by rw[bT,bT,bT] at h;simpa using h.1.1.2
 obtain⟨N,E⟩:=VA F
 refine jb (wD p w) ?_
 repeat apply jL
 refine⟨[],_,λ_=>Aa l J,?_⟩
 repeat apply jL
 refine⟨λL=>absurd (h.symm.trans L) jD,λ_=> ?_⟩
 repeat apply jL
 refine⟨[.row 143 3 l.length (rJ l)],_,Zb l J,?_⟩;refine aN (aN ?_);refine⟨false,[1],rfl,List Jb,_,_,_,_,sg UZ YI rfl l _ (λi M=>rfl) J,λs g=> ?_⟩;have K:s.length=l.length:=g.1.length_eq;have D: ∀x∈s,1<=x.sz/\x.sz<=1099511627776:=λx G=>by have:=E x (g.1.mem_iff.1 G);omega
 have A:=YJ D J
 repeat apply jL
 refine⟨[(9,193,5)],Nat,λk=>k<=s.length,λk=>[⟨35,[],.I k⟩,⟨10,[],.I (pre s k)⟩,⟨9,[],.so 2⟩],λk=>[⟨2,[],.row 193 5 k (rD p e s)⟩],λk=>s.length-k,
  ⟨0,[],bI _,rfl,rfl,rfl,rfl,rfl,⟨nT,nT,rfl⟩,nX⟩,?_⟩
 intro k t;have t:k<=s.length:=t;refine .inl ⟨λf=> ?_,λf=> ?_⟩
 ·have f:=pH f;have f:(k:Int)<s.length:=f;have n:(k:Int).toNat=k:=aQ k;have C:=uf s (k:=k) J;have H:=A (k+1) J
  repeat apply jL
  refine⟨⟨J,J⟩,J,?_⟩
  refine jb (GH p w e _) ?_
  repeat apply jL
  refine⟨oJ J,?_⟩;have z:IntKind.i64.wrap (pre s k+(s.getD (k:Int).toNat dJ).sz)=pre s (k+1):=by rw[n,<-C];exact wr J J
  refine⟨k+1,[(2,5)],J,jM,rfl,rfl,rfl,rfl,rfl,⟨nV,⟨rfl,z⟩,rfl⟩,⟨rfl,rfl,rfl,λq hq=> ?_⟩⟩;have hq:q<k+1:=hq;show iJ _ _ _ q=rD p e s q;unfold iJ;by_cases j:q<k
  ·rw[aE j]
  ·have:q=k:=J;subst this;rw[aB j,iG];show [AV.I (s.getD (q:Int).toNat dJ).id,AV.I (s.getD (q:Int).toNat dJ).sz,AV.I (s.getD (q:Int).toNat dJ).due,AV.I (IntKind.i64.wrap (pre s q+(s.getD (q:Int).toNat dJ).sz)),AV.I (zY p e (s.getD (q:Int).toNat dJ).due)]=_;rw[z,n];rfl
 ·have f:=iT f;have f:(s.length:Int)<=k:=f;obtain rfl:k=s.length:=J
  exact⟨s,[(0,2)],g,qM,rfl,λ_=>q6⟩
def A8 (p:Pf_q0) (l:List Jb) (a:Int) (e:Int):Prop:=
 if PZ p l a=true then∃s:List Jb,s.Perm l/\(s.Pairwise λx y=>ltOf Zc y x=false)/\((e=0/\ ∀k,k<s.length->pre s (k+1)<=zY p a (s.getD k dJ).due)\/(e=16/\ ∃k,k<s.length/\ ¬pre s (k+1)<=zY p a (s.getD k dJ).due)) else e=1
theorem Ze (p:Pf_q0) (g:p.fit) (l:List Jb) (f:l.length<2^62) (c:Int) (h:PZ p l c=false):cM 46 false [] [p.ar,.rs 3 l.length (rJ l),.I c] (A8 p l c) (λ_=>[]) (λ_=>[]) (λe=> .tup [.u,.u,.I e]):=by
 refine sE Tryz.func46 [.tmp 6,.tmp 7,.tmp 8] [(999999,[.sl 6 .u,.sl 7 .u])] ?_;refine aN (aN ?_);refine⟨false,[],rfl,Unit,_,_,_,_,GU p g l f c h,λ_ _=> ?_⟩
 repeat apply jL
 refine⟨λ_=> ?_,λj=>absurd j jD⟩;exact⟨trivial,trivial,1,[],by unfold A8;rw[aB jR],⟨nU,trivial,rfl⟩,rfl,λ_=>⟨rfl,trivial⟩⟩
theorem Qh (p:Pf_q0) (G:p.fit) (l:List Jb) (f:Int) (h:PZ p l f=true):cM 46 false [] [p.ar,.rs 3 l.length (rJ l),.I f] (A8 p l f) (λ_=>[]) (λ_=>[]) (λe=> .tup [.u,.u,.I e]):=by
 refine sE Tryz.func46 [.tmp 6,.tmp 7,.tmp 8] [(999999,[.sl 6 .u,.sl 7 .u])] ?_;have H:y9 l=true:=by have h2:=h;unfold PZ at h2;simp at h2;exact h2.1.1.2
 obtain⟨M,L⟩:=VA H;refine aN (aN ?_);refine⟨false,[],rfl,List Jb,_,_,_,_,Zd p G l f h,λs w=> ?_⟩;have K:s.length=l.length:=w.1.length_eq
 repeat apply jL
 refine⟨λh2=>absurd h2 jD,λ_=> ?_⟩
 repeat apply jL
 refine⟨[(11,3,1)],Nat×(Nat->List AV),λx=>x.1<=s.length/\ ∀j,j<x.1->pre s (j+1)<=zY p f (s.getD j dJ).due,λx=>[⟨25,[],.I x.1⟩,⟨11,[],.so 2⟩],λx=>[⟨2,[],.row 3 1 x.1 x.2⟩],λx=>s.length-x.1,
  ⟨(0,λ_=>[]),[],⟨bI _,λj t=>absurd t (dU j)⟩,rfl,rfl,rfl,rfl,rfl,⟨nT,rfl⟩,nX⟩,?_⟩
 rintro⟨k,g⟩ ⟨D,z⟩;have D:k<=s.length:=D;refine .inl ⟨λn=> ?_,λn=> ?_⟩
 ·have n:=pH n;have n:(k:Int)<s.length:=n;have C:(k:Int).toNat=k:=aQ k
  repeat apply jL
  refine⟨⟨jM,jM⟩,jM,?_⟩
  repeat apply jL
  refine jB (decide (pre s ((k:Int).toNat+1)>zY p f (s.getD (k:Int).toNat dJ).due)) (λh2=> ?_) λh2=> ?_
  ·rw[C,aM] at h2;exact⟨trivial,trivial,16,[],by unfold A8;rw[aE h];exact⟨s,w.1,w.2,.inr ⟨rfl,k,J,J⟩⟩,⟨nU,trivial,rfl⟩,rfl,λ_=>⟨rfl,trivial⟩⟩
  ·rw[C,bH] at h2;refine⟨oJ jM,?_⟩;have F:=eN.refl (.row 3 1 (k+1) (iJ k g (kJ 1 [.I (IntKind.i64.wrap (zY p f (s.getD (k:Int).toNat dJ).due-pre s ((k:Int).toNat+1)))])));refine⟨(k+1,iJ k g (kJ 1 [.I (IntKind.i64.wrap (zY p f (s.getD (k:Int).toNat dJ).due-pre s ((k:Int).toNat+1)))])),[(2,5)],⟨jM,λj t=> ?_⟩,jM,rfl,rfl,rfl,rfl,rfl,⟨nV,rfl⟩,F⟩;have t:j<k+1:=t;by_cases E:j=k
   ·subst E;omega
   ·exact z j jM
 ·have n:=iT n;have n:(s.length:Int)<=k:=n;exact⟨trivial,trivial,0,[],by unfold A8;rw[aE h];exact⟨s,w.1,w.2,.inl ⟨rfl,λj t=>z j jM⟩⟩,⟨nU,trivial,rfl⟩,rfl,λ_=>⟨rfl,trivial⟩⟩
theorem QA (p:Pf_q0) (c:p.fit) (l:List Jb) (f:l.length<2^62) (a:Int):cM 46 false [] [p.ar,.rs 3 l.length (rJ l),.I a] (A8 p l a) (λ_=>[]) (λ_=>[]) (λe=> .tup [.u,.u,.I e]):=by
 cases h:PZ p l a
 ·exact Ze p c l f a h
 ·exact Qh p c l a h
def toJ (w:Wt):Jb:=⟨w.e,w.l,w.d⟩
def zL (l:List Wt) (n:Int):List Jb:=(l.filter λx=>x.n==n).map toJ
theorem Zf (l:List Wt) (n:Int) {k:Nat} (h:k<l.length):zL (l.take (k+1)) n=if((l.getD k dW).n==n)=true then zL (l.take k) n++[toJ (l.getD k dW)] else zL (l.take k) n:=by unfold zL;rw[bS h,gS,xE h];cases a:(l[k].n==n)<;>simp[a]
theorem GV (l:List Wt) (n:Int) (k:Nat):(zL (l.take k) n).length<=k:=by unfold zL;rw[fC];refine cO (gC _ _) ?_;rw[cT];omega
def bt (p:Pf_q0) (l:List Wt) (w:Wt) (a:Int) (y:List Wt×Int):Prop:=
 if(!pX l|| !Eg w)=true then y=(l,1) else if Yv l w.e w.n=true then y=(l,5) else∃e,A8 p (zL (l++[w]) w.n) a e/\y=if e=0 then(l++[w],0) else(l,e)
theorem QB (p:Pf_q0) (K:p.fit) (l:List Wt) (M:l.length<900000) (w:Wt) (g:Int):cM 11 false [] [p.ar,.rs 4 l.length (rW l),.ag w.av,.I g] (bt p l w g) (λ_=>[]) (λy=>[.row 68 4 y.1.length (rW y.1)]) (λy=> .tup [.so 0,.I y.2]):=by
 refine sE Tryz.func11 [.tmp 8,.tmp 9] [(1000006,[.ex 5]),(2000006,[.frz 0 [1]])] ?_
 repeat apply jL
 refine⟨[.row 68 4 l.length (rW l)],_,zZ l J,?_⟩
 repeat apply jL
 refine⟨[],_,bs l J,?_⟩
 refine jc (zw w) ?_
 repeat apply jL
 refine⟨λh=> ?_,λh=> ?_⟩
 ·have h:(!pX l|| !Eg w)=true:=h;exact⟨(l,1),[(0,2)],by unfold bt;rw[aE h],qM,rfl,λ_=>q6⟩
 have h:(!pX l|| !Eg w)=false:=h
 repeat apply jL
 refine⟨[],_,GN l J w.e w.n,?_⟩
 repeat apply jL
 refine jB (Yv l w.e w.n) (λh2=> ?_) λh2=> ?_
 ·exact⟨(l,5),[(0,2)],by unfold bt;rw[aB jR,aE h2],qM,rfl,λ_=>q6⟩
 have z: ∀y,(∃e,A8 p (zL (l++[w]) w.n) g e/\y=if e=0 then(l++[w],0) else(l,e))->bt p l w g y:=λy E=>by unfold bt;rw[aB jR,aB jK];exact E
 refine⟨.br 1 (.st 3 2 .leaf) 3 (.st 1 2 .leaf),V,Unit,λ_=>True,Function.const Unit ?_,?_,λ_ _=>⟨?_,?_⟩⟩
 rotate_left
 ·refine⟨?_,?_⟩
  ·refine eX ⟨_,_,zZ l J,?_⟩;refine⟨(),[],trivial,?_,xI ?_ ?_⟩
   rotate_left
   ·show _=id _;rfl
   ·exact mG
   ·rfl
  ·refine eX ⟨_,_,zZ l J,?_⟩;refine⟨(),[(3,4),(4,3)],trivial,rfl,?_,?_,rfl⟩<;>(repeat' first|exact rfl|exact trivial|refine⟨?_,?_⟩|intro _ _)
 ·rfl
 refine⟨oJ J,?_⟩;have C:(l++[w]).length=l.length+1:=jS
 refine⟨.row 68 4 (l++[w]).length (rW (l++[w])),⟨rfl,rfl,C.symm,λq hq=> ?_⟩,?_⟩
 ·have hq:q<(l++[w]).length:=hq;rw[C] at hq;show iJ _ _ _ q=rW (l++[w]) q;unfold iJ rW;rw[zv];by_cases f:q<l.length
  ·rw[aE f,aE f]
  ·have:q=l.length:=J;subst this;rw[aB f,aB f,aE rfl,iG];rfl
 have z: ∀y,(∃e,A8 p (zL (l++[w]) w.n) g e/\y=if e=0 then(l++[w],0) else(l,e))->bt p l w g y:=λy E=>by unfold bt;rw[aB jR,aB jK];exact E
 have x:=GV (l++[w]) w.n;have F:=λk=>Zf (l++[w]) w.n (k:=k);generalize l++[w]=m at C z x F|-
 repeat apply jL
 refine⟨[(12,143,3)],Nat,λk=>k<=m.length,λk=>[⟨45,[],.I k⟩,⟨12,[],.so 6⟩],λk=>[⟨6,[],.row 143 3 (zL (m.take k) w.n).length (rJ (zL (m.take k) w.n))⟩],λk=>m.length-k,
  np,?_⟩
 intro k H;have H:k<=m.length:=H;refine .inl ⟨λj=> ?_,λj=> ?_⟩
 ·have j:=pH j;have j:(k:Int)<m.length:=j;have D:(k:Int).toNat=k:=aQ k;have t:=F k J;have L:=x k
  repeat apply jL
  refine⟨⟨J,J⟩,J,?_⟩
  repeat apply jL
  refine jB ((m.getD (k:Int).toNat dW).n==w.n) (λh3=> ?_) λh3=> ?_
  ·rw[D] at h3;rw[aE h3] at t;refine⟨oJ J,?_⟩;refine⟨k+1,[(6,9)],J,jM,rfl,rfl,rfl,rfl,rfl,⟨nV,rfl⟩,⟨rfl,rfl,by rw[t];simp,λq hq=> ?_⟩⟩;have hq:q<(zL (m.take (k+1)) w.n).length:=hq;rw[t] at hq|-;rw[bD,cD] at hq;show iJ _ _ _ q=rJ _ q;unfold iJ rJ;rw[zv];by_cases f:q<(zL (m.take k) w.n).length
   ·rw[aE f,aE f]
   ·have:q=(zL (m.take k) w.n).length:=J;subst this;rw[aB f,aB f,aE rfl,iG,<-D];rfl
  ·rw[D] at h3;rw[aB (by rw[h3];decide)] at t;exact⟨k+1,[],J,jM,rfl,rfl,rfl,rfl,rfl,⟨nV,rfl⟩,⟨rfl,rfl,by rw[t],λq hq=>by rw[t]⟩⟩
 have j:=iT j;have j:(m.length:Int)<=k:=j;obtain rfl:k=m.length:=J
 have x:=x m.length;rw[eJ] at x|-;refine eX (aN (aN ?_));refine⟨false,[],rfl,Int,_,_,_,_,QA p K (zL m w.n) J g,λe G=> ?_⟩
 repeat apply jL
 refine jB (e !=0) (λh3=> ?_) λh3=> ?_
 ·have h3:e≠0:=j3
  exact⟨(l,e),[(0,2)],z _ ⟨e,G,by rw[aB h3]⟩,qM,rfl,λ_=>q6⟩
 ·have h3:e=0:=j3
  exact⟨(m,0),[(0,5)],z _ ⟨e,G,by rw[aE h3]⟩,qM,rfl,λ_=>q6⟩
theorem GW (p:Pf_q0) (e:p.fit) (l:List Wt) (c:l.length<900000) (w:Wt) (a:Int):
  cM 11 true [] [p.ar,.rs 4 l.length (rW l),.ag w.av,.I a] (bt p l w a) (λ_=>[]) (λ_=>[]) (λy=> .tup [.rs 4 y.1.length (rW y.1),.I y.2]):=
 (QB p e l c w a).frz λ_ _=>(by constructor)
end Go.Proofs.YtpnjmojpeaegoaaGreatDoor
namespace Go.Proofs.YtpnjmojpeaegoaaGreatDoor
open Go.Eng Go.Qu
def Qi (l:List Bool) (k:Nat):List AV:=[.b (l.getD k false)]
def YK (p:Pf_q0) (u:List Bool) (k:Nat):Bool:=(decide (p.down>0)&&decide ((k:Int)>=p.win))&& !u.getD ((k:Int)-p.win).toNat false
def aw (p:Pf_q0) (u:List Bool):Nat->Int
 |0=>0
 |k+1=>let a:=if(!u.getD k false)=true then aw p u k+1 else aw p u k
  if YK p u k=true then a-1 else a
def xF (p:Pf_q0) (u:List Bool):Bool:=(p2 p==0)&& !(List.range u.length).any λk=>decide (aw p u (k+1)>p.down)
theorem GX (p:Pf_q0) (u:List Bool): ∀k:Nat, -(k:Int)<=aw p u k/\aw p u k<=k
 |0=>by simp[aw]
 |k+1=>by have:=GX p u k;unfold aw;dsimp only;split<;>split<;>omega
theorem ug (p:Pf_q0) (E:p.fit) (u:List Bool) (L:u.length<2^62):cC 9 [p.ar,.rs 1 u.length (Qi u)] [] (.b (xF p u)):=by
 refine hZ Tryz.func9 [.tmp 4] [] ?_
 refine jb (wD p E) ?_
 repeat apply jL
 refine jB (p2 p !=0) (λh=> ?_) λh=> ?_
 ·refine RetIs.b ?_;unfold xF;rw[show(p2 p==0)=false by simpa using h];rfl
 have t:p2 p=0:=jH
 have F:=l2 t
 repeat apply jL
 refine⟨[],Nat,λk=>k<=u.length/\ ∀j,j<k->decide (aw p u (j+1)>p.down)=false,λk=>[⟨13,[],.I k⟩,⟨5,[],.I (aw p u k)⟩],λ_=>[],λk=>u.length-k,
  ⟨0,[],⟨bI _,λj g=>absurd g (dU j)⟩,rfl,rfl,rfl,rfl,rfl,⟨nT,nT⟩,trivial⟩,?_⟩
 rintro k ⟨z,n⟩;have z:k<=u.length:=z;have K:=GX p u k;refine .inl ⟨λf=> ?_,λf=> ?_⟩
 ·have f:=pH f;have f:(k:Int)<u.length:=f;have w:(k:Int).toNat=k:=aQ k
  repeat apply jL
  refine⟨J,?_⟩;refine aN ⟨[],Unit,λ_=>True,λ_=>[⟨5,[],.I (if(!u.getD k false)=true then aw p u k+1 else aw p u k)⟩],λ_=>[],?_,λ_ _=> ?_⟩
  ·repeat apply jL
   refine jB (!u.getD (k:Int).toNat false) (λh2=> ?_) λh2=> ?_
   ·rw[w] at h2;exact⟨(),[],trivial,rfl,rfl,rfl,rfl,rfl,⟨rfl,by rw[aE h2];exact wr J J⟩,trivial⟩
   ·rw[w] at h2;exact⟨(),[],trivial,rfl,rfl,rfl,rfl,rfl,⟨rfl,by rw[aB jK]⟩,trivial⟩
  have G: -(k:Int)<=(if(!u.getD k false)=true then aw p u k+1 else aw p u k)/\(if(!u.getD k false)=true then aw p u k+1 else aw p u k)<=k+1:=by split<;>omega
  have l:aw p u (k+1)=if YK p u k=true then(if(!u.getD k false)=true then aw p u k+1 else aw p u k)-1 else(if(!u.getD k false)=true then aw p u k+1 else aw p u k):=rfl;have H:=GX p u (k+1);refine aN ⟨[],Unit,λ_=>True,λ_=>[⟨5,[],.I (aw p u (k+1))⟩],λ_=>[],?_,λ_ _=> ?_⟩
  ·repeat apply jL
   refine⟨λx=> ?_,?_⟩
   ·have x:(decide (p.down>0)&&decide ((k:Int)>=p.win))=true:=x.1;rw[aW,aM,aM] at x;rw[wr J J];omega
   have C:((decide (p.down>0)&&decide ((k:Int)>=p.win))&& !u.getD (IntKind.i64.wrap ((k:Int)-p.win)).toNat false)=YK p u k:=by
    unfold YK;by_cases h1:(decide (p.down>0)&&decide ((k:Int)>=p.win))=true
    ·rw[aW,aM,aM] at h1;rw[wr J J]
    ·have h1:(decide (p.down>0)&&decide ((k:Int)>=p.win))=false:=j1;rw[h1];rfl
   refine⟨λh2=> ?_,λh2=> ?_⟩
   ·have h2:YK p u k=true:=C.symm.trans h2;rw[aE h2] at l;exact⟨(),[],trivial,rfl,rfl,rfl,rfl,rfl,⟨rfl,by rw[l];exact wr J J⟩,trivial⟩
   ·have h2:YK p u k=false:=C.symm.trans h2;rw[aB jK] at l;exact⟨(),[],trivial,rfl,rfl,rfl,rfl,rfl,⟨rfl,by rw[l]⟩,trivial⟩
  repeat apply jL
  refine jB (decide (aw p u (k+1)>p.down)) (λh2=> ?_) λh2=> ?_
  ·refine RetIs.b ?_;unfold xF;rw[t5 (λk=>decide (aw p u (k+1)>p.down)) 0 (List.range u.length) (j:=k) jO (by rw[Q6 J];exact h2),Bool.not_true,pB]
  ·refine⟨k+1,[],⟨J,λj g=> ?_⟩,jM,rfl,rfl,rfl,rfl,rfl,⟨nV,nT⟩,trivial⟩;by_cases D:j=k
   ·subst D;exact h2
   ·exact n j J
 ·have f:=iT f;have f:(u.length:Int)<=k:=f;refine RetIs.b ?_;unfold xF;rw[t4 (λk=>decide (aw p u (k+1)>p.down)) 0 _ λj g=>by rw[oP] at g;rw[Q6 g];exact n j J];rw[t];rfl
theorem aDl {u:List Bool} {j k:Nat} (h:j<k):(u.take k).getD j false=u.getD j false:=gdT false u h
theorem VB {p:Pf_q0} (h:p2 p=0) (u:List Bool): ∀k,k<=u.length->aw p u k=dc p.down p.win u k
 |0,_=>by unfold aw dc;simp[dn]
 |k+1,x=>by
  have t:=VB h u k J;have l:=l2 h;unfold aw;dsimp only;rw[t];unfold YK dc;have j:u.take (k+1)=u.take k++[u.getD k false]:=by rw[bS J,xE J]
  have w:(u.take k).length=k:=Eh J;have e: ∀b:Bool,dn [b]=if b=true then 0 else 1:=λb=>by cases b<;>rfl
  by_cases a:p.down>0
  ·rw[aE a,aE a,j];have z:=l.2.2.2.2.2.2.2.1 a;by_cases q:(k:Int)>=p.win
   ·have f:k+1-p.win.toNat=(k-p.win.toNat)+1:=J;have g:((k:Int)-p.win).toNat=k-p.win.toNat:=J
    rw[f,g,lI J,iy,e];have c:(u.take k).drop (k-p.win.toNat)=u.getD (k-p.win.toNat) false::(u.take k).drop (k-p.win.toNat+1):=by rw[oI J,<-xE (d:=false) J,aDl J]
    have n:dn ((u.take k).drop (k-p.win.toNat))=(if u.getD (k-p.win.toNat) false=true then 0 else 1)+dn ((u.take k).drop (k-p.win.toNat+1)):=by rw[c];unfold dn;rw[gP,List.sum_cons]
    rw[n];simp only[a,q,decide_true,Bool.and_self,oD,dQ,ge_iff_le];cases u.getD k false<;>cases u.getD (k-p.win.toNat) false<;>simp<;>omega
   ·have f:k+1-p.win.toNat=0:=J;have g:k-p.win.toNat=0:=J
    rw[f,g,List.drop_zero,List.drop_zero,iy,e];have c:(decide (p.down>0)&&decide ((k:Int)>=p.win))=false:=jO
    rw[c];cases u.getD k false<;>simp
  ·rw[aB a,aB a,j,iy,e];have c:decide (p.down>0)=false:=by simpa using a
   rw[c];cases u.getD k false<;>simp
theorem uh {p:Pf_q0} {u:List Bool} (h:xF p u=true):p2 p=0/\MZ p.down p.win u:=by
 unfold xF at h;rw[aW,cH] at h;have a:((List.range u.length).any λk=>decide (aw p u (k+1)>p.down))=false:=by simpa using h.2
 refine⟨h.1,λk c=> ?_⟩;rw[<-VB h.1 u k c];cases k with
 |zero=>exact(l2 h.1).2.2.2.2.2.2.1
 |succ k=>have:=fH.1 a k jO;simpa using this
theorem Ve {p:Pf_q0} (g:p2 p=0) {t:Int} (e:0<=t):0<=U4 p.down p.win t/\U4 p.down p.win t<=t/\(p.down>0->0<=t/p.win*p.down/\t/p.win*p.down<=t):=by
 have f:=l2 g;unfold U4;by_cases a:p.down>0
 ·rw[aE a];have w:=f.2.2.2.2.2.2.2.1 a;have j:=Int.mul_ediv_add_emod t p.win;have n:=Int.emod_nonneg t (show p.win≠0 by omega);have c:=yH e (show 0<=p.win by omega);have q:t/p.win*p.down<=t/p.win*p.win:=tI J c;have l:=zQ c (show 0<=p.down by omega);rw[Int.mul_comm] at j;refine⟨J,J,λ_=>⟨l,J⟩⟩
 ·rw[aB a];exact⟨kR _,e,λh=>absurd h a⟩
theorem GY {p:Pf_q0} (f:p2 p=0) {t:Int} (c:0<=t) (j:t<=1073741824):tw p t=U4 p.down p.win t:=by
 have h:=l2 f;have g:=Ve f c;unfold tw;by_cases a:p.down>0
 ·have x:=h.2.2.2.2.2.2.2.1 a;have l:=g.2.2 a;have q:=yH c (show 0<=p.win by omega);have w:t/p.win<=t:=p9 _ c;have e:=g;unfold U4 at e|-;rw[aE a] at e;rw[aE (by simpa using a),aE a,uP c,uO c,wr (n:=t/p.win) J J,wr (n:=t/p.win*p.down) J J];exact wr J J
 ·unfold U4;rw[aB (by simpa using a),aB a]
theorem GZ {p:Pf_q0} (e:p2 p=0) {a b:Int} (E:0<=a) (F:b<=1073741824):zY p a b=gv p.rate p.down p.win a b:=by
 have C:=l2 e;unfold zY gv;by_cases h:b<a
 ·rw[aE jH,aE h]
 rw[aB jH,aB h,wr J J];have g:0<=b-a:=J
 have n:b-a<=1073741824:=J
 generalize b-a=t at g n|-;have G:=Ve e g;have z:y8 p t=yW p.rate (t-U4 p.down p.win t):=by unfold y8;rw[aB (by rw[e];simp;omega),GY e g n,wr J J]
 dsimp only;rw[z];have f:0<=t-U4 p.down p.win t:=J
 have x:t-U4 p.down p.win t<=1073741824:=J
 generalize t-U4 p.down p.win t=s at f x|-;have w:0<s->IntKind.i64.wrap (Int.tdiv 4503599627370496 s)=4503599627370496/s:=λh=>by have j:4503599627370496/s<=4503599627370496:=p9 _ jD;have q:0<=4503599627370496/s:=yH jD f;rw[uP jD];exact wr J J
 by_cases c:s>0/\p.rate>4503599627370496/s
 ·have l:yW p.rate s=(0,3):=by unfold yW;exact aE (by rw[w c.1];simpa using c)
  rw[l,aE c];rfl
 ·have H:0<=p.rate*s:=zQ J f;have D:p.rate*s<=4503599627370496:=by
   by_cases j:s>0
   ·have q:p.rate<=4503599627370496/s:=by have:=λh=>c ⟨j,h⟩;omega
    exact(Int.le_ediv_iff_mul_le j).1 q
   ·have:s=0:=J;rw[this];simp
  have A: ¬(decide (s>0)&&decide (p.rate>IntKind.i64.wrap (Int.tdiv 4503599627370496 s)))=true:=λh=>by rw[aW,aM,aM] at h;rw[w h.1] at h;exact c h
  have l:yW p.rate s=(IntKind.i64.wrap (p.rate*s),0):=by unfold yW;exact aB A
  rw[l,aB c];show(if((0:Int)==3)=true then _ else IntKind.i64.wrap (p.rate*s))=_;rw[aB jD];exact wr J J
end Go.Proofs.YtpnjmojpeaegoaaGreatDoor
namespace Go.Proofs.YtpnjmojpeaegoaaGreatDoor
open Go.Eng
structure Ev where
 a:Int
 s:Int
 cs:List Int
 k:Int
 g:Int
 t:Int
 q:Int
 w:Int
 n:Int
 x:ByteArray
 fs:List Int
 st:Int
deriving DecidableEq
def dE:Ev:=⟨0,0,[],0,0,0,0,0,0,gB,[],0⟩
def Ev.av (e:Ev):List AV:=[.I e.a,.I e.s,.rs 1 e.cs.length (rI e.cs),.I e.k,.I e.g,.I e.t,.I e.q,.I e.w,.I e.n,.s e.x,.rs 1 e.fs.length (rI e.fs),.I e.st]
def rE (l:List Ev) (k:Nat):List AV:=(l.getD k dE).av
theorem n8 (n e:Int):cC 138 [.I n,.I e] [] (.b (decide (0<=n)&&decide (n<e))):=by refine hZ Tryz.func138 [.tmp 4] [] ?_;exact RetIs.b rfl
theorem ui (n e:Int):cC 304 [.I n,.I e] [] (.b ((n== -1)||(decide (0<=n)&&decide (n<e)))):=by
 refine hZ Tryz.func304 [.tmp 4] [] ?_
 refine jc (n8 n e) ?_;exact RetIs.b rfl
theorem RetA.rsI {l:List Int} {n:Nat} {g:Nat->List AV} {O:List OE} {nid:Nat} (c:n=l.length) (a: ∀k,k<l.length->g k=rI l k):RetA (.rs 1 l.length (rI l)) (.rs 1 n g) O nid:=⟨rfl,rfl,c,a⟩
theorem f8 (l:List Int) (j:l.length*8<=140737488355328):cA 140 [.rs 1 l.length (rI l)] (.rs 1 l.length (rI l)):=by
 refine MX Tryz.func140 [.tmp 2] [(1000003,[.frz 2 [1]])] ?_
 repeat apply jL
 intro c f;refine⟨λh=> ?_,λh=> ?_⟩
 ·have h:(c==true)=true:=h;have e:=f jX
  exact⟨rfl,e,rfl⟩
 ·repeat apply jL
  refine⟨by show(0+_)*8<=_;omega,?_⟩;refine RetA.rsI J λk g=> ?_;unfold iJ;simp
theorem ja (e:Ev) (a:e.cs.length*8<=140737488355328) (c:e.fs.length*8<=140737488355328):cA 199 [.ag e.av] (.ag e.av):=by refine MX Tryz.func199 [.cell 2 64] [(2000001,[.frz 1 [0]])] ?_;refine aN (eX ?_);refine⟨_,f8 e.cs a,?_⟩;refine aN (eX ?_);refine⟨_,f8 e.fs c,?_⟩;exact⟨rfl,eV.refl (.ag e.av)⟩
def eqU {α:Type} (d:α) (a b:List α) (k:Nat):Prop:= ∀j,j<k->a.getD j d=b.getD j d
theorem QC {α:Type} {d:α} {a b:List α} (f:a.length=b.length) (h:eqU d a b a.length):a=b:=by refine iV f λj c e=> ?_;have:=h j c;simp only[List.getD,bL c,bL e,rN] at this;exact this
theorem uj (a b:List Int) (f:a.length<2^62) (g:b.length<2^62):cC 241 [.rs 1 a.length (rI a),.rs 1 b.length (rI b)] [] (.b (decide (a=b))):=by
 refine hZ Tryz.func241 [.tmp 4] [] ?_;refine .inl ⟨λh=> ?_,λh=> ?_⟩
 ·exact nG
 have h:((a.length:Int) !=b.length)=false:=h;simp at h;have hl:a.length=b.length:=J
 refine .inl ⟨[],Nat,λk=>k<=a.length/\eqU 0 a b k,λk=>[⟨13,[],.I k⟩],λ_=>[],λk=>a.length-k,
  na,?_⟩
 rintro k ⟨l,he⟩;refine .inl ⟨λhc=> ?_,λhc=> ?_⟩
 ·have hc:=pH hc;have hc:(k:Int)<a.length:=hc
  repeat apply jL
  refine⟨⟨J,J⟩,?_⟩;refine⟨⟨J,J⟩,?_⟩;refine⟨λh2=> ?_,λh2=> ?_⟩
  ·refine RetIs.b ?_;have h2:(a.getD (k:Int).toNat 0 !=b.getD (k:Int).toNat 0)=true:=h2;rw[aQ] at h2;simp only[lM] at h2;symm;rw[bH];rintro rfl;exact h2 rfl
  ·have h2:(a.getD (k:Int).toNat 0 !=b.getD (k:Int).toNat 0)=false:=h2;rw[aQ] at h2;have e:a.getD k 0=b.getD k 0:=j2
   refine⟨k+1,[],⟨J,λj hj=> ?_⟩,jM,rfl,rfl,rfl,rfl,rfl,nV,trivial⟩;by_cases c:j=k
   ·rw[c];exact e
   ·exact he j J
 ·exact nN
def bu (l:List Int) (x:Int):Int:=match l.findIdx? (λy=>x==y) with|some k=>k|none=> -1
theorem Zg {l:List Int} {x:Int} {k:Nat} (a:k<l.length) (c: ∀j,j<k->(x==l.getD j 0)=false) (e:(x==l.getD k 0)=true):bu l x=k:=by
 have:l.findIdx? (λy=>x==y)=some k:=by rw[eW];refine⟨a,by rw[<-xE (d:=0) a];exact e,λj f=> ?_⟩;have:=c j f;rw[xE J] at this;simp[this]
 simp[bu,this]
theorem Zh {l:List Int} {x:Int} (c: ∀j,j<l.length->(x==l.getD j 0)=false):bu l x= -1:=by
 have:l.findIdx? (λy=>x==y)=none:=by
  rw[gF];intro y e;obtain⟨j,a,rfl⟩:=cU e;have:=c j a
  rwa [xE a] at this
 simp[bu,this]
theorem HA (l:List Int) (x:Int):decide (bu l x>=0)=decide (x∈l):=by
 unfold bu;cases h:l.findIdx? (λy=>x==y) with
 |none=>
  rw[gF] at h;have:x∉l:=λe=>by have:=h x e;simp at this
  rw[gZ this];rfl
 |some k=>
  rw[eW] at h;obtain⟨c,a,_⟩:=h;have:x∈l:=by rw[cH] at a;rw[a];exact fN c
  rw[gH this];simp
theorem Ab (l:List Int) (n:l.length<2^62) (x:Int):cC 106 [.rs 1 l.length (rI l),.I x] [] (.I (bu l x)):=by
 refine hZ Tryz.func106 [.tmp 4] [] ?_
 repeat apply jL
 refine⟨[],Nat,λk=>k<=l.length/\ ∀j,j<k->(x==l.getD j 0)=false,λk=>[⟨8,[],.I k⟩],λ_=>[],λk=>l.length-k,
  na,?_⟩
 rintro k ⟨g,hno⟩;have g:k<=l.length:=g;refine .inl ⟨λf=> ?_,λf=> ?_⟩
 ·have f:=pH f;have f:(k:Int)<l.length:=f;have ek:(k:Int).toNat=k:=aQ k
  repeat apply jL
  refine⟨⟨J,J⟩,?_⟩
  repeat apply jL
  refine jB (x==l.getD (k:Int).toNat 0) (λh=> ?_) λh=> ?_
  ·rw[ek] at h;exact RetIs.i (Zg J hno h).symm
  ·exact mL
 ·have f:=iT f;have f:(l.length:Int)<=k:=f;obtain rfl:k=l.length:=J
  exact RetIs.i (Zh hno).symm
theorem wN (l:List Int) (e:l.length<2^62) (x:Int):cC 99 [.rs 1 l.length (rI l),.I x] [] (.b (decide (x∈l))):=by
 refine hZ Tryz.func99 [.tmp 4] [] ?_
 refine jb (Ab l e x) ?_;exact RetIs.b (HA l x)
def sT:ByteArray:=⟨#[84,97,114,103,101,116]⟩
def sQ:ByteArray:=⟨#[81,117,111,116,101]⟩
def sW:ByteArray:=⟨#[87,104,111]⟩
def sN:ByteArray:=⟨#[78]⟩
def sX:ByteArray:=⟨#[84,101,120,116]⟩
def sF:ByteArray:=⟨#[70,105,108,101,115]⟩
def rS (l:List ByteArray) (k:Nat):List AV:=[.s (l.getD k gB)]
def fF (k:Int):List ByteArray:=
 if k=0 then [sT,sQ,sW,sX,sF] else if k=1 then [sT,sX,sF] else if k=2 then [sT] else if k=3\/k=4 then [sT,sN] else if k=5\/k=7 then [sW] else if k=9 then [sW,sN] else []
theorem Ac (k:Int):(fF k).length<=5:=by
 unfold fF
 repeat' split
 all_goals decide
theorem RetA.rsS {l l':List ByteArray} (c:l=l') {n:Nat} {g:Nat->List AV} {O:List OE} {nid:Nat} (e:n=l'.length) (a: ∀k,k<l'.length->g k=rS l' k):RetA (.rs 1 l.length (rS l)) (.rs 1 n g) O nid:=by subst c;exact⟨rfl,rfl,e,a⟩
theorem RetA.nilS {l:List ByteArray} (a:l=[]) {O:List OE} {nid:Nat}:RetA (.rs 1 l.length (rS l)) (.val (.slice none 0 0)) O nid:=by subst a;exact⟨rfl,rfl,rfl⟩
theorem Vf (k:Int):cA 183 [.I k] (.rs 1 (fF k).length (rS (fF k))):=by
 refine MX Tryz.func183 [.tmp 2] [(1000003,[.frz 2 [0]]),(1000005,[.frz 2 [0]]),(1000007,[.frz 2 [0]]),(1000010,[.frz 2 [0]]),(1000013,[.frz 2 [0]]),(1000015,[.frz 2 [0]])] ?_
 repeat apply jL
 refine⟨λh=> ?_,λc=> ?_⟩
 ·have h:(k==0)=true:=h;rw[cH] at h;refine RetA.rsS (l':=[sT,sQ,sW,sX,sF]) (by unfold fF;rw[aE h]) rfl λj f=> ?_
  match j,f with
  |0,_=>rfl
  |1,_=>rfl
  |2,_=>rfl
  |3,_=>rfl
  |4,_=>rfl
 have c:(k==0)=false:=c;rw[cE] at c
 repeat apply jL
 refine⟨λh=> ?_,λe=> ?_⟩
 ·have h:(k==1)=true:=h;rw[cH] at h;refine RetA.rsS (l':=[sT,sX,sF]) (by unfold fF;rw[aB c,aE h]) rfl λj f=> ?_
  match j,f with
  |0,_=>rfl
  |1,_=>rfl
  |2,_=>rfl
 have e:(k==1)=false:=e;rw[cE] at e
 repeat apply jL
 refine⟨λh=> ?_,λg=> ?_⟩
 ·have h:(k==2)=true:=h;rw[cH] at h;refine RetA.rsS (l':=[sT]) (by unfold fF;rw[aB c,aB e,aE h]) rfl λj f=> ?_
  match j,f with
  |0,_=>rfl
 have g:(k==2)=false:=g;rw[cE] at g;have l: ∀{p:Nat->Prop},p 0->p 1-> ∀j,j<2->p j:=λc e j f=>by
  match j,f with
  |0,_=>exact c
  |1,_=>exact e
 have z: ∀{p:Nat->Prop},p 0-> ∀j,j<1->p j:=λc j f=>by
  match j,f with
  |0,_=>exact c
 repeat apply jL
 refine⟨λt=> ?_,λt=> ?_⟩
 ·have n:(k==3)=true:=t;rw[cH] at n
  repeat apply jL
  refine⟨λ_=> ?_,λh=> ?_⟩
  ·exact RetA.rsS (l':=[sT,sN]) (by unfold fF;rw[aB c,aB e,aB g,aE (.inl n)]) rfl (l rfl rfl)
  ·have h:(k==3)=false:=h;rw[cE] at h;exact absurd n h
 have t:(k==3)=false:=t;rw[cE] at t
 repeat apply jL
 refine⟨λh=> ?_,λA=> ?_⟩
 ·have h:(k==4)=true:=h;rw[cH] at h;exact RetA.rsS (l':=[sT,sN]) (by unfold fF;rw[aB c,aB e,aB g,aE (.inr h)]) rfl (l rfl rfl)
 have A:(k==4)=false:=A;rw[cE] at A
 repeat apply jL
 refine⟨λw=> ?_,λw=> ?_⟩
 ·have q:(k==5)=true:=w;rw[cH] at q
  repeat apply jL
  refine⟨λ_=> ?_,λh=> ?_⟩
  ·exact RetA.rsS (l':=[sW]) (by unfold fF;rw[aB c,aB e,aB g,aB J,aE (.inl q)]) rfl (z rfl)
  ·have h:(k==5)=false:=h;rw[cE] at h;exact absurd q h
 have w:(k==5)=false:=w;rw[cE] at w
 repeat apply jL
 refine⟨λh=> ?_,λC=> ?_⟩
 ·have h:(k==7)=true:=h;rw[cH] at h;exact RetA.rsS (l':=[sW]) (by unfold fF;rw[aB c,aB e,aB g,aB J,aE (.inr h)]) rfl (z rfl)
 have C:(k==7)=false:=C;rw[cE] at C
 repeat apply jL
 refine⟨λh=> ?_,λx=> ?_⟩
 ·have h:(k==9)=true:=h;rw[cH] at h;exact RetA.rsS (l':=[sW,sN]) (by unfold fF;rw[aB c,aB e,aB g,aB J,aB J,aE h]) rfl (l rfl rfl)
 have x:(k==9)=false:=x;rw[cE] at x;exact RetA.nilS (by unfold fF;rw[aB c,aB e,aB g,aB J,aB J,aB x])
def wE (e o:Ev) (u:ByteArray):Ev:=
 if fG u sT=true then {o with t:=e.t} else if fG u sQ=true then {o with q:=e.q} else if fG u sW=true then {o with w:=e.w}
 else if fG u sN=true then {o with n:=e.n} else if fG u sX=true then {o with x:=e.x} else if fG u sF=true then {o with fs:=e.fs} else o
def xG (e:Ev) (us:List ByteArray) (j:Nat):Ev:=(us.take j).foldl (wE e) ⟨e.a,e.s,e.cs,e.k,e.g, -1, -1, -1,0,gB,[],e.st⟩
theorem Zi {e:Ev} {us:List ByteArray} {j:Nat} (h:j<us.length):xG e us (j+1)=wE e (xG e us j) (us.getD j gB):=by unfold xG;rw[bS h,iQ,xE h];rfl
def qY (e:Ev):Ev:=xG e (fF e.k) (fF e.k).length
theorem HB (e:Ev):cA 252 [.ag e.av] (.ag (qY e).av):=by
 refine MX Tryz.func252 [.cell 2 64] [] ?_;refine eX ?_;refine aN (eX ?_);refine⟨_,Vf e.k,?_⟩;have O:=Ac e.k
 repeat apply jL
 refine⟨[],Nat,λj=>j<=(fF e.k).length,λj=>[⟨23,[],.I j⟩],λj=>[⟨2,[],.cells 64 (xG e (fF e.k) j).av⟩],λj=>(fF e.k).length-j,
  ⟨0,[],bI _,rfl,rfl,rfl,rfl,rfl,nT,?_⟩,?_⟩
 ·exact⟨rfl,eV.refl _,eV.refl _,eV.refl _,eV.refl _,eV.refl _,eV.refl _,eV.refl _,eV.refl _,eV.refl _,eV.refl _,nT,eV.refl _⟩
 intro j L;have L:j<=(fF e.k).length:=L;refine .inl ⟨λg=> ?_,λg=> ?_⟩
 ·have g:=pH g;have g:(j:Int)<(fF e.k).length:=g;have D:(j:Int).toNat=j:=aQ j;have f:=Zi (e:=e) (us:=fF e.k) (j:=j) J;rw[<-D] at f;rw[show(((j:Int).toNat)+1)=j+1 by omega,show xG e (fF e.k) (j:Int).toNat=xG e (fF e.k) j by rw[D]] at f
  repeat apply jL
  refine⟨⟨J,J⟩,?_⟩
  repeat apply jL
  refine⟨λh=> ?_,λE=> ?_⟩
  ·have h:fG ((fF e.k).getD (j:Int).toNat gB) sT=true:=h
   repeat apply jL
   refine⟨j+1,[],jM,jM,rfl,rfl,rfl,rfl,rfl,nV,?_⟩;have c:eN (.cells 64 (xG e (fF e.k) (j+1)).av) (.cells 64 ({xG e (fF e.k) j with t:=e.t}:Ev).av):=by rw[f,show∀o:Ev,wE e o ((fF e.k).getD (j:Int).toNat gB)={o with t:=e.t} from λo=>by unfold wE;rw[aE h]];exact eN.refl _
   exact c
  have E:fG ((fF e.k).getD (j:Int).toNat gB) sT=false:=E;have l: ¬fG ((fF e.k).getD (j:Int).toNat gB) sT=true:=by rw[E];decide
  repeat apply jL
  refine⟨λh=> ?_,λh2=> ?_⟩
  ·have h:fG ((fF e.k).getD (j:Int).toNat gB) sQ=true:=h
   repeat apply jL
   refine⟨j+1,[],jM,jM,rfl,rfl,rfl,rfl,rfl,nV,?_⟩;have c:eN (.cells 64 (xG e (fF e.k) (j+1)).av) (.cells 64 ({xG e (fF e.k) j with q:=e.q}:Ev).av):=by rw[f,show∀o:Ev,wE e o ((fF e.k).getD (j:Int).toNat gB)={o with q:=e.q} from λo=>by unfold wE;rw[aB l,aE h]];exact eN.refl _
   exact c
  have h2:fG ((fF e.k).getD (j:Int).toNat gB) sQ=false:=h2;have z: ¬fG ((fF e.k).getD (j:Int).toNat gB) sQ=true:=jK
  repeat apply jL
  refine⟨λh=> ?_,λF=> ?_⟩
  ·have h:fG ((fF e.k).getD (j:Int).toNat gB) sW=true:=h
   repeat apply jL
   refine⟨j+1,[],jM,jM,rfl,rfl,rfl,rfl,rfl,nV,?_⟩;have c:eN (.cells 64 (xG e (fF e.k) (j+1)).av) (.cells 64 ({xG e (fF e.k) j with w:=e.w}:Ev).av):=by rw[f,show∀o:Ev,wE e o ((fF e.k).getD (j:Int).toNat gB)={o with w:=e.w} from λo=>by unfold wE;rw[aB l,aB z,aE h]];exact eN.refl _
   exact c
  have F:fG ((fF e.k).getD (j:Int).toNat gB) sW=false:=F;have A: ¬fG ((fF e.k).getD (j:Int).toNat gB) sW=true:=by rw[F];decide
  repeat apply jL
  refine⟨λh=> ?_,λG=> ?_⟩
  ·have h:fG ((fF e.k).getD (j:Int).toNat gB) sN=true:=h
   repeat apply jL
   refine⟨j+1,[],jM,jM,rfl,rfl,rfl,rfl,rfl,nV,?_⟩;have c:eN (.cells 64 (xG e (fF e.k) (j+1)).av) (.cells 64 ({xG e (fF e.k) j with n:=e.n}:Ev).av):=by rw[f,show∀o:Ev,wE e o ((fF e.k).getD (j:Int).toNat gB)={o with n:=e.n} from λo=>by unfold wE;rw[aB l,aB z,aB A,aE h]];exact eN.refl _
   exact c
  have G:fG ((fF e.k).getD (j:Int).toNat gB) sN=false:=G;have C: ¬fG ((fF e.k).getD (j:Int).toNat gB) sN=true:=by rw[G];decide
  repeat apply jL
  refine⟨λh=> ?_,λH=> ?_⟩
  ·have h:fG ((fF e.k).getD (j:Int).toNat gB) sX=true:=h
   repeat apply jL
   refine⟨j+1,[],jM,jM,rfl,rfl,rfl,rfl,rfl,nV,?_⟩;have c:eN (.cells 64 (xG e (fF e.k) (j+1)).av) (.cells 64 ({xG e (fF e.k) j with x:=e.x}:Ev).av):=by rw[f,show∀o:Ev,wE e o ((fF e.k).getD (j:Int).toNat gB)={o with x:=e.x} from λo=>by unfold wE;rw[aB l,aB z,aB A,aB C,aE h]];exact eN.refl _
   exact c
  have H:fG ((fF e.k).getD (j:Int).toNat gB) sX=false:=H;have M: ¬fG ((fF e.k).getD (j:Int).toNat gB) sX=true:=by rw[H];decide
  repeat apply jL
  refine⟨λh=> ?_,λK=> ?_⟩
  ·have h:fG ((fF e.k).getD (j:Int).toNat gB) sF=true:=h
   repeat apply jL
   refine⟨j+1,[],jM,jM,rfl,rfl,rfl,rfl,rfl,nV,?_⟩;have c:eN (.cells 64 (xG e (fF e.k) (j+1)).av) (.cells 64 ({xG e (fF e.k) j with fs:=e.fs}:Ev).av):=by rw[f,show∀o:Ev,wE e o ((fF e.k).getD (j:Int).toNat gB)={o with fs:=e.fs} from λo=>by unfold wE;rw[aB l,aB z,aB A,aB C,aB M,aE h]];exact eN.refl _
   exact c
  have K:fG ((fF e.k).getD (j:Int).toNat gB) sF=false:=K;have N: ¬fG ((fF e.k).getD (j:Int).toNat gB) sF=true:=by rw[K];decide
  refine⟨j+1,[],jM,jM,rfl,rfl,rfl,rfl,rfl,nV,?_⟩;have c:eN (.cells 64 (xG e (fF e.k) (j+1)).av) (.cells 64 ((xG e (fF e.k) j):Ev).av):=by rw[f,show∀o:Ev,wE e o ((fF e.k).getD (j:Int).toNat gB)=o from λo=>by unfold wE;rw[aB l,aB z,aB A,aB C,aB M,aB N]];exact eN.refl _
  exact c
 ·have g:=iT g;have g:((fF e.k).length:Int)<=j:=g;obtain rfl:j=(fF e.k).length:=J
  exact⟨rfl,eV.refl (.ag (qY e).av)⟩
def bl (n e:Int):Bool:=decide (0<=n)&&decide (n<e)
def mb (n e:Int):Bool:=(n== -1)||bl n e
def vL (e:Ev):Bool:=
 if e.k=0 then(mb e.t 100000&&mb e.q 100000)&&mb e.w 2000 else if e.k=1\/e.k=2 then bl e.t 100000
 else if e.k=3\/e.k=4 then(bl e.t 100000&&decide (1<=e.n))&&decide (e.n<=100) else if e.k=5\/e.k=7 then bl e.w 2000
 else if e.k=9 then bl e.w 2000&&bl e.n 16 else(e.k==6)||(e.k==8)
theorem Zj (e:Ev):cC 249 [.ag e.av] [] (.b (vL e)):=by
 refine hZ Tryz.func249 [.tmp 2] [] ?_
 repeat apply jL
 refine⟨λh=> ?_,λj=> ?_⟩
 ·have h:(e.k==0)=true:=h;rw[cH] at h
  refine jb (ui e.t 100000) ?_
  refine jc (ui e.q 100000) ?_
  refine jc (ui e.w 2000) ?_;refine RetIs.b ?_;unfold vL;rw[aE h];rfl
 have j:(e.k==0)=false:=j;rw[cE] at j;have x:e.k=1\/e.k=2->vL e=bl e.t 100000:=λh=>by unfold vL;rw[aB j,aE h]
 repeat apply jL
 refine⟨λh=> ?_,λC=> ?_⟩
 ·have f:(e.k==1)=true:=h;rw[cH] at f
  repeat apply jL
  refine⟨λ_=> ?_,λg=> ?_⟩
  ·refine jb (n8 e.t 100000) ?_;exact RetIs.b (x (.inl f)).symm
  ·have g:(e.k==1)=false:=g;rw[cE] at g;exact absurd f g
 have C:(e.k==1)=false:=C;rw[cE] at C
 repeat apply jL
 refine⟨λh=> ?_,λD=> ?_⟩
 ·have f:(e.k==2)=true:=h;rw[cH] at f
  refine jb (n8 e.t 100000) ?_;exact RetIs.b (x (.inr f)).symm
 have D:(e.k==2)=false:=D;rw[cE] at D;have z:e.k=3\/e.k=4->vL e=((bl e.t 100000&&decide (1<=e.n))&&decide (e.n<=100)):=λh=>by unfold vL;rw[aB j,aB J,aE h]
 repeat apply jL
 refine⟨λh=> ?_,λE=> ?_⟩
 ·have f:(e.k==3)=true:=h;rw[cH] at f
  repeat apply jL
  refine⟨λ_=> ?_,λg=> ?_⟩
  ·refine jb (n8 e.t 100000) ?_;exact RetIs.b (z (.inl f)).symm
  ·have g:(e.k==3)=false:=g;rw[cE] at g;exact absurd f g
 have E:(e.k==3)=false:=E;rw[cE] at E
 repeat apply jL
 refine⟨λh=> ?_,λF=> ?_⟩
 ·have f:(e.k==4)=true:=h;rw[cH] at f
  refine jb (n8 e.t 100000) ?_;exact RetIs.b (z (.inr f)).symm
 have F:(e.k==4)=false:=F;rw[cE] at F;have A:e.k=5\/e.k=7->vL e=bl e.w 2000:=λh=>by unfold vL;rw[aB j,aB J,aB J,aE h]
 repeat apply jL
 refine⟨λh=> ?_,λG=> ?_⟩
 ·have f:(e.k==5)=true:=h;rw[cH] at f
  repeat apply jL
  refine⟨λ_=> ?_,λg=> ?_⟩
  ·refine jb (n8 e.w 2000) ?_;exact RetIs.b (A (.inl f)).symm
  ·have g:(e.k==5)=false:=g;rw[cE] at g;exact absurd f g
 have G:(e.k==5)=false:=G;rw[cE] at G
 repeat apply jL
 refine⟨λh=> ?_,λH=> ?_⟩
 ·have f:(e.k==7)=true:=h;rw[cH] at f
  refine jb (n8 e.w 2000) ?_;exact RetIs.b (A (.inr f)).symm
 have H:(e.k==7)=false:=H;rw[cE] at H
 repeat apply jL
 refine⟨λh=> ?_,λl=> ?_⟩
 ·have f:(e.k==9)=true:=h;rw[cH] at f
  refine jb (n8 e.w 2000) ?_
  refine jc (n8 e.n 16) ?_;refine RetIs.b ?_;unfold vL;rw[aB j,aB J,aB J,aB J,aE f];rfl
 have l:(e.k==9)=false:=l;rw[cE] at l;refine RetIs.b ?_;unfold vL;rw[aB j,aB J,aB J,aB J,aB l]
def HC (l:List Int) (i:Nat):Bool:= !bl (l.getD i 0) 1073741825||decide (l.getD i 0∈l.take i)
def uk (l:List Int):Bool:=((List.range l.length).all λi=> !HC l i)&&decide ((l.length:Int)<=4)
theorem E8 {n:Nat} {p:Nat->Bool} {k:Nat} (a:k<n) (h:p k=false):(List.range n).all p=false:=by rw[oQ];exact⟨k,fO.2 a,jR⟩
theorem z1 {n:Nat} {p:Nat->Bool} (h: ∀k,k<n->p k=true):(List.range n).all p=true:=by rw[fU];exact λk a=>h k (fO.1 a)
theorem VC (l:List Int) {k:Nat} (c:k<=l.length):eV (.rs 1 (l.take k).length (rI (l.take k))) (.rs 1 ((k:Int)-0).toNat λq=>rI l (0+q)):=by
 have e:(l.take k).length=k:=jO
 refine⟨rfl,by rw[e];omega,λq a=> ?_⟩;rw[e] at a;unfold rI;simp[List.getD,a]
theorem Zk (l:List Int) (n:l.length<2^62):cC 250 [.rs 1 l.length (rI l)] [] (.b (uk l)):=by
 refine hZ Tryz.func250 [.tmp 2] [] ?_
 repeat apply jL
 refine⟨[],Nat,λk=>k<=l.length/\ ∀j,j<k->HC l j=false,λk=>[⟨7,[],.I k⟩],λ_=>[],λk=>l.length-k,
  na,?_⟩
 rintro k ⟨g,hno⟩;have g:k<=l.length:=g;refine .inl ⟨λf=> ?_,λf=> ?_⟩
 ·have f:=pH f;have f:(k:Int)<l.length:=f;have ek:(k:Int).toNat=k:=aQ k
  repeat apply jL
  refine⟨⟨J,J⟩,?_⟩
  refine jb (n8 _ _) ?_;refine⟨λ_=>⟨J,J,J⟩,?_⟩
  repeat apply jL
  refine⟨[],_,λ_=>j8.of_eq (args:=[.rs 1 (l.take k).length (rI (l.take k)),.I (l.getD (k:Int).toNat 0)]) ⟨VC l g,eV.refl _⟩ (wN (l.take k) jO _),?_⟩;refine jB (!bl (l.getD (k:Int).toNat 0) 1073741825||decide (l.getD (k:Int).toNat 0∈l.take k)) (λh=> ?_) λh=> ?_
  ·rw[ek] at h;refine RetIs.b ?_;unfold uk;rw[E8 (p:=λi=> !HC l i) (k:=k) J (by unfold HC;rw[h];rfl)];rfl
  ·exact mL
 ·have f:=iT f;have f:(l.length:Int)<=k:=f;obtain rfl:k=l.length:=J
  refine RetIs.b ?_;unfold uk;rw[z1 (p:=λi=> !HC l i) λk g=>by rw[hno k g];rfl,oD]
theorem Jv (x y:ByteArray):fG x y=decide (x=y):=by rw[hM,kU,aM]
theorem Jw (a b:Ev) (D:a.cs.length<2^62) (E:b.cs.length<2^62) (F:a.fs.length<2^62) (G:b.fs.length<2^62):cC 251 [.ag a.av,.ag b.av] [] (.b (decide (a=b))):=by
 refine hZ Tryz.func251 [.tmp 4] [] ?_
 refine jc (uj a.cs b.cs D E) ?_
 refine jc (uj a.fs b.fs F G) ?_;refine RetIs.b ?_;rw[Jv,hM];obtain⟨P,Q,R,S,U,W,Y,a8,a9,H,K,L⟩:=a;obtain⟨b1,b2,b3,b4,b5,b6,b7,b8,b9,M,N,O⟩:=b;simp only[aW,cH,aM,Ev.mk.injEq];constructor
 ·rintro⟨⟨⟨⟨⟨⟨⟨⟨⟨⟨⟨j,l⟩,t⟩,w⟩,x⟩,z⟩,A⟩,C⟩,g⟩,e⟩,n⟩,f⟩;exact⟨j,l,n,t,w,x,z,A,C,e,f,g⟩
 ·rintro⟨j,l,n,t,w,x,z,A,C,e,f,g⟩;exact⟨⟨⟨⟨⟨⟨⟨⟨⟨⟨⟨j,l⟩,t⟩,w⟩,x⟩,z⟩,A⟩,C⟩,g⟩,e⟩,n⟩,f⟩
def lZ (e:Ev):Ev:=if e.k=0\/e.k=1 then {e with x:=gB,fs:=[]} else e
theorem bx (e:Ev) (h1:e.cs.length*8<=140737488355328) (h2:e.fs.length*8<=140737488355328):cA 238 [.ag e.av] (.ag (lZ e).av):=by
 refine MX Tryz.func238 [.cell 2 64] [(1000003,[.eq 0 (.cells 64 ({e with x:=gB,fs:=[]}:Ev).av)]),(2000001,[.frz 1 [0]])] ?_;refine aN (eX ?_);refine⟨_,f8 e.cs h1,?_⟩;refine aN (eX ?_);refine⟨_,f8 e.fs h2,?_⟩
 repeat apply jL
 refine jB ((e.k==0)||(e.k==1)) (λh=> ?_) λh=> ?_
 ·rw[eZ,cH,cH] at h
  repeat apply jL
  refine⟨⟨rfl,eV.refl _,eV.refl _,eV.refl _,eV.refl _,eV.refl _,eV.refl _,eV.refl _,eV.refl _,eV.refl _,eV.refl _,nT,eV.refl _⟩,?_⟩;rw[show lZ e={e with x:=gB,fs:=[]} from aE h];exact⟨rfl,eV.refl (.ag ({e with x:=gB,fs:=[]}:Ev).av)⟩
 ·rw[bT,cE,cE] at h;rw[show lZ e=e from aB J];exact⟨rfl,eV.refl (.ag e.av)⟩
theorem HD (e:Ev):(lZ e).cs=e.cs:=by unfold lZ;split<;>rfl
theorem HE (e:Ev):(lZ e).fs.length<=e.fs.length:=by unfold lZ;split<;>simp
def Qj (a b:Ev):Bool:=decide (lZ a=lZ b)
def Ev.fit (e:Ev):Prop:=e.cs.length*8<=140737488355328/\e.fs.length*8<=140737488355328
theorem Ev.fit.bare {e:Ev} (h:e.fit):(lZ e).fit:=by have:=HE e;unfold Ev.fit at*;rw[HD];omega
theorem HF (a b:Ev) (c:a.fit) (e:b.fit):cC 197 [.ag a.av,.ag b.av] [] (.b (Qj a b)):=by
 refine hZ Tryz.func197 [.tmp 4] [(2000001,[.frz 0 [1]])] ?_;have f:=c.bare;have g:=e.bare;unfold Ev.fit at f g;refine aN (eX ?_);refine⟨_,bx a c.1 c.2,?_⟩;refine aN (eX ?_);refine⟨_,bx b e.1 e.2,?_⟩
 repeat apply jL
 refine⟨[],_,Jw (lZ a) (lZ b) J J J J,?_⟩;exact RetIs.b rfl
def aHj (l:List Int) (i:Nat):Bool:= !bl (l.getD i 0) 100000||(decide (0<i)&&decide (l.getD i 0<=l.getD (i-1) 0))
def pp (l:List Int):Bool:=(List.range l.length).all λi=> !aHj l i
def aDm (e:Ev):Bool:=((bl e.a 2000&&bl e.s 100000)&&bl e.g 500)&&bl e.st 1073741825
def qZ (e:Ev):Bool:=pp e.cs&&(((((aDm e&&decide ((e.cs.length:Int)<=8))&&vL e)&&decide ((e.x.size:Int)<=4000))&&uk e.fs)&&decide (e=qY e))
theorem Vg (e o:Ev) (u:ByteArray):(wE e o u).cs=o.cs/\((wE e o u).fs=o.fs\/(wE e o u).fs=e.fs):=by
 unfold wE
 repeat' split
 all_goals first|exact⟨rfl,.inl rfl⟩|exact⟨rfl,.inr rfl⟩
theorem QD (e:Ev) (us:List ByteArray): ∀j,(xG e us j).cs=e.cs/\((xG e us j).fs=[]\/(xG e us j).fs=e.fs):=by
 intro j;unfold xG;have: ∀(l:List ByteArray) (o:Ev),o.cs=e.cs/\(o.fs=[]\/o.fs=e.fs)->(l.foldl (wE e) o).cs=e.cs/\((l.foldl (wE e) o).fs=[]\/(l.foldl (wE e) o).fs=e.fs):=by
  intro l
  induction l with
  |nil=>exact λo h=>h
  |cons u l c=>
   intro o h;refine c _ ⟨(Vg e o u).1.trans h.1,?_⟩;rcases(Vg e o u).2 with a|a
   ·rw[a];exact h.2
   ·exact .inr a
 exact this _ _ ⟨rfl,.inl rfl⟩
theorem um (e:Ev) (A:e.cs.length<2^62) (l:e.fs.length<2^62):cC 185 [.ag e.av] [] (.b (qZ e)):=by
 refine hZ Tryz.func185 [.tmp 2] [(2000008,[.frz 0 [0]])] ?_
 repeat apply jL
 refine⟨[],Nat,λk=>k<=e.cs.length/\ ∀j,j<k->aHj e.cs j=false,λk=>[⟨9,[],.I k⟩],λ_=>[],λk=>e.cs.length-k,
  na,?_⟩
 rintro k ⟨g,t⟩;have g:k<=e.cs.length:=g;refine .inl ⟨λf=> ?_,λf=> ?_⟩
 ·have f:=pH f;have f:(k:Int)<e.cs.length:=f;have H:(k:Int).toNat=k:=aQ k
  repeat apply jL
  refine⟨⟨J,J⟩,?_⟩
  refine jb (n8 _ _) ?_;have n:decide ((k:Int)>0)=true->IntKind.i64.wrap ((k:Int)-1)=((k-1:Nat):Int)/\0<k:=λh=>by have h:=kK h;exact⟨by rw[wr J J];omega,J⟩
  refine⟨λK=> ?_,?_⟩
  ·have:=n K.1;rw[this.1];omega
  have x:(!bl (e.cs.getD (k:Int).toNat 0) 100000||(decide ((k:Int)>0)&&decide (e.cs.getD (k:Int).toNat 0<=e.cs.getD (IntKind.i64.wrap ((k:Int)-1)).toNat 0)))=aHj e.cs k:=by
   unfold aHj;rw[H];cases z:decide ((k:Int)>0) with
   |false=>rw[show decide (0<k)=false from gZ (by have:=sU z;omega)];rfl
   |true=>obtain⟨F,G⟩:=n z;rw[F,aQ,gH G]
  refine⟨λh=> ?_,λh=> ?_⟩
  ·have h:=x.symm.trans h;refine RetIs.b ?_;unfold qZ pp;rw[E8 (p:=λi=> !aHj e.cs i) (k:=k) J (by rw[h];rfl),tK]
  ·have h:=x.symm.trans h;refine⟨k+1,[],⟨J,λj hj=> ?_⟩,jM,rfl,rfl,rfl,rfl,rfl,nV,trivial⟩;by_cases C:j=k
   ·rw[C];exact h
   ·exact t j J
 ·have f:=iT f;have f:(e.cs.length:Int)<=k:=f;obtain rfl:k=e.cs.length:=J
  have w:=QD e (fF e.k) (fF e.k).length;have E:(qY e).fs.length<2^62:=by
   rcases w.2 with h|h
   ·unfold qY;rw[h];decide
   ·unfold qY;rw[h];exact l
  have D:(qY e).cs.length<2^62:=by unfold qY;rw[w.1];exact A
  refine jb (n8 _ _) ?_
  refine jc (n8 _ _) ?_
  refine jc (n8 _ _) ?_
  refine jc (n8 _ _) ?_
  refine jc (Zj e) ?_
  refine jc (Zk e.fs l) ?_;refine eX (aN ?_);refine⟨_,λ_=>HB e,?_⟩
  refine jc (Jw e (qY e) A D l E) ?_;refine RetIs.b ?_;unfold qZ pp;rw[z1 (p:=λi=> !aHj e.cs i) λk g=>by rw[t k g];rfl,oD];rfl
theorem A9 {l:List Int} {k:Nat} (h:k<l.length):l.getD k 0∈l:=by simp[List.getD,h]
theorem Ad {l:List Int} {x:Int} (h:x∈l): ∃j,j<l.length/\l.getD j 0=x:=by obtain⟨j,a,rfl⟩:=cU h;exact⟨j,a,xE a⟩
def Qk (p:Int->Bool) (l:List Int):Int:=match l.findIdx? p with|some k=>k|none=> -1
theorem Zl {p:Int->Bool} {S:List Int} {k:Nat} (a:k<S.length) (c: ∀j,j<k->p (S.getD j 0)=false) (e:p (S.getD k 0)=true):Qk p S=k:=by
 have:S.findIdx? p=some k:=by rw[eW];refine⟨a,by rw[<-xE (d:=0) a];exact e,λj f=> ?_⟩;have:=c j f;rw[xE J] at this;simp[this]
 simp[Qk,this]
theorem Zm {p:Int->Bool} {S:List Int} (c: ∀j,j<S.length->p (S.getD j 0)=false):Qk p S= -1:=by
 have:S.findIdx? p=none:=by
  rw[gF];intro y e;obtain⟨j,a,rfl⟩:=cU e;have:=c j a
  rwa [xE a] at this
 simp[Qk,this]
theorem HG (p:Int->Bool) (l:List Int):decide (Qk p l>=0)=l.any p:=by
 unfold Qk;cases h:l.findIdx? p with
 |none=>
  rw[gF] at h;have:l.any p=false:=jH
  rw[this];rfl
 |some k=>
  rw[eW] at h;obtain⟨a,c,_⟩:=h;have:l.any p=true:=by rw[kC];exact⟨_,fN a,c⟩
  rw[this];simp
theorem Ql (l:List Int) (C:l.length<2^62) (g:FuncId) (n:List AV) (p:Int->Bool) (w: ∀x∈l,cC g [.I x,.rp n] [] (.b (p x))):cC 278 [.rs 1 l.length (rI l),.fn g [.rp n]] [] (.I (Qk p l)):=by
 refine hZ Tryz.func278 [.tmp 4] [] ?_
 repeat apply jL
 refine⟨[],Nat,λk=>k<=l.length/\ ∀j,j<k->p (l.getD j 0)=false,λk=>[⟨8,[],.I k⟩],λ_=>[],λk=>l.length-k,
  na,?_⟩
 rintro k ⟨t,hno⟩;have t:k<=l.length:=t;refine .inl ⟨λf=> ?_,λf=> ?_⟩
 ·have f:=pH f;have f:(k:Int)<l.length:=f;have ek:(k:Int).toNat=k:=aQ k;have z:=w _ (A9 (l:=l) (k:=(k:Int).toNat) J)
  repeat apply jL
  refine⟨⟨J,J⟩,?_⟩
  refine jb z ?_;refine jB (p (l.getD (k:Int).toNat 0)) (λh=> ?_) λh=> ?_
  ·rw[ek] at h;exact RetIs.i (Zl J hno h).symm
  ·exact mL
 ·have f:=iT f;have f:(l.length:Int)<=k:=f;obtain rfl:k=l.length:=J
  exact RetIs.i (Zm hno).symm
theorem Ej (l:List Int) (g:l.length<2^62) (e:FuncId) (f:List AV) (p:Int->Bool) (j: ∀x∈l,cC e [.I x,.rp f] [] (.b (p x))):cC 240 [.rs 1 l.length (rI l),.fn e [.rp f]] [] (.b (l.any p)):=by
 refine hZ Tryz.func240 [.tmp 4] [] ?_
 refine jb (Ql l g e f p j) ?_;exact RetIs.b (HG _ _)
def VD (p:Int->Bool) (S:List Int):List Int:=S.filter λk=> !p k
def okL (l:List Ev):Prop:= ∀e∈l,e.cs.length<2^62/\e.fs.length<2^62
theorem O0 {l:List Ev} {k:Nat} (h:k<l.length):l.getD k dE∈l:=by simp[List.getD,h]
section
variable {α B : Type} [DecidableEq α]
theorem QE {L:List (α×B)} {k:α} {c v:B} (d:α×B) (h:hU L k=some c): ∃i,i<L.length/\(L.getD i d).1=k/\(L.getD i d).2=c/\(kE L k v).length=L.length/\
  ∀j,j<L.length->((kE L k v).getD j d).1=(L.getD j d).1/\((kE L k v).getD j d).2=if j=i then v else(L.getD j d).2:=by
 induction L with
 |nil=>cases h
 |cons p r n=>
  unfold hU at h;split at h
  ·rename_i he;refine⟨0,jS,jE,jH,?_,λj hj=> ?_⟩
   ·unfold kE;rw[aE he];simp
   ·unfold kE;rw[aE he];cases j with
    |zero=>simp[he]
    |succ j=>simp
  ·rename_i a;obtain⟨i,h1,h2,h3,g,l⟩:=n h;refine⟨i+1,j1,j2,j3,?_,λj hj=> ?_⟩
   ·unfold kE;rw[aB a];simp[g]
   ·unfold kE;rw[aB a];cases j with
    |zero=>simp
    |succ j=>obtain⟨e,f⟩:=l j jT;simp only[lU,rR];exact⟨e,f⟩
theorem aIx {L:List (α×B)} {k:α} {v:B} (h:hU L k=none):kE L k v=L++[(k,v)]:=by
 induction L with
 |nil=>rfl
 |cons p r c=>
  unfold hU at h;split at h
  ·cases h
  ·rename_i a;unfold kE;rw[aB a,c h];rfl
def mrL (kf:α->AV) (vf:B->KD) (d:α×B) (L:List (α×B)) (x:Nat):AO:= .mr L.length (λi=>kf (L.getD i d).1) (λi=>vf (L.getD i d).2) (λi=>i) L.length x none
end
def qJ:Int×List Int:=(0,[])
def dD:Int×Bool:=(0,false)
def Ek (L:List (Int×List Int)) (p:Ev×Nat):List (Int×List Int):=kE L p.1.a ((hU L p.1.a).getD []++[(p.2:Int)])
def jN (E:List Ev):List (Int×List Int):=E.zipIdx.foldl Ek []
theorem jd (E:List Ev) (e:Ev):jN (E++[e])=kE (jN E) e.a ((hU (jN E) e.a).getD []++[(E.length:Int)]):=by unfold jN;rw[List.zipIdx_append,iQ];simp[Ek]
def mT (E:List Ev) (a:Int):List Int:=(hU (jN E) a).getD []
theorem U5 (E:List Ev) (e:Ev) (a:Int):mT (E++[e]) a=if a=e.a then mT E a++[(E.length:Int)] else mT E a:=by
 unfold mT;rw[jd,rK];split
 ·rename_i h;rw[h];rfl
 ·rfl
def Vh (L:List (Int×Bool)) (e:Ev):List (Int×Bool):=if e.k=2 then kE L e.t true else L
def B0 (E:List Ev):List (Int×Bool):=E.foldl Vh []
theorem je (E:List Ev) (e:Ev):B0 (E++[e])=if e.k=2 then kE (B0 E) e.t true else B0 E:=by unfold B0;rw[iQ];rfl
def i7 (E:List Ev) (t:Int):Bool:=E.any λe=>(e.k==2)&&(e.t==t)
theorem bz {α:Type} {p:List α->Prop} (c:p []) (f: ∀l x,p l->p (l++[x])) (l:List α):p l:=by
 have: ∀n (l:List α),l.length=n->p l:=by
  intro n
  induction n with
  |zero=>intro l h;rw[wP.1 h];exact c
  |succ n g=>
   intro l h;have a:l≠[]:=by intro e;rw[e] at h;simp at h
   rw[<-pG a];exact f _ _ (g _ (by simp[h]))
 exact this _ l rfl
theorem Zn (E:List Ev) (e:Ev) (t:Int):i7 (E++[e]) t=(i7 E t||((e.k==2)&&(e.t==t))):=by unfold i7;rw[sO];simp
theorem HH (E:List Ev) (t:Int):(hU (B0 E) t).getD false=i7 E t:=by
 refine bz (p:=λE=>(hU (B0 E) t).getD false=i7 E t) rfl (λE e f=> ?_) E;rw[je,Zn];by_cases a:e.k=2
 ·rw[aE a,rK,a];by_cases c:t=e.t
  ·rw[aE c,c];simp
  ·rw[aB c,f];have:(e.t==t)=false:=by simpa using iS c
   rw[this];simp
 ·rw[aB a,f];have:(e.k==2)=false:=by simpa using a
  rw[this];simp
theorem U6 (E:List Ev) (a:Int):(∀x∈mT E a,0<=x/\x<E.length/\(E.getD x.toNat dE).a=a)/\(mT E a).Pairwise (· < ·)/\ ∀k,k<E.length->(E.getD k dE).a=a->(k:Int)∈mT E a:=by
 refine bz (p:=λE=>(∀x∈mT E a,0<=x/\x<E.length/\(E.getD x.toNat dE).a=a)/\(mT E a).Pairwise (· < ·)/\ ∀k,k<E.length->(E.getD k dE).a=a->(k:Int)∈mT E a) ⟨λx c=>(by cases c),List.Pairwise.nil,λk g=>absurd g (dU k)⟩ (λE e ⟨q,t,C⟩=> ?_) E;have hold: ∀x∈mT E a,0<=x/\x<(E++[e]).length/\((E++[e]).getD x.toNat dE).a=a:=λx c=>by obtain⟨z,D,A⟩:=q x c;refine⟨z,by rw[bD];simp;omega,?_⟩;rw[m0,aE J];exact A
 have n: ∀k,k<(E++[e]).length->((E++[e]).getD k dE).a=a->(k<E.length/\(k:Int)∈mT E a)\/(k=E.length/\e.a=a):=λk g f=>by
  rw[bD,cD] at g;rw[m0] at f;by_cases l:k<E.length
  ·rw[aE l] at f;exact .inl ⟨l,C k l f⟩
  ·rw[aB l,aE J] at f;exact .inr ⟨J,f⟩
 rw[U5];by_cases j:a=e.a
 ·rw[aE j];refine⟨λx c=> ?_,?_,λk g f=> ?_⟩
  ·rcases cR.1 c with c|c
   ·exact hold x c
   ·rw[bV] at c;subst c;refine⟨J,by rw[bD,cD];omega,?_⟩;rw[aQ,m0,aB J,aE rfl];exact j.symm
  ·rw[uD];refine⟨t,sH _ _,λx c y w=> ?_⟩;rw[bV] at w;rw[w];exact(q x c).2.1
  ·rcases n k g f with ⟨_,h⟩|⟨h,_⟩
   ·exact iE _ h
   ·rw[h];exact tL _ jS
 ·rw[aB j];refine⟨hold,t,λk g f=> ?_⟩;rcases n k g f with ⟨_,h⟩|⟨_,h⟩
  ·exact h
  ·exact absurd h.symm j
theorem Vi {l:List Int} {n:Nat} (h:l.Pairwise (· < ·)) (c: ∀x∈l,0<=x/\x<n):l.length<=n:=by
 have q: ∀(l:List Int) (a:Int),l.Pairwise (· < ·)->(∀x∈l,a<=x/\x<n)->l≠[]->a+l.length<=n:=by
  intro l
  induction l with
  |nil=>intro a _ _ h;exact absurd rfl h
  |cons x r t=>
   intro a e c _;rw[jP] at e;have w:=c x jS;cases g:r with
   |nil=>simp;omega
   |cons y s=>have:=t (x+1) e.2 (λz j=>⟨by have:=e.1 z j;omega,(c z (by simp[j])).2⟩) (by rw[g];simp);rw[g] at this;simp at this|-;omega
 by_cases f:l=[]
 ·rw[f];exact bI _
 ·have:=q l 0 h c f;omega
def cvX (E:List Ev) (x y:AV):List AV:=[.rs 12 E.length (rE E),x,y]
theorem Jx (E:List Ev) (o d:AV) (x:Int):cC 264 [.I x,.rp [.rp (cvX E o d)]] [] (.b (decide (x>=(E.length:Int)))):=by refine hZ Tryz.func264 [.tmp 3] [] ?_;exact RetIs.b rfl
def i9 (E:List Ev) (e:Ev):Bool:=(e.t::e.q::e.cs).any λx=>decide (x>=(E.length:Int))
theorem HI (x y:Int) (l:List Int): ∀k,k<(x::y::l).length->iJ 2 (kJ 1 [.I x,.I y]) (rI l) k=rI (x::y::l) k:=by
 intro k a;unfold iJ
 match k with
 |0=>rfl
 |1=>rfl
 |k+2=>rw[aB J];rfl
theorem uo (E:List Ev) (o d:AV) (e:Ev) (f:e.cs.length<=100):cC 198 [.rp (cvX E o d),.ag e.av] [] (.b (i9 E e)):=by
 refine hZ Tryz.func198 [.tmp 4] [] ?_
 repeat apply jL
 refine⟨oJ J,?_⟩;refine eX ?_;refine⟨[],_,j8.of_eq (args:=[.rs 1 (e.t::e.q::e.cs).length (rI (e.t::e.q::e.cs)),.fn 264 [.rp [.rp (cvX E o d)]]]) ⟨⟨rfl,?_,?_⟩,eV.refl _⟩ (Ej (e.t::e.q::e.cs) jO 264 _ _ (λx _=>Jx E o d x)),?_⟩
 ·show 2+_=_;simp;omega
 ·exact λk c=>HI _ _ _ k c
 ·exact RetIs.b rfl
def aDn (E:List Ev) (e:Ev):List Int:=(e.t::e.q::e.cs)++(if e.s>0 then [(mT E e.a).getD (e.s-1).toNat 0] else [])
def Qm (E:List Ev) (e:Ev):List Int:=VD (λx=>decide (x<0)) (aDn E e)
theorem Q8 {n:Nat} {g:Nat->Int}:v9 T 3 n λi=> .I (g i):=λ_ _=>rfl
theorem QF (e o:Ev):wE e o sT={o with t:=e.t}:=by unfold wE;rw[aE (kU.2 rfl)]
theorem aFq: ¬fG sQ sT=true:=λh=>absurd (kU.1 h) jD
theorem aFr (e o:Ev):wE e o sQ={o with q:=e.q}:=by unfold wE;rw[aB aFq,aE (kU.2 rfl)]
theorem aFs: ¬fG sW sT=true:=λh=>absurd (kU.1 h) jD
theorem aFt: ¬fG sW sQ=true:=λh=>absurd (kU.1 h) jD
theorem YL (e o:Ev):wE e o sW={o with w:=e.w}:=by unfold wE;rw[aB aFs,aB aFt,aE (kU.2 rfl)]
theorem aFu: ¬fG sN sT=true:=λh=>absurd (kU.1 h) jD
theorem aFv: ¬fG sN sQ=true:=λh=>absurd (kU.1 h) jD
theorem aFw: ¬fG sN sW=true:=λh=>absurd (kU.1 h) jD
theorem aDo (e o:Ev):wE e o sN={o with n:=e.n}:=by unfold wE;rw[aB aFu,aB aFv,aB aFw,aE (kU.2 rfl)]
theorem aFx: ¬fG sX sT=true:=λh=>absurd (kU.1 h) jD
theorem aFy: ¬fG sX sQ=true:=λh=>absurd (kU.1 h) jD
theorem aFz: ¬fG sX sW=true:=λh=>absurd (kU.1 h) jD
theorem aG0: ¬fG sX sN=true:=λh=>absurd (kU.1 h) jD
theorem aDp (e o:Ev):wE e o sX={o with x:=e.x}:=by unfold wE;rw[aB aFx,aB aFy,aB aFz,aB aG0,aE (kU.2 rfl)]
theorem aG1: ¬fG sF sT=true:=λh=>absurd (kU.1 h) jD
theorem aG2: ¬fG sF sQ=true:=λh=>absurd (kU.1 h) jD
theorem aG3: ¬fG sF sW=true:=λh=>absurd (kU.1 h) jD
theorem aG4: ¬fG sF sN=true:=λh=>absurd (kU.1 h) jD
theorem aG5: ¬fG sF sX=true:=λh=>absurd (kU.1 h) jD
theorem VE (e o:Ev):wE e o sF={o with fs:=e.fs}:=by unfold wE;rw[aB aG1,aB aG2,aB aG3,aB aG4,aB aG5,aE (kU.2 rfl)]
theorem HJ {e:Ev} (h:e.k=0):qY e={e with n:=0}:=by unfold qY xG fF;rw[aE h];simp only[eJ,gK,pE,QF,aFr,YL,aDp,VE]
theorem Qn {e:Ev} (h:e.k=1):qY e={e with q:= -1,w:= -1,n:=0}:=by unfold qY xG fF;rw[aB J,aE h];simp only[eJ,gK,pE,QF,aDp,VE]
theorem YM {e:Ev} (h:e.k=2):qY e={e with q:= -1,w:= -1,n:=0,x:=gB,fs:=[]}:=by unfold qY xG fF;rw[aB J,aB J,aE h];simp only[eJ,gK,pE,QF]
theorem QG {e:Ev} (h:e.k=3\/e.k=4):qY e={e with q:= -1,w:= -1,x:=gB,fs:=[]}:=by unfold qY xG fF;rw[aB J,aB J,aB J,aE h];simp only[eJ,gK,pE,QF,aDo]
theorem QH {e:Ev} (h:e.k=5\/e.k=7):qY e={e with t:= -1,q:= -1,n:=0,x:=gB,fs:=[]}:=by unfold qY xG fF;rw[aB J,aB J,aB J,aB J,aE h];simp only[eJ,gK,pE,YL]
theorem YN {e:Ev} (h:e.k=9):qY e={e with t:= -1,q:= -1,x:=gB,fs:=[]}:=by unfold qY xG fF;rw[aB J,aB J,aB J,aB J,aB J,aE h];simp only[eJ,gK,pE,YL,aDo]
theorem QJ {e:Ev} (h:e.k=6\/e.k=8):qY e={e with t:= -1,q:= -1,w:= -1,n:=0,x:=gB,fs:=[]}:=by unfold qY xG fF;rw[aB J,aB J,aB J,aB J,aB J,aB J];simp only[eJ,pE]
theorem HK {e:Ev} (h:vL e=true):0<=e.k/\e.k<=9:=by
 by_cases a:e.k=0
 ·omega
 by_cases c:e.k=1\/e.k=2
 ·omega
 by_cases f:e.k=3\/e.k=4
 ·omega
 by_cases g:e.k=5\/e.k=7
 ·omega
 by_cases j:e.k=9
 ·omega
 unfold vL at h;rw[aB a,aB c,aB f,aB g,aB j,eZ,cH,cH] at h;omega
structure Rt (e:Ev):Prop where
 t: -1<=e.t
 q: -1<=e.q
 s:0<=e.s/\e.s<100000
 a:0<=e.a/\e.a<2000
 k:0<=e.k/\e.k<=9
 cs:e.cs.length<=8/\ ∀c∈e.cs,0<=c
 fs:e.fs.length<=4
 x:e.x.size<=4000
 del:e.k=2->0<=e.t
 qpost:e.k≠0->e.q= -1
 sp:e=qY e
theorem B1 {e:Ev} (h:qZ e=true):Rt e:=by
 unfold qZ aDm bl at h;simp only[aW,aM] at h;obtain⟨w,⟨⟨⟨⟨⟨⟨⟨O,Q⟩,P⟩,N⟩,M⟩,f⟩,R⟩,z⟩,a⟩:=h;have L:=HK f;have E:e.fs.length<=4:=by unfold uk at z;rw[aW,aM] at z;omega
 have D: ∀c∈e.cs,0<=c:=λc C=>by obtain⟨j,K,rfl⟩:=Ad C;unfold pp at w;rw[fU] at w;have:=w j (fO.2 K);unfold aHj bl at this;rw[dQ,bT,hV,aW,aM] at this;exact this.1.1
 have l:(-1<=e.t/\ -1<=e.q)/\(e.k=2->0<=e.t)/\(e.k≠0->e.q= -1):=by
  unfold vL mb bl at f;by_cases n:e.k=0
  ·rw[aE n] at f;simp only[aW,eZ,cH,aM] at f;exact⟨J,λh=>J,λh=>absurd n h⟩
  by_cases g:e.k=1\/e.k=2
  ·rw[aB n,aE g] at f;simp only[aW,aM] at f;have x:e.q= -1:=by
    rcases g with g|g
    ·rw[Qn g] at a;rw[a]
    ·rw[YM g] at a;rw[a]
   exact⟨J,λ_=>J,λ_=>x⟩
  by_cases A:e.k=3\/e.k=4
  ·rw[aB n,aB g,aE A] at f;simp only[aW,aM] at f;have x:e.q= -1:=by rw[QG A] at a;rw[a]
   exact⟨J,λ_=>J,λ_=>x⟩
  have F:e.t= -1/\e.q= -1:=by
   by_cases G:e.k=5\/e.k=7
   ·rw[QH G] at a;rw[a];exact nT
   by_cases H:e.k=9
   ·rw[YN H] at a;rw[a];exact nT
   ·rw[QJ J] at a;rw[a];exact nT
  exact⟨J,λ_=>J,λ_=>F.2⟩
 exact⟨l.1.1,l.1.2,J,J,L,⟨J,D⟩,E,J,l.2.1,l.2.2,a⟩
theorem Rt.fit {e:Ev} (h:Rt e):e.fit:=by have a:=h.cs.1;have c:=h.fs;unfold Ev.fit;omega
def u5 (E:List Ev) (e:Ev) (x:Int):Bool:=(x != -1)&&(((E.getD x.toNat dE).k !=0)||((E.getD x.toNat dE).g !=e.g))
def oA (E:List Ev) (e:Ev):List Ev×(Int×Int):=
 if qZ e=false then(E,(0,2))
 else if e.s<(mT E e.a).length then(if Qj (E.getD ((mT E e.a).getD e.s.toNat 0).toNat dE) e=false then(E,(0,5)) else(E,((mT E e.a).getD e.s.toNat 0,0)))
 else if(decide (e.s>(mT E e.a).length)||i9 E e)=true then(E,(0,14))
 else if(u5 E e e.t||u5 E e e.q)=true then(E,(0,4))
 else if(i7 E e.t||i7 E e.q)=true then(E,(0,7))
 else if E.length>=100000 then(E,(0,6)) else(E++[e],((E.length:Int),0))
def j0 (E:List Ev):AO:= .row 64 12 E.length (rE E)
def u6 (E:List Ev) (x:Nat):AO:=mrL (λa=> .I a) (λl=> .row 3 1 l.length (rI l)) qJ (jN E) x
def l4 (E:List Ev):AO:=Dc (λa=> .I a) (λb=> .b b) dD (B0 E)
abbrev cvI (E:List Ev):List AO:=[.cells 317 [.so 1,.mo 2,.mo 4],j0 E,u6 E 3,.dead,l4 E]
abbrev cvO (E:List Ev):List AO:=[.cells 317 [.so 5,.mo 2,.mo 4],.dead,u6 E 6,.dead,l4 E]
abbrev cvN (E:List Ev):List AO:=[j0 E,.dead]
def CP (E:List Ev):Prop:=E.length<=100000/\ ∀e∈E,Rt e
theorem eN.own (E:List Ev) (x:Nat):eN (u6 E x) (u6 E x):=⟨rfl,rfl,rfl,rfl,λ_ _=>⟨rfl,A5.refl _,rfl⟩⟩
theorem ca (E:List Ev) (t:Int):k4 (B0 E).length (λi=> .I ((B0 E).getD i dD).1) (λi=> .b ((B0 E).getD i dD).2) (.I t) (.b (i7 E t)) (.b false) (hU (B0 E) t).isSome:=by
 have:=lK (kf:=λa=> .I a) (vf:=λb:Bool=>AV.b b) (d:=dD) (L:=B0 E) sD t false
 rwa [HH] at this
theorem B2 (E:List Ev) (e:Ev):eN (j0 (E++[e])) (.row 64 12 (E.length+1) (iJ E.length (rE E) (kJ 12 e.av))):=by
 refine⟨rfl,rfl,jS,λk a=> ?_⟩;unfold iJ rE;by_cases h:k<E.length
 ·rw[aE h,m0,aE h]
 ·have:k=E.length:=by rw[bD,cD] at a;omega
  subst this;rw[aB h,m0,aB h,aE rfl];simp;rfl
theorem Zo (l:List Int) (x:Int):A5 (.row 3 1 (l.length+1) (iJ l.length (rI l) (kJ 1 [.I x]))) (.row 3 1 (l++[x]).length (rI (l++[x]))):=by
 refine⟨rfl,rfl,jS,λk a=> ?_⟩;have a:k<l.length+1:=a;unfold iJ rI;by_cases h:k<l.length
 ·rw[aE h,m0,aE h]
 ·have:k=l.length:=J
  subst this;rw[aB h,m0,aB h,aE rfl];simp;rfl
theorem Jy (x y:Int):eN (.row 3 1 2 (rI [x,y])) (.row 3 1 2 (kJ 1 [.I x,.I y])):=by
 refine⟨rfl,rfl,rfl,λk a=> ?_⟩
 match k,a with
 |0,_=>rfl
 |1,_=>rfl
theorem Jz (E:List Ev) (e:Ev) (h:e.k=2):eN (l4 (E++[e])) (Dc (λa=> .I a) (λb=> .b b) dD (kE (B0 E) e.t true)):=by unfold l4;rw[je,aE h];exact eN.refl _
theorem Ae (E:List Ev) (e:Ev) (h: ¬e.k=2):eN (l4 (E++[e])) (l4 E):=by unfold l4;rw[je,aB h];exact eN.refl _
theorem QK {E:List Ev} {e:Ev} (h:hU (jN E) e.a=none):(jN (E++[e])).length=(jN E).length+1/\(∀j,j<(jN E).length->(jN (E++[e])).getD j qJ=(jN E).getD j qJ)/\(jN (E++[e])).getD (jN E).length qJ=(e.a,[(E.length:Int)]):=by
 rw[jd,aIx h,h];refine⟨jS,λj c=> ?_,?_⟩
 ·rw[m0,aE c]
 ·rw[m0,aB (oB _),aE rfl];rfl
theorem QL {E:List Ev} {e:Ev} {own:List Int} (h:hU (jN E) e.a=some own): ∃i,i<(jN E).length/\((jN E).getD i qJ).1=e.a/\((jN E).getD i qJ).2=own/\(jN (E++[e])).length=(jN E).length/\
  ∀j,j<(jN E).length->((jN (E++[e])).getD j qJ).1=((jN E).getD j qJ).1/\((jN (E++[e])).getD j qJ).2=if j=i then own++[(E.length:Int)] else((jN E).getD j qJ).2:=by
 rw[jd,h];exact QE qJ h
theorem YO (E:List Ev) (hE:CP E) (e:Ev) (h1:e.cs.length<2^62) (h2:e.fs.length<2^62) (C:hU (jN E) e.a=none):
  cM 113 true [.cells 317 [.so 1,.mo 2,.mo 4],j0 E,u6 E 3,.dead,l4 E] [.p 0 0,.ag e.av] (λ_:Unit=>True) (λ_=>cvO (oA E e).1) (λ_=>cvN (oA E e).1) (λ_=> .tup [.I (oA E e).2.1,.I (oA E e).2.2]):=by
 have W:mT E e.a=[]:=by unfold mT;rw[C];rfl
 refine sE Tryz.func113 [.tmp 4,.tmp 5] [(3,[.take 2]),(1000010,[.eq 6 (.row 3 1 2 (rI [e.t,e.q]))]),(999999,[.put 2,.nx 2,.mvc 0 0]),(2000021,[.frz 1 [0]]),(2000022,[.frz 1 [0,5]])] ?_
 refine jb (um e h1 h2) ?_;refine jB (!qZ e) (λh=> ?_) λh=> ?_
 ·exact mM
 rw[hV] at h;have g:=B1 h;have n: ¬qZ e=false:=jR
 have a5:=hE.1;refine aN ?_;refine⟨false,⟨Q8,rfl,λi N K=>xY C qJ i N (sD _ _ K)⟩,?_⟩
 repeat apply jL
 refine⟨λhs=> ?_,λ_=> ?_⟩
 ·have hs:decide (e.s<0)=true:=hs;rw[aM] at hs;have:=g.s;omega
 have l: ¬e.s<(mT E e.a).length:=by rw[W];have:=g.s;simp;omega
 have Y:((mT E e.a).length:Int)=0:=by rw[W];rfl
 repeat apply jL
 refine⟨[],_,λ_=>uo E _ _ e (by have:=g.cs.1;omega),?_⟩;refine jB (decide (e.s>0)||i9 E e) (λO=> ?_) λO=> ?_
 ·have hA:oA E e=(E,(0,14)):=by unfold oA;rw[aB n,aB l,aE (by rw[Y];exact O)]
  rw[hA];refine⟨⟨(),[(5,7),(6,6)],trivial,nW,rfl,λh=>jC⟩⟩
 have z: ¬(decide (e.s>(mT E e.a).length)||i9 E e)=true:=by rw[Y,O];decide
 have H:i9 E e=false:=by rw[bT] at O;exact O.2
 have F: ∀x,x=e.t\/x=e.q->x≠ -1->0<=x/\x<E.length:=λx F hn=>by unfold i9 at H;rw[fH] at H;have h3:=g.t;have h4:=g.q;have h5:=H x (by rcases F with rfl|rfl<;>simp);rw[aM] at h5;rcases F with rfl|rfl<;>omega
 repeat apply jL
 refine⟨Jy e.t e.q,?_⟩
 repeat apply jL
 refine⟨[],Nat,λj=>j<=2/\(1<=j->u5 E e e.t=false)/\(2<=j->u5 E e e.q=false),λj=>[⟨60,[],.I j⟩],λ_=>[],λj=>2-j,
  ⟨0,[],⟨J,λh=>J,λh=>J⟩,rfl,rfl,rfl,rfl,rfl,nT,trivial⟩,?_⟩
 rintro j ⟨f,hj1,a2⟩;have f:j<=2:=f;refine .inl ⟨λhc=> ?_,λhc=> ?_⟩
 ·have hc:=pH hc;have hc:(j:Int)<(2:Nat):=hc;have ej:(j:Int).toNat=j:=aQ j;have eM:[e.t,e.q].getD (j:Int).toNat 0=e.t\/[e.t,e.q].getD (j:Int).toNat 0=e.q:=by
   rw[ej]
   match j,hc with
   |0,_=>exact .inl rfl
   |1,_=>exact .inr rfl
   |j+2,h=>omega
  have a4:=F _ eM;have D:(([e.t,e.q].getD (j:Int).toNat 0) != -1)=true->0<=[e.t,e.q].getD (j:Int).toNat 0/\[e.t,e.q].getD (j:Int).toNat 0<E.length:=λh=>a4 (by rw[lM] at h;exact h)
  repeat apply jL
  refine⟨⟨J,J⟩,J,?_⟩;refine⟨λM=>D M.1,λM=>by have:=D M.1;omega,?_⟩;refine⟨λM=>D M.2.1,λM=>by have:=D M.2.1;omega,?_⟩;refine jB (u5 E e ([e.t,e.q].getD (j:Int).toNat 0)) (λhb=> ?_) λhb=> ?_
  ·have hA:oA E e=(E,(0,4)):=by
    unfold oA;rw[aB n,aB l,aB z,aE ?_];rcases eM with h|h<;>rw[h] at hb<;>rw[hb]
    ·rfl
    ·rw[p3]
   rw[hA];refine⟨⟨(),[(5,8),(6,7)],trivial,nW,rfl,λh=>jC⟩⟩
  ·exact mU
 have hc: ¬(j:Int)<(2:Nat):=by have:=hc;rw[bH] at this;exact this
 have ee:j=2:=J
 subst ee;have a1:=hj1 J;have a0:=a2 J;have G: ¬(u5 E e e.t||u5 E e e.q)=true:=by rw[a1,a0];decide
 repeat apply jL
 refine⟨_,_,⟨Q8,rfl,ca E e.t⟩,?_⟩;refine⟨_,_,λ_=>⟨Q8,rfl,ca E e.q⟩,?_⟩;refine jB (i7 E e.t||i7 E e.q) (λhd=> ?_) λhd=> ?_
 ·have hA:oA E e=(E,(0,7)):=by unfold oA;rw[aB n,aB l,aB z,aB G,aE hd]
  rw[hA];refine⟨⟨(),[(5,8),(6,7)],trivial,nW,rfl,λh=>jC⟩⟩
 have U: ¬(i7 E e.t||i7 E e.q)=true:=by rw[hd];decide
 repeat apply jL
 refine jB (decide ((E.length:Int)>=100000)) (λhn=> ?_) λhn=> ?_
 ·rw[aM] at hn;have hA:oA E e=(E,(0,6)):=by unfold oA;rw[aB n,aB l,aB z,aB G,aB U,aE J]
  rw[hA];refine⟨⟨(),[(5,8),(6,7)],trivial,nW,rfl,λh=>jC⟩⟩
 rw[bH] at hn;have hA:oA E e=(E++[e],((E.length:Int),0)):=by unfold oA;rw[aB n,aB l,aB z,aB G,aB U,aB J]
 rw[hA];have a6:=g.cs.1;have a7:=g.fs;refine aN (eX ?_);refine⟨_,ja e J J,?_⟩;refine⟨oJ J,?_⟩;obtain⟨Q,R,S⟩:=QK C;have aZ: ∀j,j<(jN E).length->AV.I ((jN (E++[e])).getD j qJ).1=AV.I ((jN E).getD j qJ).1:=λj f=>by rw[R j f]
 have a3:AV.I ((jN (E++[e])).getD (jN E).length qJ).1=AV.I e.a:=by rw[S]
 refine⟨jD,?_⟩;refine⟨(jN E).length+1,λj=> .I ((jN (E++[e])).getD j qJ).1,λj=>j,(jN E).length+1,(jN E).length,⟨Q8,rfl,rfl,.inr ⟨rfl,λi N K=>xY C qJ i N (sD _ _ K),rfl,rfl,rfl,λj f=>⟨aZ j f,rfl⟩,a3,rfl⟩⟩,?_⟩;have hq:A5 (.row 3 1 1 (kJ 1 [.I (E.length:Int)])) (.row 3 1 ((jN (E++[e])).getD (jN E).length qJ).2.length (rI ((jN (E++[e])).getD (jN E).length qJ).2)):=by
  rw[S];refine⟨rfl,rfl,rfl,λk w=> ?_⟩
  match k,w with
  |0,_=>rfl
 have cX: ∀j,j<(jN E).length+1->j≠(jN E).length->KD.row 3 1 ((jN (E++[e])).getD j qJ).2.length (rI ((jN (E++[e])).getD j qJ).2)= .row 3 1 ((jN E).getD j qJ).2.length (rI ((jN E).getD j qJ).2):=λj f a8=>by rw[R j J]
 have P:eN (u6 (E++[e]) 12) (.mr ((jN E).length+1) (λj=> .I ((jN (E++[e])).getD j qJ).1) (λj=> .row 3 1 ((jN (E++[e])).getD j qJ).2.length (rI ((jN (E++[e])).getD j qJ).2)) (λi=>i) ((jN E).length+1) 12 none):=
  ⟨Q.symm,Q.symm,rfl,rfl,λj f=>⟨rfl,A5.refl _,rfl⟩⟩
 repeat apply jL
 refine jB (decide (e.k=2)) (λw=> ?_) λw=> ?_
 ·rw[aM] at w;refine⟨_,_,_,_,_,⟨Q8,rfl,lJ (L:=B0 E) (d:=dD) (vf:=λb:Bool=>AV.b b) sD e.t true⟩,?_⟩;refine⟨λj=> .row 3 1 ((jN (E++[e])).getD j qJ).2.length (rI ((jN (E++[e])).getD j qJ).2),⟨cX,hq,rfl⟩,?_⟩;refine⟨⟨(),[(5,13),(6,12)],trivial,⟨nR,⟨nZ,nS,⟨rfl,rfl,rfl,P⟩,nS,⟨rfl,rfl,trivial,Jz E e w⟩,⟨rfl,rfl,trivial,B2 E e⟩,nS,trivial⟩,rfl⟩,rfl,λh=>jC⟩⟩
 ·rw[bH] at w;refine⟨λj=> .row 3 1 ((jN (E++[e])).getD j qJ).2.length (rI ((jN (E++[e])).getD j qJ).2),⟨cX,hq,rfl⟩,?_⟩;refine⟨⟨(),[(5,13),(6,12)],trivial,⟨nR,⟨nZ,nS,⟨rfl,rfl,rfl,P⟩,nS,⟨rfl,rfl,trivial,Ae E e w⟩,⟨rfl,rfl,trivial,B2 E e⟩,nS,trivial⟩,rfl⟩,rfl,λh=>jC⟩⟩
theorem QM (E:List Ev) (P:CP E) (e:Ev) (h1:e.cs.length<2^62) (h2:e.fs.length<2^62) (own:List Int) (U:hU (jN E) e.a=some own):
  cM 113 true [.cells 317 [.so 1,.mo 2,.mo 4],j0 E,u6 E 3,.dead,l4 E] [.p 0 0,.ag e.av] (λ_:Unit=>True) (λ_=>cvO (oA E e).1) (λ_=>cvN (oA E e).1) (λ_=> .tup [.I (oA E e).2.1,.I (oA E e).2.2]):=by
 have D:mT E e.a=own:=by unfold mT;rw[U];rfl
 obtain⟨i,hi,aU,hval,K,O⟩:=QL U;have C:=U6 E e.a;rw[D] at C;have b0:own.length<=100000:=by have:=C.2.1;have hb: ∀x∈own,0<=x/\x<E.length:=λx w=>⟨(C.1 x w).1,(C.1 x w).2.1⟩;have:=Vi this hb;have:=P.1;omega
 refine sE Tryz.func113 [.tmp 4,.tmp 5] [(3,[.take 2,.eq 6 (.row 3 1 own.length (rI own))]),(1000010,[.eq 7 (.row 3 1 2 (rI [e.t,e.q]))]),(999999,[.put 2,.nx 2,.mvc 0 0]),(2000021,[.frz 1 [0]]),(2000022,[.frz 1 [0,5]])] ?_
 refine jb (um e h1 h2) ?_;refine jB (!qZ e) (λh=> ?_) λh=> ?_
 ·exact mM
 rw[hV] at h;have f:=B1 h;have g: ¬qZ e=false:=jR
 have a7:=P.1;refine eX ⟨i,hi,?_⟩;refine⟨⟨rfl,rfl,by show((jN E).getD i qJ).2.length=own.length;rw[hval],λk hk=>by show rI ((jN E).getD i qJ).2 k=rI own k;rw[hval]⟩,?_⟩;refine⟨true,⟨Q8,rfl,fW (AV.i .i64) aU⟩,?_⟩
 repeat apply jL
 refine jB (decide (e.s<(own.length:Int))) (λH=> ?_) λH=> ?_
 ·rw[aM] at H;have b1:=f.s.1;have b3:=C.1 _ (A9 (l:=own) (k:=e.s.toNat) J);have a0:=P.2 _ (O0 (l:=E) (k:=(own.getD e.s.toNat 0).toNat) J);have cA:=HF (E.getD (own.getD e.s.toNat 0).toNat dE) e a0.fit f.fit
  repeat apply jL
  refine⟨⟨J,J⟩,J,?_⟩;refine⟨⟨J,J⟩,J,?_⟩
  refine jb cA ?_;refine jB (!Qj (E.getD (own.getD e.s.toNat 0).toNat dE) e) (λQ=> ?_) λQ=> ?_
  ·rw[dQ] at Q;have hA:oA E e=(E,(0,5)):=by unfold oA;rw[aB g,D,aE H,aE Q]
   rw[hA];refine⟨λi=> .row 3 1 ((jN E).getD i qJ).2.length (rI ((jN E).getD i qJ).2),q8,?_⟩;refine⟨⟨(),[(5,9),(6,8)],trivial,nW,rfl,λh=>jC⟩⟩
  ·have hA:oA E e=(E,(own.getD e.s.toNat 0,0)):=by unfold oA;rw[aB g,D,aE H,aB (λh=>by rw[h] at Q;cases Q)]
   rw[hA]
   repeat apply jL
   refine⟨⟨J,J⟩,J,?_⟩;refine⟨λi=> .row 3 1 ((jN E).getD i qJ).2.length (rI ((jN E).getD i qJ).2),q8,?_⟩;refine⟨⟨(),[(5,9),(6,8)],trivial,nW,rfl,λh=>jC⟩⟩
 rw[bH] at H;have z: ¬e.s<(mT E e.a).length:=by rw[D];exact H
 have cV:((mT E e.a).length:Int)=(own.length:Int):=by rw[D]
 repeat apply jL
 refine⟨[],_,λ_=>uo E _ _ e (by have:=f.cs.1;omega),?_⟩;refine jB (decide (e.s>(own.length:Int))||i9 E e) (λS=> ?_) λS=> ?_
 ·have hA:oA E e=(E,(0,14)):=by unfold oA;rw[aB g,aB z,aE (by rw[cV];exact S)]
  rw[hA];refine⟨λi=> .row 3 1 ((jN E).getD i qJ).2.length (rI ((jN E).getD i qJ).2),q8,?_⟩;refine⟨⟨(),[(5,9),(6,8)],trivial,nW,rfl,λh=>jC⟩⟩
 have F: ¬(decide (e.s>(mT E e.a).length)||i9 E e)=true:=by rw[cV,S];decide
 have N:i9 E e=false:=by rw[bT] at S;exact S.2
 have w: ∀x,x=e.t\/x=e.q->x≠ -1->0<=x/\x<E.length:=λx w hn=>by unfold i9 at N;rw[fH] at N;have h3:=f.t;have h4:=f.q;have h5:=N x (by rcases w with rfl|rfl<;>simp);rw[aM] at h5;rcases w with rfl|rfl<;>omega
 repeat apply jL
 refine⟨Jy e.t e.q,?_⟩
 repeat apply jL
 refine⟨[],Nat,λj=>j<=2/\(1<=j->u5 E e e.t=false)/\(2<=j->u5 E e e.q=false),λj=>[⟨60,[],.I j⟩],λ_=>[],λj=>2-j,
  ⟨0,[],⟨J,λh=>J,λh=>J⟩,rfl,rfl,rfl,rfl,rfl,nT,trivial⟩,?_⟩
 rintro j ⟨n,hj1,a3⟩;have n:j<=2:=n;refine .inl ⟨λhc=> ?_,λhc=> ?_⟩
 ·have hc:=pH hc;have hc:(j:Int)<(2:Nat):=hc;have ej:(j:Int).toNat=j:=aQ j;have eM:[e.t,e.q].getD (j:Int).toNat 0=e.t\/[e.t,e.q].getD (j:Int).toNat 0=e.q:=by
   rw[ej]
   match j,hc with
   |0,_=>exact .inl rfl
   |1,_=>exact .inr rfl
   |j+2,h=>omega
  have a6:=w _ eM;have G:(([e.t,e.q].getD (j:Int).toNat 0) != -1)=true->0<=[e.t,e.q].getD (j:Int).toNat 0/\[e.t,e.q].getD (j:Int).toNat 0<E.length:=λh=>a6 (by rw[lM] at h;exact h)
  repeat apply jL
  refine⟨⟨J,J⟩,J,?_⟩;refine⟨λR=>G R.1,λR=>by have:=G R.1;omega,?_⟩;refine⟨λR=>G R.2.1,λR=>by have:=G R.2.1;omega,?_⟩;refine jB (u5 E e ([e.t,e.q].getD (j:Int).toNat 0)) (λhb=> ?_) λhb=> ?_
  ·have hA:oA E e=(E,(0,4)):=by
    unfold oA;rw[aB g,aB z,aB F,aE ?_];rcases eM with h|h<;>rw[h] at hb<;>rw[hb]
    ·rfl
    ·rw[p3]
   rw[hA];refine⟨λi=> .row 3 1 ((jN E).getD i qJ).2.length (rI ((jN E).getD i qJ).2),q8,?_⟩;refine⟨⟨(),[(5,10),(6,9)],trivial,nW,rfl,λh=>jC⟩⟩
  ·exact mU
 have hc: ¬(j:Int)<(2:Nat):=by have:=hc;rw[bH] at this;exact this
 have ee:j=2:=J
 subst ee;have a2:=hj1 J;have a1:=a3 J;have M: ¬(u5 E e e.t||u5 E e e.q)=true:=by rw[a2,a1];decide
 repeat apply jL
 refine⟨_,_,⟨Q8,rfl,ca E e.t⟩,?_⟩;refine⟨_,_,λ_=>⟨Q8,rfl,ca E e.q⟩,?_⟩;refine jB (i7 E e.t||i7 E e.q) (λhd=> ?_) λhd=> ?_
 ·have hA:oA E e=(E,(0,7)):=by unfold oA;rw[aB g,aB z,aB F,aB M,aE hd]
  rw[hA];refine⟨λi=> .row 3 1 ((jN E).getD i qJ).2.length (rI ((jN E).getD i qJ).2),q8,?_⟩;refine⟨⟨(),[(5,10),(6,9)],trivial,nW,rfl,λh=>jC⟩⟩
 have Y: ¬(i7 E e.t||i7 E e.q)=true:=by rw[hd];decide
 repeat apply jL
 refine jB (decide ((E.length:Int)>=100000)) (λhn=> ?_) λhn=> ?_
 ·rw[aM] at hn;have hA:oA E e=(E,(0,6)):=by unfold oA;rw[aB g,aB z,aB F,aB M,aB Y,aE J]
  rw[hA];refine⟨λi=> .row 3 1 ((jN E).getD i qJ).2.length (rI ((jN E).getD i qJ).2),q8,?_⟩;refine⟨⟨(),[(5,10),(6,9)],trivial,nW,rfl,λh=>jC⟩⟩
 rw[bH] at hn;have hA:oA E e=(E++[e],((E.length:Int),0)):=by unfold oA;rw[aB g,aB z,aB F,aB M,aB Y,aB J]
 rw[hA];have a8:=f.cs.1;have a9:=f.fs;refine aN (eX ?_);refine⟨_,ja e J J,?_⟩;refine⟨oJ J,?_⟩;refine⟨oJ J,?_⟩;refine⟨_,_,_,_,_,⟨Q8,rfl,rfl,.inl ⟨⟨_,rfl⟩,fW (AV.i .i64) aU,rfl,rfl,λ_ _=>nT⟩⟩,?_⟩;have a4:((jN (E++[e])).getD i qJ).2=own++[(E.length:Int)]:=by rw[(O i hi).2,aE rfl]
 have hq:A5 (.row 3 1 (own.length+1) (iJ own.length (rI own) (kJ 1 [.I (E.length:Int)]))) (.row 3 1 ((jN (E++[e])).getD i qJ).2.length (rI ((jN (E++[e])).getD i qJ).2)):=by rw[a4];exact Zo own _
 have cX: ∀j,j<(jN E).length->j≠i->KD.row 3 1 ((jN (E++[e])).getD j qJ).2.length (rI ((jN (E++[e])).getD j qJ).2)= .row 3 1 ((jN E).getD j qJ).2.length (rI ((jN E).getD j qJ).2):=λj n a5=>by rw[(O j n).2,aB a5]
 have W:eN (u6 (E++[e]) 13) (.mr (jN E).length (λi=> .I ((jN E).getD i qJ).1) (λj=> .row 3 1 ((jN (E++[e])).getD j qJ).2.length (rI ((jN (E++[e])).getD j qJ).2)) (λi=>i) (jN E).length 13 none):=
  ⟨K.symm,K.symm,rfl,rfl,λj n=>⟨fW (AV.i .i64) (O j (by rw[K] at n;exact n)).1.symm,A5.refl _,rfl⟩⟩
 repeat apply jL
 refine jB (decide (e.k=2)) (λhk=> ?_) λhk=> ?_
 ·rw[aM] at hk;refine⟨_,_,_,_,_,⟨Q8,rfl,lJ (L:=B0 E) (d:=dD) (vf:=λb:Bool=>AV.b b) sD e.t true⟩,?_⟩;refine⟨λj=> .row 3 1 ((jN (E++[e])).getD j qJ).2.length (rI ((jN (E++[e])).getD j qJ).2),⟨cX,hq,rfl⟩,?_⟩;refine⟨⟨(),[(5,14),(6,13)],trivial,⟨nR,⟨nZ,nS,⟨rfl,rfl,rfl,W⟩,nS,⟨rfl,rfl,trivial,Jz E e hk⟩,⟨rfl,rfl,trivial,B2 E e⟩,nS,trivial⟩,rfl⟩,rfl,λh=>jC⟩⟩
 ·rw[bH] at hk;refine⟨λj=> .row 3 1 ((jN (E++[e])).getD j qJ).2.length (rI ((jN (E++[e])).getD j qJ).2),⟨cX,hq,rfl⟩,?_⟩;refine⟨⟨(),[(5,14),(6,13)],trivial,⟨nR,⟨nZ,nS,⟨rfl,rfl,rfl,W⟩,nS,⟨rfl,rfl,trivial,Ae E e hk⟩,⟨rfl,rfl,trivial,B2 E e⟩,nS,trivial⟩,rfl⟩,rfl,λh=>jC⟩⟩
theorem aIe (E:List Ev) (g:CP E) (e:Ev) (c:e.cs.length<2^62) (f:e.fs.length<2^62):
  cM 113 true [.cells 317 [.so 1,.mo 2,.mo 4],j0 E,u6 E 3,.dead,l4 E] [.p 0 0,.ag e.av] (λ_:Unit=>True) (λ_=>cvO (oA E e).1) (λ_=>cvN (oA E e).1) (λ_=> .tup [.I (oA E e).2.1,.I (oA E e).2.2]):=by
 cases h:hU (jN E) e.a with
 |none=>exact YO E g e c f h
 |some own=>exact QM E g e c f own h
theorem QN {E:List Ev} (c:CP E) (e:Ev):CP (oA E e).1:=by
 unfold oA;by_cases g:qZ e=false
 ·rw[aE g];exact c
 rw[aB g];by_cases h:e.s<(mT E e.a).length
 ·rw[aE h];split<;>exact c
 rw[aB h];by_cases j:(decide (e.s>(mT E e.a).length)||i9 E e)=true
 ·rw[aE j];exact c
 rw[aB j];by_cases l:(u5 E e e.t||u5 E e e.q)=true
 ·rw[aE l];exact c
 rw[aB l];by_cases n:(i7 E e.t||i7 E e.q)=true
 ·rw[aE n];exact c
 rw[aB n];by_cases w:E.length>=100000
 ·rw[aE w];exact c
 rw[aB w];refine⟨jO,λx f=> ?_⟩;rcases cR.1 f with f|f
 ·exact c.2 x f
 ·rw[bV] at f;subst f;refine B1 ?_;cases z:qZ x
  ·exact absurd z g
  ·rfl
theorem YP:cM 196 true [] [] (λ_:Unit=>True) (λ_=>[]) (λ_=>[.cells 317 [.so 1,.mo 2,.mo 4],j0 [],u6 [] 3,.dead,l4 []]) (λ_=> .p 0 0):=by refine sE Tryz.func196 [.tmp 0] [(999999,[.nlc 2 0 64 12,.mk 0 (λ_=> .row 3 1 0 (rI []))])] ?_;refine⟨rfl,?_⟩;refine⟨⟨(),[(0,2),(1,3),(2,0),(3,4),(4,1)],trivial,⟨nR,⟨nZ,⟨rfl,rfl,trivial,qA⟩,⟨rfl,rfl,rfl,⟨rfl,rfl,rfl,rfl,λi a=>absurd a (dU i)⟩⟩,nS,⟨rfl,rfl,trivial,⟨rfl,rfl,λi a=>absurd a (dU i)⟩⟩,trivial⟩,rfl⟩,rfl,λh=>jC⟩⟩
def zP (E:List Ev) (i:Int):Bool:=decide (i<0)||decide (i>=(E.length:Int))
def Ka (i:Int) (j:Nat) (e:Ev):Bool:=((j:Int)==i)||((e.k==1)&&(e.t==i))
def jY (E:List Ev) (i:Int) (k:Nat):List Ev:=E.mapIdx λj e=>if(decide (j<k)&&Ka i j e)=true then lZ e else e
def rA (E:List Ev) (i:Int):List Ev×Int:=if(zP E i||((E.getD i.toNat dE).k !=0))=true then(E,4) else(jY E i E.length,0)
theorem oR (E:List Ev) (i:Int) (k:Nat):(jY E i k).length=E.length:=by simp[jY]
theorem tF (E:List Ev) (i:Int) (k j:Nat) (hj:j<E.length):(jY E i k).getD j dE=if(decide (j<k)&&Ka i j (E.getD j dE))=true then lZ (E.getD j dE) else E.getD j dE:=by unfold jY;rw[xE jT,xE hj,zI]
theorem El (E:List Ev) (i:Int):jY E i 0=E:=by refine iV (by simp[jY]) λj a c=> ?_;simp[jY]
theorem Vj (e:Ev):(lZ e).a=e.a:=by unfold lZ;split<;>rfl
theorem QO (e:Ev):(lZ e).t=e.t:=by unfold lZ;split<;>rfl
theorem QP (e:Ev):(lZ e).k=e.k:=by unfold lZ;split<;>rfl
theorem uq {E f:List Ev} (h:E.map Ev.a=f.map Ev.a):jN E=jN f:=by
 have c: ∀(F:List Ev) (L:List (Int×List Int)) (n:Nat),(F.zipIdx n).foldl Ek L=((F.map Ev.a).zipIdx n).foldl (λL p=>kE L p.1 ((hU L p.1).getD []++[(p.2:Int)])) L:=by
  intro F
  induction F with
  |nil=>intro L n;rfl
  |cons e r g=>intro L n;simp only[p7,gP,gK];exact g _ _
 unfold jN;rw[c,c,h]
theorem Qo {E c:List Ev} (h:E.map (λe=>(e.k,e.t))=c.map (λe=>(e.k,e.t))):B0 E=B0 c:=by
 have a: ∀(F:List Ev) (L:List (Int×Bool)),F.foldl Vh L=(F.map λe=>(e.k,e.t)).foldl (λL p=>if p.1=2 then kE L p.2 true else L) L:=by
  intro F
  induction F with
  |nil=>intro L;rfl
  |cons e r f=>intro L;simp only[gP,gK];exact f _
 unfold B0;rw[a,a,h]
theorem L2 {α:Type} (f:Ev->α) (a: ∀e,f (lZ e)=f e) (E:List Ev) (i:Int) (k:Nat):(jY E i k).map f=E.map f:=by
 refine iV (by simp[jY]) λj c g=> ?_;simp only[jY,iO,zI];split
 ·exact a _
 ·rfl
theorem Kb (E:List Ev) (i:Int) (k:Nat):jN (jY E i k)=jN E:=uq (L2 Ev.a Vj E i k)
theorem Kc (E:List Ev) (i:Int) (k:Nat):B0 (jY E i k)=B0 E:=Qo (L2 (λe=>(e.k,e.t)) (λe=>by rw[QP,QO]) E i k)
theorem Zp {E:List Ev} {i:Int} {j:Nat} (e:j<E.length) (c:Ka i j (E.getD j dE)=true): ∀k,k<E.length->rE (jY E i (j+1)) k=if k=j then(lZ (E.getD j dE)).av else rE (jY E i j) k:=by
 intro k a;unfold rE;rw[tF E i (j+1) k a,tF E i j k a];by_cases h:k=j
 ·subst h;rw[aE rfl,aE (by rw[c,j7];exact gH J)]
 ·rw[aB h];have:decide (k<j+1)=decide (k<j):=by rw[uB];omega
  rw[this]
theorem HL {E:List Ev} {i:Int} {j:Nat} (g:j<E.length) (f:Ka i j (E.getD j dE)=false):jY E i (j+1)=jY E i j:=by
 refine iV (by rw[oR,oR]) λk a e=> ?_;have c:k<E.length:=by rw[oR] at a;exact a
 rw[<-xE a,<-xE e,tF E i (j+1) k c,tF E i j k c];by_cases h:k=j
 ·subst h;rw[f,pB,pB]
 ·have:decide (k<j+1)=decide (k<j):=by rw[uB];omega
  rw[this]
theorem Rt.bare {e:Ev} (h:Rt e):Rt (lZ e):=by
 unfold lZ;split
 ·rename_i c;refine⟨h.t,h.q,h.s,h.a,h.k,h.cs,bI _,bI _,h.del,h.qpost,?_⟩;have f:=h.sp;rcases c with c|c
  ·rw[HJ c] at f;rw[HJ (e:={e with x:=gB,fs:=[]}) c];have:e.n=0:=by rw[f]
   rw[Ev.mk.injEq];exact⟨rfl,rfl,rfl,rfl,rfl,rfl,rfl,rfl,this,rfl,rfl,rfl⟩
  ·rw[Qn c] at f;rw[Qn (e:={e with x:=gB,fs:=[]}) c];have g:e.q= -1:=by rw[f]
   have j:e.w= -1:=(by rw[f]);have l:e.n=0:=by rw[f]
   rw[Ev.mk.injEq];exact⟨rfl,rfl,rfl,rfl,rfl,rfl,g,j,l,rfl,rfl,rfl⟩
 ·exact h
theorem ur {E:List Ev} (f:CP E) (i:Int) (k:Nat):CP (jY E i k):=by
 refine⟨by rw[oR];exact f.1,λe h=> ?_⟩;obtain⟨j,c,rfl⟩:=cU h;have a:j<E.length:=by rw[oR] at c;exact c
 have g:=f.2 _ (fN a);rw[<-xE c,tF E i k j a,xE a];split
 ·exact g.bare
 ·exact g
theorem Af {E:List Ev} (a:CP E) (i:Int):CP (rA E i).1:=by
 unfold rA;split
 ·exact a
 ·exact ur a i _
theorem HM (E:List Ev) (z:CP E) (i:Int):cM 222 true [.cells 317 [.so 1,.mo 2,.mo 4],j0 E,u6 E 3,.dead,l4 E] [.p 0 0,.I i] (λ_:Unit=>True) (λ_=>cvI (rA E i).1) (λ_=>[]) (λ_=> .I (rA E i).2):=by
 refine sE Tryz.func222 [.tmp 4] [(2000007,[.frz 1 [0]])] ?_;have P:=z.1
 repeat apply jL
 have G:zP E i=false->0<=i/\i<E.length:=λh=>by unfold zP at h;rw[bT,bH,bH] at h;omega
 refine⟨λx=>G x.1,λx=> ?_,?_⟩
 ·have x:zP E i=false:=x.1;have:=G x;omega
 refine jB (zP E i||((E.getD i.toNat dE).k !=0)) (λh=> ?_) λh=> ?_
 ·have t:rA E i=(E,4):=by unfold rA;rw[aE h]
  rw[t];refine⟨⟨(),[],trivial,⟨nR,⟨nZ,ni,⟨rfl,rfl,rfl,eN.own E _⟩,nS,ni,trivial⟩,rfl⟩,rfl,λh=>jC⟩⟩
 have t:rA E i=(jY E i E.length,0):=by unfold rA;rw[aB jR]
 rw[t];have H:eN (j0 (jY E i 0)) (j0 E):=by rw[El];exact eN.refl _
 repeat apply jL
 refine⟨[],Nat,λj=>j<=E.length,λj=>[⟨34,[],.I j⟩],λj=>[⟨1,[],j0 (jY E i j)⟩],λj=>E.length-j,
  ⟨0,[],bI _,rfl,rfl,rfl,rfl,rfl,nT,H⟩,?_⟩
 intro j C;have C:j<=E.length:=C;refine .inl ⟨λf=> ?_,λf=> ?_⟩
 ·have f:=pH f;have f:(j:Int)<E.length:=f;have q:(j:Int).toNat=j:=aQ j;have O:=oR E i j;have n:(jY E i j).getD j dE=E.getD j dE:=by rw[tF E i j j J,aB jS]
  repeat apply jL
  refine⟨⟨J,J⟩,J,?_⟩;have F:=(ur z i j).2 _ (O0 (l:=jY E i j) (k:=(j:Int).toNat) J);have Q:=F.cs.1;have R:=F.fs
  repeat apply jL
  refine jB (Ka i j ((jY E i j).getD (j:Int).toNat dE)) (λw=> ?_) λw=> ?_
  ·refine aN (eX ?_);refine⟨_,bx ((jY E i j).getD (j:Int).toNat dE) J J,?_⟩;refine⟨⟨J,J⟩,J,?_⟩;rw[q,n] at w;refine⟨j+1,[],(by show j+1<=E.length;omega),jM,rfl,rfl,rfl,rfl,rfl,nV,?_⟩;refine⟨rfl,rfl,by rw[oR,oR],λk D=> ?_⟩;rw[oR] at D;rw[Zp J w k D,q,n];by_cases g:k=j
   ·rw[aE g];show(if k=j then over_q0 0 (lZ (E.getD j dE)).av (rE (jY E i j) k) else rE (jY E i j) k)=_;rw[aE g];rfl
   ·rw[aB g];show(if k=j then over_q0 0 (lZ (E.getD j dE)).av (rE (jY E i j) k) else rE (jY E i j) k)=_;rw[aB g]
  ·rw[q,n] at w;have L:eN (j0 (jY E i (j+1))) (j0 (jY E i j)):=by rw[HL J w];exact eN.refl _
   refine⟨j+1,[],(by show j+1<=E.length;omega),jM,rfl,rfl,rfl,rfl,rfl,nV,L⟩
 ·have f:=iT f;have N:j=E.length:=J
  have M:eN (u6 (jY E i j) 3) (u6 E 3):=by unfold u6;rw[Kb];exact eN.own E _
  have K:eN (l4 (jY E i j)) (l4 E):=by unfold l4;rw[Kc];exact eN.refl _
  rw[<-N];refine⟨⟨(),[],trivial,⟨nR,⟨nZ,ni,⟨rfl,rfl,rfl,M⟩,nS,⟨rfl,rfl,trivial,K⟩,trivial⟩,rfl⟩,rfl,λh=>jC⟩⟩
theorem HN (E:List Ev) (e:CP E):cM 114 true [.cells 317 [.so 1,.mo 2,.mo 4],j0 E,u6 E 3,.dead,l4 E] [.p 0 0] (λ_:Unit=>True) (λ_=>cvI E) (λ_=>[j0 E]) (λ_=> .so 5):=by
 refine sE Tryz.func114 [.tmp 2] [(1000001,[.nl 3 64 12])] ?_;have z:=e.1
 repeat apply jL
 refine⟨[],Nat,λj=>j<=E.length,λj=>[⟨11,[],.I j⟩,⟨3,[],.so 5⟩],λj=>[⟨5,[],j0 (E.take j)⟩],λj=>E.length-j,
  ⟨0,[],bI _,rfl,rfl,rfl,rfl,rfl,⟨nT,rfl⟩,qA⟩,?_⟩
 intro j f;have f:j<=E.length:=f;refine .inl ⟨λc=> ?_,λc=> ?_⟩
 ·have c:=pH c;have c:(j:Int)<E.length:=c;have x:(j:Int).toNat=j:=aQ j;have g:=e.2 _ (O0 (l:=E) (k:=(j:Int).toNat) J);have A:=g.cs.1;have C:=g.fs;have D:(E.take j).length=j:=by rw[cT];omega
  repeat apply jL
  refine⟨⟨J,J⟩,J,?_⟩;refine aN (eX ?_);refine⟨_,ja (E.getD (j:Int).toNat dE) J J,?_⟩;refine⟨oJ J,?_⟩;have w:E.take (j+1)=E.take j++[E.getD j dE]:=by rw[bS J,xE J]
  have q:eN (j0 (E.take (j+1))) (.row 64 12 ((E.take j).length+1) (iJ (E.take j).length (rE (E.take j)) (kJ 12 (E.getD (j:Int).toNat dE).av))):=by rw[w,x];exact B2 _ _
  refine⟨j+1,[(5,8)],(by show j+1<=E.length;omega),jM,rfl,rfl,rfl,rfl,rfl,⟨nV,rfl⟩,q⟩
 ·have c:=iT c;have t:j=E.length:=by have c:(E.length:Int)<=j:=c;omega
  have n:eN (j0 E) (j0 (E.take j)):=by rw[t,eJ];exact eN.refl _
  refine⟨⟨(),[],trivial,⟨nR,⟨nZ,ni,⟨rfl,rfl,rfl,eN.own E _⟩,nS,ni,⟨rfl,rfl,trivial,n⟩,trivial⟩,rfl⟩,rfl,λh=>jC⟩⟩
theorem Vk: ∀{L M:List Int},L.Pairwise (· < ·)->M.Pairwise (· < ·)->(∀x,x∈L↔x∈M)->L=M
 |[],[],_,_,_=>rfl
 |[],b::M,_,_,h=>absurd ((h b).2 jS) jS
 |a::L,[],_,_,h=>absurd ((h a).1 jS) jS
 |a::L,b::M,g,j,h=>by
  rw[jP] at g j;have n:a=b:=by
   have c:=(h a).1 jS;have e:=(h b).2 jS;rw[eF] at c e;rcases c with c|c
   ·exact c
   ·rcases e with e|e
    ·exact e.symm
    ·have:=g.1 b e;have:=j.1 a c;omega
  subst n;rw[Vk g.2 j.2 λx=> ?_];constructor
  ·intro f;have:=(h x).1 (by simp[f]);rw[eF] at this;rcases this with rfl|l
   ·exact absurd (g.1 x f) J
   ·exact l
  ·intro f;have:=(h x).2 (by simp[f]);rw[eF] at this;rcases this with rfl|l
   ·exact absurd (j.1 x f) J
   ·exact l
theorem Kd {l:List Int} (h:l.Nodup):(kO l).Pairwise (· < ·):=by
 exact m7
theorem Ke {l:List Int} {x:Int}:x∈kO l↔x∈l:=sP
theorem Zq {l:List Int} {m:Nat} (h:l.Nodup) (a: ∀x∈l,0<=x/\x<m):l.length<=m:=by rw[<-oO l];exact Vi (Kd h) λx c=>a x (Ke.1 c)
theorem Zr (E:List Ev) (a:Int): ∀j,mT (E.take j) a<+:mT E a:=by
 refine bz (p:=λE=> ∀j,mT (E.take j) a<+:mT E a) ?_ ?_ E
 ·intro j;rw[List.take_nil];exact rM _
 ·intro E e f j;by_cases c:j<=E.length
  ·rw[kG c];refine(f j).trans ?_;rw[U5];split
   ·exact g8 _ _
   ·exact rM _
  ·rw[fR jO];exact rM _
structure WfE (E:List Ev) (j:Nat) (e:Ev):Prop where
 t: -1<=e.t/\e.t<j
 q: -1<=e.q/\e.q<j
 cs: ∀c∈e.cs,0<=c/\c<j
 s:e.s=(mT (E.take j) e.a).length
def Wf (E:List Ev):Prop:= ∀j,j<E.length->WfE E j (E.getD j dE)
structure Cok (E:List Ev):Prop where
 ok:CP E
 wf:Wf E
theorem Vl:Cok []:=⟨⟨bI _,λ_ h=>jC⟩,λj a=>absurd a (dU j)⟩
theorem Kf {E:List Ev} {a x:Int} (h:x∈mT E a):0<=x/\x<E.length:=⟨((U6 E a).1 x h).1,((U6 E a).1 x h).2.1⟩
theorem WfE.own {E:List Ev} {j:Nat} {e:Ev} (h:WfE E j e) (q:j<=E.length) (w:e.s>0):e.s<=(mT E e.a).length/\0<=(mT E e.a).getD (e.s-1).toNat 0/\(mT E e.a).getD (e.s-1).toNat 0<j:=by
 obtain⟨r,f⟩:=Zr E e.a j;have n:=h.s;have t:(mT (E.take j) e.a).length<=(mT E e.a).length:=by rw[<-f,bD];omega
 have c:(e.s-1).toNat<(mT (E.take j) e.a).length:=J
 have g:(mT E e.a).getD (e.s-1).toNat 0=(mT (E.take j) e.a).getD (e.s-1).toNat 0:=by rw[<-f];simp only[List.getD,fB c]
 have l:=Kf (A9 c);rw[g];rw[cT] at l;omega
theorem HO {E:List Ev} {j:Nat} {e:Ev} (h:WfE E j e) (k:j<=E.length) {x:Int} (a:x∈Qm E e):0<=x/\x<j:=by
 unfold Qm VD aDn at a;rw[eC] at a;obtain⟨a,c⟩:=a;have c: ¬x<0:=by intro h;have c:(!decide (x<0))=true:=c;rw[gH h] at c;cases c
 have w:=h.t;have n:=h.q;rw[cR,eF,eF] at a;rcases a with (rfl|rfl|g)|f
 ·omega
 ·omega
 ·exact h.cs x g
 ·split at f
  ·rename_i l;rw[bV] at f;subst f;have:=h.own k l;omega
  ·cases f
def Zs (E:List Ev) (j:Int):List Int:=Qm E (E.getD j.toNat dE)
theorem VF {E:List Ev} (h:Wf E) {j:Int} (c:0<=j) (e:j<E.length) {x:Int} (a:x∈Zs E j):0<=x/\x<j:=by have:=HO (h j.toNat J) J a;omega
inductive Rch (E:List Ev):Int->Int->Prop
 |one {x y:Int}:0<=x->x<E.length->y∈Zs E x->Rch E x y
 |step {x y z:Int}:0<=x->x<E.length->y∈Zs E x->Rch E y z->Rch E x z
theorem Rch.src {E:List Ev} {x y:Int} (h:Rch E x y):0<=x/\x<E.length:=by
 cases h with
 |one a b _=>exact⟨a,b⟩
 |step a b _ _=>exact⟨a,b⟩
theorem Rch.lt {E:List Ev} (e:Wf E) {x y:Int} (h:Rch E x y):0<=y/\y<x:=by
 induction h with
 |one a b c=>exact VF e a b c
 |step a b c _ f=>have:=VF e a b c;omega
theorem Rch.snoc {E:List Ev} {x y z:Int} (h:Rch E x y) (g:z∈Zs E y) (e:0<=y) (f:y<E.length):Rch E x z:=by
 induction h with
 |one a b c=>exact .step a b c (.one e f g)
 |step a b c _ j=>exact .step a b c (j g e f)
theorem Rch.cases {E:List Ev} {x z:Int} (h:Rch E x z):z∈Zs E x\/ ∃y,y∈Zs E x/\Rch E y z:=by
 cases h with
 |one _ _ c=>exact .inl c
 |step _ _ c d=>exact .inr ⟨_,c,d⟩
open Classical in
noncomputable def Kg (E:List Ev) (i:Int):List Int:=((List.range E.length).map Int.ofNat).filter λy=>decide (Rch E i y)
theorem QQ {E:List Ev} (a:Wf E) {i y:Int}:y∈Kg E i↔Rch E i y:=by unfold Kg;rw[eC,@aM _ (Classical.propDecidable _)];refine⟨λh=>h.2,λh=>⟨?_,h⟩⟩;have c:=h.lt a;have e:=h.src;rw[fL];exact⟨y.toNat,fO.2 J,by show((y.toNat:Nat):Int)=y;omega⟩
theorem HP (E:List Ev) (i:Int):(Kg E i).Pairwise (· < ·):=by unfold Kg;refine List.Pairwise.filter _ ?_;rw[gQ];exact List.pairwise_lt_range.imp λh=>by show((_:Nat):Int)<((_:Nat):Int);omega
structure Srch (E:List Ev) (i:Int) (g:List Int) (c:Nat):Prop where
 le:c<=g.length+1
 nd:g.Nodup
 rch: ∀y∈g,Rch E i y
 cl: ∀k,k<c-> ∀y∈Zs E ((i::g).getD k 0),y∈g
def xr (g:List Int) (l:List Int):List Int:=l.foldl (λg x=>if x∈g then g else g++[x]) g
theorem HQ (l:List Int): ∀g,g<+:xr g l:=by
 induction l with
 |nil=>intro g;exact rM _
 |cons x l a=>
  intro g;unfold xr;rw[gK];refine List.IsPrefix.trans ?_ (a _);split
  ·exact rM _
  ·exact g8 _ _
theorem Vm (l:List Int): ∀g y,y∈xr g l↔y∈g\/y∈l:=by
 induction l with
 |nil=>intro g y;simp[xr]
 |cons x l c=>
  intro g y;have:xr g (x::l)=xr (if x∈g then g else g++[x]) l:=rfl;rw[this,c,eF];split
  ·rename_i a;constructor
   ·rintro(h|h)
    ·exact .inl h
    ·exact .inr (.inr h)
   ·rintro(h|rfl|h)
    ·exact .inl h
    ·exact .inl a
    ·exact .inr h
  ·rw[cR,bV];constructor
   ·rintro((h|h)|h)
    ·exact .inl h
    ·exact .inr (.inl h)
    ·exact .inr (.inr h)
   ·rintro(h|h|h)
    ·exact .inl (.inl h)
    ·exact .inl (.inr h)
    ·exact .inr h
theorem QR (l:List Int): ∀g,g.Nodup->(xr g l).Nodup:=by
 induction l with
 |nil=>intro g h;exact h
 |cons x l n=>
  intro g h;refine n _ ?_;show(if x∈g then g else g++[x]).Nodup;split
  ·exact h
  ·rename_i j;rw[iI];refine⟨h,jS,λa e b c=> ?_⟩;rw[bV] at c;subst c;intro f;subst f;exact j e
theorem Srch.at {E:List Ev} (q:Wf E) {i:Int} {g:List Int} {c:Nat} (h:Srch E i g c) (e:0<=i) (f:i<E.length) {k:Nat} (t:k<g.length+1):0<=(i::g).getD k 0/\(i::g).getD k 0<E.length/\ ∀y∈Zs E ((i::g).getD k 0),Rch E i y:=by
 cases k with
 |zero=>exact⟨e,f,λy a=> .one e f a⟩
 |succ k=>have n:g.getD k 0∈g:=A9 J;have l:=h.rch _ n;have j:=l.lt q;refine⟨j.1,by show g.getD k 0<_;omega,λy a=>l.snoc a j.1 J⟩
theorem Srch.next {E:List Ev} (x:Wf E) {i:Int} {g:List Int} {c:Nat} (h:Srch E i g c) (l:0<=i) (n:i<E.length) (q:c<g.length+1):Srch E i (xr g (Zs E ((i::g).getD c 0))) (c+1):=by
 obtain⟨_,_,j⟩:=h.at x l n q;have w:=HQ (Zs E ((i::g).getD c 0)) g;obtain⟨r,e⟩:=w;have z:g.length<=(xr g (Zs E ((i::g).getD c 0))).length:=by rw[<-e,bD];omega
 refine⟨J,QR _ _ h.nd,λy a=> ?_,λk A y a=> ?_⟩
 ·rcases(Vm _ _ _).1 a with a|a
  ·exact h.rch y a
  ·exact j y a
 ·have t:(i::xr g (Zs E ((i::g).getD c 0))).getD k 0=(i::g).getD k 0:=by
   have:k<(i::g).length:=jO
   rw[<-e];show((i::g)++r).getD k 0=_;simp only[List.getD,fB this]
  rw[t] at a;rw[Vm];by_cases f:k=c
  ·subst f;exact .inr a
  ·exact .inl (h.cl k J y a)
theorem Srch.len {E:List Ev} (a:Wf E) {i:Int} {g:List Int} {c:Nat} (h:Srch E i g c) (f:0<=i):g.length<=i.toNat:=by refine Zq h.nd λx e=> ?_;have:=(h.rch x e).lt a;omega
theorem Srch.done {E:List Ev} (q:Wf E) {i:Int} {g:List Int} {c:Nat} (h:Srch E i g c) (w:g.length+1<=c):kO g=Kg E i:=by
 refine Vk (Kd h.nd) (HP E i) λx=> ?_;rw[Ke,QQ q];refine⟨h.rch x,λA=> ?_⟩;have l: ∀a b,Rch E a b->(a=i\/a∈g)->b∈g:=by
  have j: ∀a,(a=i\/a∈g)-> ∀y∈Zs E a,y∈g:=by
   rintro a (rfl|f) y e
   ·exact h.cl 0 J y e
   ·obtain⟨k,z,rfl⟩:=Ad f;exact h.cl (k+1) J y e
  intro a b n
  induction n with
  |one _ _ e=>exact λf=>j _ f _ e
  |step _ _ e _ t=>exact λf=>t (.inr (j _ f _ e))
 exact l i x A (.inl rfl)
theorem Qp {E:List Ev} {e:Ev}:(oA E e).1=E\/((oA E e)=(E++[e],((E.length:Int),0))/\qZ e=true/\ ¬e.s<(mT E e.a).length/\(decide (e.s>(mT E e.a).length)||i9 E e)=false/\(u5 E e e.t||u5 E e e.q)=false/\(i7 E e.t||i7 E e.q)=false/\E.length<100000):=by
 unfold oA;by_cases c:qZ e=false
 ·rw[aE c];exact .inl rfl
 rw[aB c];by_cases f:e.s<(mT E e.a).length
 ·rw[aE f];split<;>exact .inl rfl
 rw[aB f];by_cases g:(decide (e.s>(mT E e.a).length)||i9 E e)=true
 ·rw[aE g];exact .inl rfl
 rw[aB g];by_cases j:(u5 E e e.t||u5 E e e.q)=true
 ·rw[aE j];exact .inl rfl
 rw[aB j];by_cases l:(i7 E e.t||i7 E e.q)=true
 ·rw[aE l];exact .inl rfl
 rw[aB l];by_cases n:E.length>=100000
 ·rw[aE n];exact .inl rfl
 rw[aB n];refine .inr ⟨rfl,?_,f,lO.2 g,lO.2 j,lO.2 l,J⟩;cases h:qZ e
 ·exact absurd h c
 ·rfl
theorem QS {E:List Ev} {e:Ev} (h:i9 E e=false):e.t<E.length/\e.q<E.length/\ ∀c∈e.cs,c<E.length:=by
 unfold i9 at h;rw[fH] at h;have a: ∀x∈e.t::e.q::e.cs,x<E.length:=λx g=>by have:=h x g;rw[aM] at this;omega
 exact⟨a _ jS,a _ jS,λc f=>a c (by simp[f])⟩
theorem Kh {E:List Ev} (l:Cok E) (e:Ev):Cok (oA E e).1:=by
 refine⟨QN l.ok e,?_⟩;rcases Qp (E:=E) (e:=e) with h|⟨h,C,D,z,_⟩
 ·rw[h];exact l.wf
 ·rw[h];intro j n;have n:j<(E++[e]).length:=n;rw[bD,cD] at n;show WfE (E++[e]) j ((E++[e]).getD j dE);rw[m0];by_cases f:j<E.length
  ·rw[aE f];have a:=l.wf j f;exact⟨a.t,a.q,a.cs,by rw[kG J];exact a.s⟩
  ·have x:j=E.length:=J;rw[aB f,aE x,x];have g:=B1 C;rw[bT,bH] at z;have w:=QS z.2;refine⟨⟨g.t,w.1⟩,⟨g.q,w.2.1⟩,λc A=>⟨g.cs.2 c A,w.2.2 c A⟩,?_⟩;rw[kG (aG _),eJ];omega
theorem HR (e:Ev):(lZ e).t=e.t/\(lZ e).q=e.q/\(lZ e).cs=e.cs/\(lZ e).s=e.s/\(lZ e).a=e.a:=by unfold lZ;split<;>exact⟨rfl,rfl,rfl,rfl,rfl⟩
theorem Ki {E c:List Ev} (h:E.map Ev.a=c.map Ev.a) (a:Int):mT E a=mT c a:=by unfold mT;rw[uq h]
theorem Qq {E:List Ev} (w:Wf E) (i:Int) (k:Nat):Wf (jY E i k):=by
 intro j c;rw[oR] at c;have h:=w j c;rw[tF E i k j c];have e: ∀a,mT ((jY E i k).take j) a=mT (E.take j) a:=λa=>Ki (by rw[List.map_take,List.map_take,L2 Ev.a Vj]) a;split
 ·obtain⟨f,b2,g,l,n⟩:=HR (E.getD j dE);exact⟨by rw[f];exact h.t,by rw[b2];exact h.q,by rw[g];exact h.cs,by rw[l,n,e];exact h.s⟩
 ·exact⟨h.t,h.q,h.cs,by rw[e];exact h.s⟩
theorem Qr {E:List Ev} (a:Cok E) (i:Int):Cok (rA E i).1:=by
 refine⟨Af a.ok i,?_⟩;unfold rA;split
 ·exact a.wf
 ·exact Qq a.wf i _
def jf (E:List Ev):List Ev->Int
 |[]=>0
 |e::r=>if(oA E e).2.2≠0 then(oA E e).2.2 else if(oA E e).2.1≠E.length then 5 else jf (E++[e]) r
def G7 (l:List Ev):Int:=jf [] l
theorem HS {E:List Ev} {e:Ev} (x:(oA E e).2.2=0) (z:(oA E e).2.1=E.length):(oA E e).1=E++[e]:=by
 revert x z;unfold oA;by_cases c:qZ e=false
 ·rw[aE c];intro h;cases h
 rw[aB c];by_cases g:e.s<(mT E e.a).length
 ·rw[aE g];split
  ·intro h;cases h
  ·intro _ h;have h:(mT E e.a).getD e.s.toNat 0=E.length:=h;by_cases f:0<=e.s
   ·have:=Kf (A9 (l:=mT E e.a) (k:=e.s.toNat) J);omega
   ·have A:=B1 (e:=e) (by cases h:qZ e;exact absurd h c;rfl);have:=A.s;omega
 rw[aB g];by_cases f:(decide (e.s>(mT E e.a).length)||i9 E e)=true
 ·rw[aE f];intro h;cases h
 rw[aB f];by_cases j:(u5 E e e.t||u5 E e e.q)=true
 ·rw[aE j];intro h;cases h
 rw[aB j];by_cases n:(i7 E e.t||i7 E e.q)=true
 ·rw[aE n];intro h;cases h
 rw[aB n];by_cases w:E.length>=100000
 ·rw[aE w];intro h;cases h
 rw[aB w];exact λ_ _=>rfl
theorem Zt (l:List Ev) (j:Nat) (a:j<l.length) (h:jf (l.take j) (l.drop j)=G7 l):
  (if(oA (l.take j) (l.getD j dE)).2.2≠0 then(oA (l.take j) (l.getD j dE)).2.2 else if(oA (l.take j) (l.getD j dE)).2.1≠j then 5 else jf (l.take (j+1)) (l.drop (j+1)))=G7 l:=by
 rw[oI a,<-xE (d:=dE) a] at h;unfold jf at h;have c:(l.take j).length=j:=by rw[cT];omega
 rw[c] at h;rw[bS a,<-xE (d:=dE) a];exact h
def Kj (l:List Ev):List AO:=if G7 l=0 then [.cells 317 [.so 1,.mo 2,.mo 4],j0 l,u6 l 3,.dead,l4 l] else []
def Kk (l:List Ev):AV:= .tup [if G7 l=0 then .p 0 0 else .val (.pointer none),.I (G7 l)]
theorem cc {l:List Ev} {st:Int} (h:G7 l=st) (a:st≠0):Kj l=[]/\Kk l= .tup [.val (.pointer none),.I st]:=by unfold Kj Kk;rw[h,aB a,aB a];exact nT
theorem L3 {l:List Ev} (h:G7 l=0):Kj l=[.cells 317 [.so 1,.mo 2,.mo 4],j0 l,u6 l 3,.dead,l4 l]/\Kk l= .tup [.p 0 0,.I 0]:=by unfold Kj Kk;rw[h,aE rfl,aE rfl];exact nT
theorem Em {a b:Int} (h:(a !=b)=true):a≠b:=by rwa [lM] at h
theorem jg {a b:Int} (h:(a !=b)=false):a=b:=by rw[fY] at h;exact h
theorem En (l:List Ev) (_hl:l.length<2^62) (O:okL l):cM 112 true [] [.rs 12 l.length (rE l)] (λ_:Unit=>True) (λ_=>[]) (λ_=>Kj l) (λ_=>Kk l):=by
 refine sE Tryz.func112 [.tmp 2,.tmp 3] [] ?_;have K:eN (l4 []) (l4 []):=eN.refl _;refine aN (aN ?_);refine⟨true,[],rfl,Unit,_,_,_,_,YP,λ_ _=> ?_⟩
 repeat apply jL
 refine⟨[],Nat,λj=>j<=l.length/\Cok (l.take j)/\jf (l.take j) (l.drop j)=G7 l,λj=>[⟨12,[],.I j⟩],λj=>[⟨0,[],.cells 317 [.so 1,.mo 2,.mo 4]⟩,⟨1,[],j0 (l.take j)⟩,⟨2,[],u6 (l.take j) 3⟩,⟨3,[],.dead⟩,⟨4,[],l4 (l.take j)⟩],λj=>l.length-j,
  ⟨0,[],⟨bI _,Vl,rfl⟩,rfl,rfl,rfl,rfl,rfl,nT,⟨eN.refl _,eN.refl _,eN.own _ _,eN.refl _,K⟩⟩,?_⟩
 rintro j ⟨G,C,aj⟩;have G:j<=l.length:=G;refine .inl ⟨λn=> ?_,λn=> ?_⟩
 ·have n:=pH n;have n:(j:Int)<l.length:=n;have N:(j:Int).toNat=j:=aQ j;have H:=O _ (O0 (l:=l) (k:=(j:Int).toNat) J);have f:=Zt l j J aj;have M:(l.take j).length=j:=by rw[cT];omega
  have P:=C.ok.1;have F:l.getD (j:Int).toNat dE=l.getD j dE:=by rw[N]
  rw[<-F] at f
  repeat apply jL
  refine⟨⟨J,J⟩,?_⟩;refine aN (aN ?_);refine⟨true,[0,1,2,3,4],rfl,Unit,_,_,_,_,aIe (l.take j) C.ok (l.getD (j:Int).toNat dE) H.1 H.2,λ_ _=> ?_⟩
  repeat apply jL
  refine jB ((oA (l.take j) (l.getD (j:Int).toNat dE)).2.2 !=0) (λh1=> ?_) λh1=> ?_
  ·have h1:=Em h1;rw[aE h1] at f;have g:=cc f.symm h1;rw[g.1,g.2];exact⟨qO⟩
  have h1:=jg h1;rw[aB (λh=>h h1)] at f;refine jB ((oA (l.take j) (l.getD (j:Int).toNat dE)).2.1 !=(j:Int)) (λh2=> ?_) λh2=> ?_
  ·have h2:=Em h2;rw[aE h2] at f;have g:=cc f.symm jD;rw[g.1,g.2];exact⟨qO⟩
  have h2:=jg h2;rw[aB (λh=>h h2)] at f;have L:=HS h1 (by rw[h2,M]);have q:l.take (j+1)=(oA (l.take j) (l.getD (j:Int).toNat dE)).1:=by rw[L,F,bS J,xE J]
  have D:=Kh C (l.getD (j:Int).toNat dE);rw[<-q] at D;have x:eN (j0 (l.take (j+1))) (j0 (oA (l.take j) (l.getD (j:Int).toNat dE)).1):=by rw[q];exact eN.refl _
  have w:eN (u6 (l.take (j+1)) 7) (u6 (oA (l.take j) (l.getD (j:Int).toNat dE)).1 7):=by rw[q];exact eN.own _ _
  have t:eN (l4 (l.take (j+1))) (l4 (oA (l.take j) (l.getD (j:Int).toNat dE)).1):=by rw[q];exact eN.refl _
  refine⟨j+1,[(1,6),(3,7)],⟨J,D,f⟩,jM,rfl,rfl,rfl,rfl,rfl,nV,⟨eN.refl _,x,w,eN.refl _,t⟩⟩
 ·have n:=iT n;have E:j=l.length:=by have n:(l.length:Int)<=j:=n;omega
  have g:G7 l=0:=by rw[<-aj,E,p8];rfl
  rw[(L3 g).1,(L3 g).2];have z:l.take j=l:=by rw[E,eJ]
  have x:eN (j0 l) (j0 (l.take j)):=by rw[z];exact eN.refl _
  have w:eN (u6 l 3) (u6 (l.take j) 3):=by rw[z];exact eN.own _ _
  have t:eN (l4 l) (l4 (l.take j)):=by rw[z];exact eN.refl _
  refine⟨⟨(),[],trivial,⟨nR,⟨nZ,⟨rfl,rfl,trivial,x⟩,⟨rfl,rfl,rfl,w⟩,nS,⟨rfl,rfl,trivial,t⟩,trivial⟩,rfl⟩,rfl,λh=>jC⟩⟩
end Go.Proofs.YtpnjmojpeaegoaaGreatDoor
namespace Go.Proofs.YtpnjmojpeaegoaaGreatDoor.Sa
open Go.Eng
structure Ver where
 name:Int
 step:Int
 bad:Bool
def Ver.av (n:Ver):List AV:=[.I n.name,.I n.step,.b n.bad]
def dV:Ver:=⟨0,0,false⟩
def rowsV (l:List Ver) (k:Nat):List AV:=(l.getD k dV).av
def l5 (v:Ver):Bool:=decide (v.name>=0)&&decide (v.name<=1073741824)&&decide (v.step>=0)&&decide (v.step<=1073741824)
theorem Ag (v:Ver):cC 214 [.ag v.av] [] (.b (l5 v)):=by refine hZ Tryz.func214 [.tmp 2] [] ?_;exact RetIs.b rfl
instance:DecidableEq Ver:=λa b=>
 if h:a.name=b.name/\a.step=b.step/\a.bad=b.bad then isTrue (by obtain⟨c,e,f⟩:=a;obtain⟨g,b2,j⟩:=b;simp at h;obtain⟨rfl,rfl,rfl⟩:=h;rfl) else isFalse (by rintro rfl;exact h ⟨rfl,rfl,rfl⟩)
theorem lg (l:List Ver): ∀k,k<l.length->AV.freshs (rowsV l k)=true:=λ_ _=>rfl
theorem Zu (l:List Ver) (c:List AV): ∀k,k<l.length->iJ 0 (kJ 3 c) (rowsV l) k=rowsV l k:=λk _=>by simp[iJ]
theorem cloneV_fn (l:List Ver) (e:l.length*24<=140737488355328):cC 144 [.rs 3 l.length (rowsV l)] [.row 104 3 l.length (rowsV l)] (.so 0):=by
 refine hZ Tryz.func144 [.tmp 2] [(999999,[.nl 2 104 3])] ?_;have a:(0+l.length)*24<=140737488355328:=by rw[dR];exact e
 refine .inl λc hc=>⟨λh=> ?_,λh=>⟨a,?_⟩⟩
 ·exact mP
 ·exact RetIs.so rfl (dR _) (Zu l []) (lg l)
def aGy (l:List Ver) (step:Int):List (Int×Bool):=l.foldl (λL v=>if decide (v.step<=step) then kE L v.name v.bad else L) []
abbrev mpIB (L:List (Int×Bool)):AO:=Dc (λk=> .I k) (λb=> .b b) (0,false) L
theorem aIh (l:List Ver) (step:Int) (k:Nat) (h:k<l.length):aGy (l.take (k+1)) step=if decide ((l.getD k dV).step<=step) then kE (aGy (l.take k) step) (l.getD k dV).name (l.getD k dV).bad else aGy (l.take k) step:=
 uK _ _ l k dV h
theorem HT (L:List (Int×Bool)):rz (mpIB L):=λ_ _=>⟨rfl,rfl⟩
theorem QT (l:List Ver) (t:l.length<2^62) (step:Int):cC 287 [.rs 3 l.length (rowsV l),.I step] [mpIB (aGy l step)] (.mo 0):=by
 refine hZ Tryz.func287 [.tmp 4] [] ?_;refine .inl ⟨[],Nat,λk=>k<=l.length,λk=>[⟨11,[],.I k⟩],λk=>[⟨0,[],mpIB (aGy (l.take k) step)⟩],λk=>l.length-k,
  ⟨0,[],bI _,rfl,rfl,rfl,rfl,rfl,nT,⟨rfl,rfl,λj n=>by simp[aGy] at n⟩⟩,?_⟩
 intro k q;refine .inl ⟨λc=> ?_,λc=> ?_⟩
 ·have c:=pH c;have g:=aIh l step k J;refine .inl ⟨⟨J,J⟩,⟨λa=> ?_,λa=> ?_⟩⟩
  ·have a:decide ((l.getD (k:Int).toNat dV).step<=step)=true:=a;rw[aQ] at a;refine⟨_,_,_,_,_,⟨λ_ _=>rfl,rfl,lJ (L:=aGy (l.take k) step) sD (l.getD (k:Int).toNat dV).name (l.getD (k:Int).toNat dV).bad⟩,?_⟩;refine⟨k+1,[],jM,jM,rfl,rfl,rfl,rfl,rfl,nV,?_⟩;have e:mpIB (aGy (l.take (k+1)) step)=mpIB (kE (aGy (l.take k) step) (l.getD (k:Int).toNat dV).name (l.getD (k:Int).toNat dV).bad):=by rw[g,aE a,aQ]
   have f:eN (mpIB (aGy (l.take (k+1)) step)) (mpIB (kE (aGy (l.take k) step) (l.getD (k:Int).toNat dV).name (l.getD (k:Int).toNat dV).bad)):=by rw[e];exact eN.refl _
   exact f
  ·have a:decide ((l.getD (k:Int).toNat dV).step<=step)=false:=a;rw[aQ] at a;refine⟨k+1,[],jM,jM,rfl,rfl,rfl,rfl,rfl,nV,?_⟩;have e:mpIB (aGy (l.take (k+1)) step)=mpIB (aGy (l.take k) step):=by rw[g,aB (by rw[a];simp)]
   have f:eN (mpIB (aGy (l.take (k+1)) step)) (mpIB (aGy (l.take k) step)):=by rw[e];exact eN.refl _
   exact f
 ·have c:=iT c;have h:l.take k=l:=fR J;rw[h];exact RetIs.mo rfl rfl (λ_ _=>⟨rfl,rfl,rfl⟩) (HT _)
def Bad (l:List Ver) (name step:Int):Bool:=(hU (aGy l step) name).getD false
theorem BadV_fn (l:List Ver) (a:l.length<2^62) (name step:Int):cC 234 [.rs 3 l.length (rowsV l),.I name,.I step] [] (.b (Bad l name step)):=by refine hZ Tryz.func234 [.tmp 6] [] ?_;refine .inl ⟨_,_,QT l a step,⟨_,_,⟨λ_ _=>rfl,rfl,lK (L:=aGy l step) (d:=(0,false)) (vf:=λb=>AV.b b) sD name false⟩,?_⟩⟩;exact RetIs.b rfl
end Go.Proofs.YtpnjmojpeaegoaaGreatDoor.Sa
