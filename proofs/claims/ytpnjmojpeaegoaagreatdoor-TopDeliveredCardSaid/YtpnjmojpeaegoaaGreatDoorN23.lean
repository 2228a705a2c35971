/-
  TopDelivered returns true whatever the input, and the input reads behind the call as it read before, where the three listed tables of Go's library hold what the program's text lays: a part of the proof.
-/
import Derived.Lib.ItoaLen
import Derived.Test.YtpnjmojpeaegoaaGreatDoorN22
set_option linter.unusedSimpArgs false
set_option linter.unusedVariables false
set_option maxRecDepth 100000
set_option maxHeartbeats 0
namespace Go.Proofs.YtpnjmojpeaegoaaGreatDoor
open Go.Eng Go.Qu Go.RowKit Go.Sort
theorem aE1 {w:World} (h:Tb w):Lib.TabIs Tryz.prog w "internal/strconv.uint64pow10" .u64 Lib.pow10Tab:=by
 obtain⟨e,s,h⟩:=h;have h:w.heap[0]? =some (.cells tbC e s):=h;unfold Lib.TabIs World.var?;rw[show(Tryz.prog).globalNamed "internal/strconv.uint64pow10" =some 0 by kernel_rfl];show(match w.heap[0]? with|some (.cells cs _ _)=>some cs|_=>none)=_
 rw[h];unfold tbC Lib.pow10Tab;simp
theorem Vz {β:Bd} {n:Nat} {F:Nat->Prop} {B:Nat} {w:World} {d:Nat}:DG β n F B w d []:=⟨λj o hj=>jj,λj o g hj=>jj,λj a o c g hj=>jj⟩
theorem Fh (n:Int) (f: -9223372036854775808<=n) (g:n<=9223372036854775807):cC 342 [.I n] [] (.s ⟨(Lib.itoa n).toArray⟩):=
 ⟨⟨_,Tryz.func342,V,rfl⟩,λw t j l q=>by
  match t,j with
  |[a],_=>
   have c:Rep0 (λ_=>False) w (.I n) a:=l 0 jS jS;have c:a= .int .i64 n:=by cases c;rfl
   subst c;refine(Any.strconv_Itoa aDz n f g w (aE1 q)).mono ?_;rintro e z ⟨rfl,k,x,rfl⟩;refine⟨_,⟨λ_=>0,λ_=>undef⟩,rfl,⟨⟨rfl,rfl,rfl,by simp[grow,World.drewN],λk h=> ?_⟩,by simp[grow,World.drewN,dz]⟩,Vz,.pure _ _ (.s _)⟩;simp only[grow,World.drewN];rw[pT h]⟩
def zM (n:Int):ByteArray:=⟨(Lib.itoa n).toArray⟩
theorem B4 {n:Int} (a: -9223372036854775808<=n) (c:n<=9223372036854775807):(zM n).size<=21:=by have:=Lib.itoa_length_le n a c;show(Lib.itoa n).toArray.size<=21;simpa using this
def RX (x:ByteArray) (c:Int):Int:=Lib.indexByte x.data.toList c.toNat.toUInt8
theorem RY (x:ByteArray) (c:Int): -1<=RX x c/\RX x c<x.size:=by
 refine⟨Lib.indexByte_ge _ _,?_⟩;show Lib.indexByte x.data.toList _<(x.data.size:Int);rw[<-zH];generalize x.data.toList=l
 induction l with
 |nil=>show(-1:Int)<(0:Int);decide
 |cons b l a=>
  unfold Lib.indexByte;rw[gR];split
  ·omega
  ·split<;>omega
theorem Rr (x:ByteArray) (c:Int):cC 380 [.s x,.i .u8 c] [] (.I (RX x c)):=
 ⟨⟨_,Tryz.func380,V,rfl⟩,λw l j h n=>by
  match l,j with
  |[a,b],_=>
   have f:Rep0 (λ_=>False) w (.s x) a:=h 0 jS jS;have f:a= .string x:=by cases f;rfl
   have g:Rep0 (λ_=>False) w (.i .u8 c) b:=h 1 jS jS;have g:b= .int .u8 c:=by cases g;rfl
   subst f g;refine(Any.stringslite_IndexByte aE0 x c w).mono ?_;rintro e q ⟨rfl,rfl⟩;exact⟨_,⟨λ_=>0,λ_=>undef⟩,rfl,Below.refl _ _,Vz,.pure _ _ (.i _ _)⟩⟩
def ls:ByteArray:=⟨#[10]⟩
def sJ (x:ByteArray):Int:=if fG ls x=true then 0 else RX x 10
theorem BJ (x:ByteArray): -1<=sJ x/\sJ x<x.size:=by
 unfold sJ;split
 ·rename_i h;rw[<-kU.1 h];exact⟨jD,jD⟩
 ·exact RY x 10
theorem aIt (x:ByteArray):cC 375 [.s x,.s ls] [] (.I (sJ x)):=by
 refine hZ Tryz.func375 [.tmp 4] [] ?_;have f:((ls.size:Int)==0)=false:=jD
 repeat apply jL
 refine jB ((ls.size:Int)==0||fG ls x) (λh=> ?_) λh=> ?_
 ·rw[f,xH] at h;refine RetIs.i ?_;unfold sJ;rw[aE h]
 ·rw[f,xH] at h
  repeat apply jL
  refine⟨λ_=> ?_,λh1=>absurd (show((ls.size:Int)==1)=false from h1) jD⟩
  repeat apply jL
  refine⟨jD,?_⟩
  refine jb (Rr x 10) ?_;refine RetIs.i ?_;unfold sJ;rw[aB jR]
def Rs (x:ByteArray):ByteArray:=if sJ x>=0 then x.extract 0 (sJ x).toNat else x
def RZ (x:ByteArray):ByteArray:=if sJ x>=0 then x.extract (sJ x+1).toNat x.size else gB
theorem SA (x:ByteArray) (j:x.size<9223372036854775807):cC 370 [.s x,.s ls] [] (.tup [.s (Rs x),.s (RZ x),.b (decide (sJ x>=0))]):=by
 refine hZ Tryz.func370 [.tmp 4,.tmp 5,.tmp 6] [] ?_;have g:=BJ x
 refine jb (aIt x) ?_
 repeat apply jL
 refine jB (decide (sJ x>=0)) (λh=> ?_) λh=> ?_
 ·have f:sJ x>=0:=jH
  have w1:IntKind.i64.wrap (sJ x+(ls.size:Int))=sJ x+1:=wr (n:=sJ x+1) J J;unfold Rs RZ;rw[aE f,aE f,h];refine⟨⟨J,J,J⟩,⟨by rw[w1];omega,by rw[w1];omega,J⟩,?_⟩;refine RetIs.v rfl rfl ?_;show eV (.tup [.s (x.extract 0 (sJ x).toNat),.s (x.extract (sJ x+1).toNat x.size),.b true]) (.tup [.s (x.extract (0:Int).toNat (sJ x).toNat),.s (x.extract (IntKind.i64.wrap (sJ x+(ls.size:Int))).toNat (x.size:Int).toNat),.b true]);rw[w1];exact eV.refl _
 ·have f: ¬sJ x>=0:=jH
  unfold Rs RZ;rw[aB f,aB f,h];exact RetIs.v rfl rfl rfl
theorem ZN (x:ByteArray) (e:x.size<9223372036854775807):cC 367 [.s x,.s ls] [] (.tup [.s (Rs x),.s (RZ x),.b (decide (sJ x>=0))]):=by
 refine hZ Tryz.func367 [.tmp 4,.tmp 5,.tmp 6] [] ?_
 refine jb (SA x e) ?_;exact RetIs.v rfl rfl rfl
def zB (x:ByteArray) (m:Int):ByteArray:=(Rs x).extract 0 (min ((Rs x).size:Int) (max m 0)).toNat
theorem SB (x:ByteArray) (e:x.size<9223372036854775807) (m:Int):cC 358 [.s x,.I m] [] (.s (zB x m)):=by
 refine hZ Tryz.func358 [.tmp 4] [] ?_
 refine jb (ZN x e) ?_
 repeat apply jL
 exact⟨J,RetIs.v rfl rfl rfl⟩
def wF (x:ByteArray) (sz:Int):Nat->ByteArray
 |0=>x
 |k+1=>(wF x sz k).extract sz.toNat (wF x sz k).size
def Av (x:ByteArray) (sz mo:Int) (k:Nat):Bool:=decide (((wF x sz k).size:Int)>sz)&&decide ((k:Int)<mo-1)
def CS (l:List ByteArray) (k:Nat):List AV:=[.s (l.getD k gB)]
def F3 (x:ByteArray) (sz:Int) (k:Nat):List ByteArray:=(List.range k).map λj=>(wF x sz j).extract 0 sz.toNat
def Wa:ByteArray:=⟨#[43]⟩
def Ru (y:ByteArray) (sz:Int):ByteArray:=if(y.size:Int)>sz then y.extract 0 (sz-1).toNat++Wa else y
def xu (x:ByteArray) (sz mo:Int):Nat->Nat->Nat
 |0,k=>k
 |f+1,k=>if Av x sz mo k=true then xu x sz mo f (k+1) else k
def oT (x:ByteArray) (sz mo:Int):List ByteArray:=F3 x sz (xu x sz mo mo.toNat 0)++[Ru (wF x sz (xu x sz mo mo.toNat 0)) sz]
theorem Wb {x:ByteArray} {sz mo:Int} {k:Nat} (h:Av x sz mo k=false): ∀(f j:Nat),j<=k->k<=j+f->(∀i,i<k->Av x sz mo i=true)->xu x sz mo f j=k
 |0,j,c,e,_=>by unfold xu;omega
 |f+1,j,c,e,a=>by
  unfold xu;by_cases g:j=k
  ·rw[g,aB jR]
  ·rw[aE (a j J)];exact Wb h f (j+1) J J a
theorem Lm (x:ByteArray) {sz:Int}: ∀k,(wF x sz k).size<=x.size
 |0=>aG _
 |k+1=>by have:=Lm x (sz:=sz) k;unfold wF;rw[jZ];omega
theorem Ln (x:ByteArray) (sz:Int) (k:Nat):F3 x sz (k+1)=F3 x sz k++[(wF x sz k).extract 0 sz.toNat]:=by unfold F3;rw[iN,fJ];rfl
theorem f9 (x:ByteArray) (sz:Int) (k:Nat):(F3 x sz k).length=k:=by simp[F3]
theorem VJ (l:List ByteArray) (y:ByteArray): ∀k,k<(l++[y]).length->iJ l.length (CS l) (kJ 1 [.s y]) k=CS (l++[y]) k:=λq a=>by
 rw[bD,cD] at a;unfold iJ CS;rw[zv];by_cases hq2:q<l.length
 ·rw[aE hq2,aE hq2]
 ·exact mJ
theorem Lo (x:ByteArray) (K:x.size<9223372036854775807) (sz mo:Int) (h1:2<=sz) (h2:sz<2^62) (G:1<=mo) (H:mo<=1000):cC 341 [.s x,.I sz,.I mo] [.row 9 1 (oT x sz mo).length (CS (oT x sz mo))] (.so 0):=by
 refine hZ Tryz.func341 [.tmp 6] [] ?_
 repeat apply jL
 refine⟨λh=> ?_,λh=> ?_⟩
 ·have h:(decide (sz<2)||decide (mo<1))=true:=h;rw[gZ J,gZ J] at h;cases h
 repeat apply jL
 refine⟨[(7,9,1)],Nat,λk=>k<=mo.toNat/\ ∀j,j<k->Av x sz mo j=true,λk=>[⟨0,[],.s (wF x sz k)⟩,⟨7,[],.so 0⟩],λk=>[⟨0,[],.row 9 1 k (CS (F3 x sz k))⟩],λk=>mo.toNat-k,
  ⟨0,[],⟨bI _,λj n=>absurd n (dU j)⟩,rfl,rfl,rfl,rfl,rfl,nT,nX⟩,?_⟩
 rintro k ⟨t,l⟩;have t:k<=mo.toNat:=t;have w1:IntKind.i64.wrap (mo-1)=mo-1:=wr J J;have F:=Lm x (sz:=sz) k;refine .inl ⟨λf=> ?_,λf=> ?_⟩
 ·have f:(decide (((wF x sz k).size:Int)>sz)&&decide ((k:Int)<IntKind.i64.wrap (mo-1)))=true:=f;rw[w1] at f;have E:Av x sz mo k=true:=f;rw[aW,aM,aM] at f;have D:wF x sz (k+1)=(wF x sz k).extract sz.toNat ((wF x sz k).size:Int).toNat:=rfl;refine⟨J,oJ J,J,?_⟩;refine⟨k+1,[(0,2)],⟨J,λj n=> ?_⟩,jM,rfl,rfl,rfl,rfl,rfl,⟨fW AV.s D.symm,rfl⟩,⟨rfl,rfl,rfl,λq hq=> ?_⟩⟩
  ·by_cases C:j=k
   ·rw[C];exact E
   ·exact l j J
  ·have:=VJ (F3 x sz k) ((wF x sz k).extract 0 sz.toNat) q (by simp[f9];omega);rw[f9,<-Ln] at this;exact this
 ·have f:(decide (((wF x sz k).size:Int)>sz)&&decide ((k:Int)<IntKind.i64.wrap (mo-1)))=false:=f;rw[w1] at f;have z:xu x sz mo mo.toNat 0=k:=Wb f mo.toNat 0 (bI _) J l;refine aN ⟨[],Unit,λ_=>True,λ_=>[⟨0,[],.s (Ru (wF x sz k) sz)⟩],λ_=>[],?_,λ_ _=> ?_⟩
  ·repeat apply jL
   refine jB (decide (((wF x sz k).size:Int)>sz)) (λg=> ?_) λg=> ?_
   ·have g:((wF x sz k).size:Int)>sz:=by simpa using g
    have w2:IntKind.i64.wrap (sz-1)=sz-1:=wr J J;have e:Ru (wF x sz k) sz=(wF x sz k).extract (0:Int).toNat (IntKind.i64.wrap (sz-1)).toNat++Wa:=by unfold Ru;rw[aE g,w2];rfl
    refine⟨by rw[w2];omega,?_,⟨(),[],trivial,rfl,rfl,rfl,rfl,rfl,fW AV.s e.symm,trivial⟩⟩;have:Wa.size=1:=rfl;rw[jZ];show _+Wa.size<=_;omega
   ·have e:Ru (wF x sz k) sz=wF x sz k:=by unfold Ru;rw[aB (by simpa using g)]
    exact⟨(),[],trivial,rfl,rfl,rfl,rfl,rfl,fW AV.s e.symm,trivial⟩
  refine⟨oJ J,?_⟩;have w:(oT x sz mo).length=k+1:=by unfold oT;rw[z];simp[f9]
  refine RetIs.so rfl w.symm (λq hq=> ?_) (λq hq=>rfl);rw[w] at hq;unfold oT;rw[z];have:=VJ (F3 x sz k) (Ru (wF x sz k) sz) q (by simp[f9];omega);rw[f9] at this;exact this
end Go.Proofs.YtpnjmojpeaegoaaGreatDoor
namespace Go.Proofs.YtpnjmojpeaegoaaGreatDoor
open Go.Eng Go.Qu
def mB (E:List Ev) (id than:Int):Bool:=((decide (0<=id)&&decide (id<than))&&decide (id<(E.length:Int)))&&(E.getD id.toNat dE).k==0
theorem lu {E:List Ev} {id than:Int} (h:mB E id than=true):0<=id/\id<than/\id<E.length/\(E.getD id.toNat dE).k=0:=by unfold mB at h;rw[aW,aW,aW,aM,aM,aM,cH] at h;exact⟨h.1.1.1,h.1.1.2,h.1.2,h.2⟩
def V3 (E:List Ev) (id:Int):Bool:=(decide (id>=0)&&decide (id<(E.length:Int)))&&(E.getD id.toNat dE).k==0
theorem dk {E:List Ev} {id:Int} (h:V3 E id=true):0<=id/\id<E.length/\(E.getD id.toNat dE).k=0:=by unfold V3 at h;rw[aW,aW,aM,aM,cH] at h;exact⟨h.1.1,h.1.2,h.2⟩
theorem gd2 {a b:Bool} (h:(a&&b)=true/\True):a=true/\b=true:=by simpa using h.1
theorem Wc (E:List Ev) (id:Int):cC 365 [.rs 12 E.length (rE E),.I id] [] (.b (V3 E id)):=by
 refine hZ Tryz.func365 [.tmp 4] [] ?_
 repeat apply jL
 refine⟨λh=> ?_,?_⟩
 ·have:=gd2 h;rw[aM,aM] at this;omega
 exact RetIs.b rfl
def z4 (E:List Ev) (id:Int):Int:=if(decide ((E.getD id.toNat dE).t<id)&&V3 E (E.getD id.toNat dE).t)=true then(E.getD id.toNat dE).t else-1
theorem JL (E:List Ev) (id:Int) (f:0<=id) (h1:id<E.length):cC 366 [.rs 12 E.length (rE E),.I id] [] (.I (z4 E id)):=by
 refine hZ Tryz.func366 [.tmp 4] [] ?_
 repeat apply jL
 refine⟨⟨f,h1⟩,?_⟩
 refine jc (Wc E _) ?_
 repeat apply jL
 refine jB (decide ((E.getD id.toNat dE).t<id)&&V3 E (E.getD id.toNat dE).t) (λh=> ?_) λh=> ?_
 ·refine RetIs.i ?_;unfold z4;rw[aE h]
 ·refine RetIs.i ?_;unfold z4;rw[aB jR]
theorem Wd {E:List Ev} {id:Int} (h:z4 E id>=0):0<=z4 E id/\z4 E id<id/\z4 E id<E.length:=by
 unfold z4 at h|-;split at h
 ·rename_i a;rw[aE a];rw[aW,aM] at a;have:=dk a.2;omega
 ·omega
def dp (E:List Ev):Nat->Int->Int
 |0,id=>id
 |f+1,id=>if z4 E id>=0 then dp E f (z4 E id) else id
theorem vr (E:List Ev): ∀(f g:Nat) (id:Int),0<=id->id.toNat<f->id.toNat<g->dp E f id=dp E g id
 |f+1,g+1,id,a,c,e=>by
  unfold dp;split
  ·rename_i h;have:=Wd h;exact vr E f g _ this.1 J J
  ·rfl
def Aw (E:List Ev) (id:Int):Int:=if(!V3 E id)=true then-1 else dp E (id.toNat+1) id
theorem SC (E:List Ev) (id:Int):cC 357 [.rs 12 E.length (rE E),.I id] [] (.I (Aw E id)):=by
 refine hZ Tryz.func357 [.tmp 4] [] ?_
 refine jb (Wc E id) ?_
 repeat apply jL
 refine jB (!V3 E id) (λh=> ?_) λh=> ?_
 ·refine RetIs.i ?_;unfold Aw;rw[aE h]
 have j:=dk (E:=E) (id:=id) jH;have n:Aw E id=dp E (id.toNat+1) id:=by unfold Aw;rw[aB jR]
 refine jb (JL E id j.1 j.2.1) ?_
 repeat apply jL
 refine⟨[],Int,λx=>0<=x/\x<E.length/\Aw E id=dp E (x.toNat+1) x,λx=>[⟨1,[],.I x⟩,⟨5,[],.I (z4 E x)⟩],λ_=>[],λx=>x.toNat,
  ⟨id,[],⟨j.1,j.2.1,n⟩,rfl,rfl,rfl,rfl,rfl,⟨nT,nT⟩,trivial⟩,?_⟩
 rintro x ⟨t,w,l⟩;refine .inl ⟨λf=> ?_,λf=> ?_⟩
 ·have f:decide (z4 E x>=0)=true:=f;have f:z4 E x>=0:=by simpa using f
  have g:=Wd f
  refine jb (JL E (z4 E x) g.1 g.2.2) ?_;refine⟨z4 E x,[],⟨g.1,g.2.2,?_⟩,jM,rfl,rfl,rfl,rfl,rfl,⟨nT,nT⟩,trivial⟩;rw[l];show(if z4 E x>=0 then dp E x.toNat (z4 E x) else x)=_;rw[aE f];exact vr E _ _ _ g.1 J J
 ·have f:decide (z4 E x>=0)=false:=f;have f: ¬z4 E x>=0:=by simpa using f
  refine RetIs.i ?_;rw[l];show x=if z4 E x>=0 then dp E x.toNat (z4 E x) else x;rw[aB f]
structure EvW (e:Ev):Prop where
 x:e.x.size<=4000
 cs:e.cs.length<=8
 fs:e.fs.length<=4
 f: ∀f∈e.fs,0<=f/\f<=1073741824
 n: -1000000<=e.n/\e.n<=1000000
 w: -1000000<=e.w/\e.w<=1000000
def wO (E:List Ev):Prop:=E.length<1000000/\ ∀e∈E,EvW e
theorem wO.at {E:List Ev} (h:wO E) {id:Int} (a:0<=id) (c:id<E.length):EvW (E.getD id.toNat dE):=h.2 _ (vM J)
abbrev Rv (p:Pf_q0) (E:List Ev) (bad:List Int):List AV:=p.cs (.rs 1 p.types.length (rB p.types))++[.rs 2 9 (VH (cp p)),.rs 12 E.length (rE E),.rs 1 bad.length (rI bad)]
def L8 (p:Pf_q0) (c:Int):Bool:=((cp p).getD c.toNat (0,0)).1==0
theorem t9 (p:Pf_q0) (E:List Ev) (bad:List Int) (c:Int) (e:0<=c) (f:c<9):cC 336 [.ag (Rv p E bad),.I c] [] (.b (L8 p c)):=by
 refine hZ Tryz.func336 [.tmp 4] [] ?_
 repeat apply jL
 exact⟨⟨J,J⟩,RetIs.b rfl⟩
theorem dr (p:Pf_q0) (E:List Ev) (bad:List Int) (id than:Int):cC 332 [.ag (Rv p E bad),.I id,.I than] [] (.b (mB E id than)):=by
 refine hZ Tryz.func332 [.tmp 6] [] ?_
 repeat apply jL
 refine⟨λh=> ?_,RetIs.b rfl⟩;have h:=h.1;have h:((decide (0<=id)&&decide (id<than))&&decide (id<(E.length:Int)))=true:=h;rw[aW,aW,aM,aM,aM] at h;omega
def ZO (E:List Ev) (e:Ev) (id:Int):Bool:= !mB E e.t id||(E.getD e.t.toNat dE).g !=e.g
def vt (E:List Ev) (e:Ev) (id:Int):Bool:=if ZO E e id=true then false else e.k !=1||e.a==(E.getD e.t.toNat dE).a
theorem ZP (p:Pf_q0) (E:List Ev) (bad:List Int) (id:Int) (g:0<=id) (h1:id<E.length):cC 289 [.ag (Rv p E bad),.I id] [] (.b (vt E (E.getD id.toNat dE) id)):=by
 refine hZ Tryz.func289 [.tmp 4] [] ?_
 repeat apply jL
 refine⟨⟨J,J⟩,?_⟩
 refine jb (dr p E bad _ _) ?_
 repeat apply jL
 refine⟨λh=> ?_,?_⟩
 ·have h:=h.1;have h:(!mB E (E.getD id.toNat dE).t id)=false:=h;have:=lu (E:=E) (id:=(E.getD id.toNat dE).t) (than:=id) jH;omega
 repeat apply jL
 refine jB (ZO E (E.getD id.toNat dE) id) (λh=> ?_) λh=> ?_
 ·refine RetIs.b ?_;unfold vt;rw[aE h]
 have f:mB E (E.getD id.toNat dE).t id=true:=by have:=(bT.1 h).1;simpa using this
 have f:=lu f
 repeat apply jL
 refine⟨λ_=>⟨J,J⟩,?_⟩;refine RetIs.b ?_;unfold vt;rw[aB jR]
theorem L9 (x:ByteArray) (m:Int):(zB x m).size<=x.size:=by
 unfold zB Rs;rw[jZ];split
 ·rw[jZ];omega
 ·omega
theorem vu (p:Pf_q0) (E:List Ev) (f:wO E) (bad:List Int) (id:Int) (c:0<=id) (e:id<E.length):cC 338 [.ag (Rv p E bad),.I id] [] (.s (zB (E.getD id.toNat dE).x 20)):=by
 refine hZ Tryz.func338 [.tmp 4] [] ?_
 repeat apply jL
 refine⟨⟨J,J⟩,?_⟩;have:=(f.at c e).x
 repeat apply jL
 refine⟨[],_,SB (E.getD id.toNat dE).x J 20,?_⟩;exact RetIs.v rfl rfl rfl
def ZQ (p:Pf_q0) (bad o:List Int) (f:Int):Bool:=decide ((o.length:Int)<p.files)&& !decide (f∈bad)
def u9 (p:Pf_q0) (bad fs:List Int):List Int:=fs.foldl (λo f=>if ZQ p bad o f=true then o++[f] else o) []
theorem Ax (p:Pf_q0) (bad fs:List Int) {k:Nat} (h:k<fs.length):u9 p bad (fs.take (k+1))=if ZQ p bad (u9 p bad (fs.take k)) (fs.getD k 0)=true then u9 p bad (fs.take k)++[fs.getD k 0] else u9 p bad (fs.take k):=by unfold u9;exact uK _ _ _ _ _ h
theorem Lp (p:Pf_q0) (bad fs:List Int): ∀k,k<=fs.length->(u9 p bad (fs.take k)).length<=k:=by
 intro k
 induction k with
 |zero=>intro _;exact aG _
 |succ k a=>
  intro c;have:=a J;rw[Ax p bad fs J];split
  ·rw[bD,cD];omega
  ·omega
theorem Ay (p:Pf_q0) (E:List Ev) (bad fs:List Int) (n:bad.length<2^62) (t:fs.length<=1000):cC 337 [.ag (Rv p E bad),.rs 1 fs.length (rI fs)] [.row 3 1 (u9 p bad fs).length (rI (u9 p bad fs))] (.so 0):=by
 refine hZ Tryz.func337 [.tmp 4] [] ?_
 repeat apply jL
 refine⟨[(5,3,1)],Nat,λk=>k<=fs.length,λk=>[⟨10,[],.I k⟩,⟨5,[],.so 1⟩],λk=>[⟨1,[],.row 3 1 (u9 p bad (fs.take k)).length (rI (u9 p bad (fs.take k)))⟩],λk=>fs.length-k,
  np,?_⟩
 intro k l;have l:k<=fs.length:=l;have w:=Lp p bad fs k l;refine .inl ⟨λf=> ?_,λf=> ?_⟩
 ·have f:=pH f;have f:(k:Int)<fs.length:=f;have j:(k:Int).toNat=k:=aQ k
  repeat apply jL
  refine⟨⟨J,J⟩,?_⟩
  refine jc (wN bad n _) ?_;have g:=Ax p bad fs (k:=k) J
  repeat apply jL
  refine jB (ZQ p bad (u9 p bad (fs.take k)) (fs.getD (k:Int).toNat 0)) (λh=> ?_) λh=> ?_
  ·rw[j] at h;rw[aE h] at g;refine⟨oJ J,?_⟩;refine⟨k+1,[(1,3)],J,jM,rfl,rfl,rfl,rfl,rfl,⟨nV,rfl⟩,⟨rfl,rfl,by rw[g];simp,λq hq=> ?_⟩⟩;rw[g] at hq|-;have:=Sa.snocI (u9 p bad (fs.take k)) (fs.getD k 0) q hq;rw[<-this];rw[j];rfl
  ·rw[j] at h;rw[aB jR] at g;exact⟨k+1,[],J,jM,rfl,rfl,rfl,rfl,rfl,⟨nV,rfl⟩,⟨rfl,rfl,by rw[g],λq hq=>by rw[g]⟩⟩
 ·have f:=iT f;have f:(fs.length:Int)<=k:=f;obtain rfl:k=fs.length:=J
  exact RetIs.so rfl (by rw[eJ]) (λq _=>by rw[eJ]) (λ_ _=>rfl)
theorem Az (p:Pf_q0) (E:List Ev) (bad fs:List Int) (a:bad.length<2^62) (c:fs.length<=1000):cA 337 [.ag (Rv p E bad),.rs 1 fs.length (rI fs)] (.rs 1 (u9 p bad fs).length (rI (u9 p bad fs))):=
 j8.frz (Ay p E bad fs a c) (by constructor<;>first|exact rfl|exact λk e=>rfl|exact⟨rfl,λk e=>rfl⟩)
def lv:ByteArray:=⟨#[10,91,102,105,108,101,32]⟩
def ZR:ByteArray:=⟨#[93]⟩
def V4 (but fs:List Int):ByteArray:=fs.foldl (λs f=>if decide (f∈but)=true then s else s++(lv++zM f++ZR)) gB
theorem Ba (but fs:List Int) {k:Nat} (h:k<fs.length):V4 but (fs.take (k+1))=if decide (fs.getD k 0∈but)=true then V4 but (fs.take k) else V4 but (fs.take k)++(lv++zM (fs.getD k 0)++ZR):=by unfold V4;exact uK _ _ _ _ _ h
theorem pw {but fs:List Int} (a: ∀f∈fs,0<=f/\f<=1073741824): ∀k,k<=fs.length->(V4 but (fs.take k)).size<=29*k:=by
 intro k
 induction k with
 |zero=>intro _;exact aG _
 |succ k c=>
  intro h;have:=c J;rw[Ba but fs J];have g:=a _ (vM (d:=0) (show k<fs.length by omega));have e:=B4 (n:=fs.getD k 0) J J;split
  ·omega
  ·rw[cI,cI,cI];have:lv.size=7:=rfl;have:ZR.size=1:=rfl;omega
theorem Bb (fs but:List Int) (H:fs.length<=1000) (z:but.length<2^62) (w: ∀f∈fs,0<=f/\f<=1073741824):cC 339 [.rs 1 fs.length (rI fs),.rs 1 but.length (rI but)] [] (.s (V4 but fs)):=by
 refine hZ Tryz.func339 [.tmp 4] [] ?_
 repeat apply jL
 refine⟨[],Nat,λk=>k<=fs.length,λk=>[⟨10,[],.I k⟩,⟨5,[],.s (V4 but (fs.take k))⟩],λk=>[],λk=>fs.length-k,
  ⟨0,[],bI _,rfl,rfl,rfl,rfl,rfl,⟨nT,rfl⟩,trivial⟩,?_⟩
 intro k t;have t:k<=fs.length:=t;have D:=pw (but:=but) w k t;refine .inl ⟨λg=> ?_,λg=> ?_⟩
 ·have g:=pH g;have g:(k:Int)<fs.length:=g;have j:(k:Int).toNat=k:=aQ k;have C:=w _ (vM (d:=0) (show k<fs.length by omega));have x:=C;rw[<-j] at x
  repeat apply jL
  refine⟨⟨J,J⟩,?_⟩
  refine jb (wN but z _) ?_;have l:=Ba but fs (k:=k) J
  repeat apply jL
  refine jB (!decide (fs.getD (k:Int).toNat 0∈but)) (λh=> ?_) λh=> ?_
  ·rw[j] at h;rw[aB jH] at l
   repeat apply jL
   refine⟨[],_,Fh _ J J,?_⟩;have E:=B4 (n:=fs.getD (k:Int).toNat 0) J J;have F:lv.size=7:=rfl;have G:ZR.size=1:=rfl;refine⟨by show lv.size+(zM (fs.getD (k:Int).toNat 0)).size<=_;omega,?_⟩;refine⟨by show(lv++zM (fs.getD (k:Int).toNat 0)).size+ZR.size<=_;rw[cI];omega,?_⟩;refine⟨by show(V4 but (fs.take k)).size+(lv++zM (fs.getD (k:Int).toNat 0)++ZR).size<=_;rw[cI,cI];omega,?_⟩;have e:V4 but (fs.take k)++(lv++zM (fs.getD (k:Int).toNat 0)++ZR)=V4 but (fs.take (k+1)):=by rw[l,j]
   exact⟨k+1,[],J,jM,rfl,rfl,rfl,rfl,rfl,⟨nV,fW AV.s e⟩,trivial⟩
  ·rw[j] at h;rw[aE jH] at l;exact⟨k+1,[],J,jM,rfl,rfl,rfl,rfl,rfl,⟨nV,fW AV.s l.symm⟩,trivial⟩
 ·have g:=iT g;have g:(fs.length:Int)<=k:=g;obtain rfl:k=fs.length:=J
  rw[eJ];exact RetIs.v rfl rfl rfl
abbrev gV (s:Stp0) (P:List Pf_q0) (st:Sta_q0) (o:AV):List AV:=s.av++[.rs 22 P.length (Rk P),.rs 1 P.length (rWs P)]++st.av++[o]
theorem JM (l:List Snt) (f:l.length<2^62) (a:FuncId) (c e:List AV) (p:Snt->Bool) (hp: ∀x∈l,cC a [.ag x.av,.rp c,.rp e] [] (.b (p x))):cC 203 [.rs 3 l.length (db l),.fn a [.rp c,.rp e]] [] (.I (fx l.length λk=>p (l.getD k oK))):=by
 refine hZ Tryz.func203 [.tmp 4] [] ?_
 let dq:=oK
 exact m3
theorem BK (l:List Snt) (f:l.length<2^62) (a:FuncId) (c e:List AV) (p:Snt->Bool) (g: ∀x∈l,cC a [.ag x.av,.rp c,.rp e] [] (.b (p x))):cC 116 [.rs 3 l.length (db l),.fn a [.rp c,.rp e]] [] (.b (l.any p)):=by refine hZ Tryz.func116 [.tmp 4] [] ?_;exact .inl ⟨[],_,JM l f a c e p g,RetIs.b ((l3 _ _).trans (rL l oK p))⟩
def aG9 (st:Sta_q0) (n id:Int):Bool:=st.sent.any λx=>x.e==id&&x.n==n
def aHc (st:Sta_q0) (n id:Int):Bool:=if(lQ (st.ev.getD id.toNat dE).a==n)=true then true else aG9 st n id
theorem JN (id n:Int) (x:Snt):cC 204 [.ag x.av,.rp [.I id],.rp [.I n]] [] (.b (x.e==id&&x.n==n)):=by refine hZ Tryz.func204 [.tmp 4] [] ?_;exact RetIs.b rfl
theorem Fi (s:Stp0) (P:List Pf_q0) (st:Sta_q0) (o:AV) (n id:Int) (f:0<=id) (g:id<st.ev.length) (e:st.sent.length<2^62):cC 119 [.rp (gV s P st o),.I n,.I id] [] (.b (aHc st n id)):=by
 refine hZ Tryz.func119 [.tmp 6] [(2000001,[.frz 0 [0]])] ?_
 repeat apply jL
 refine⟨⟨J,J⟩,?_⟩
 refine jb (uM _) ?_
 repeat apply jL
 refine⟨λh=> ?_,λh=> ?_⟩
 ·have h:(lQ (st.ev.getD id.toNat dE).a==n)=true:=h;refine RetIs.b ?_;unfold aHc;rw[aE h]
 ·have h:(lQ (st.ev.getD id.toNat dE).a==n)=false:=h
  repeat apply jL
  refine⟨[],_,BK st.sent e 204 _ _ _ (λx _=>JN id n x),?_⟩;refine RetIs.b ?_;unfold aHc;rw[aB jR];rfl
theorem Fj (s:Stp0) (P:List Pf_q0) (st:Sta_q0) (o:AV) (id:Int):cC 118 [.rp (gV s P st o),.I id] [] (.b (V3 st.ev id)):=by
 refine hZ Tryz.func118 [.tmp 4] [] ?_
 repeat apply jL
 refine⟨λh=> ?_,RetIs.b rfl⟩;have h:=gd2 h;rw[aM,aM] at h;omega
def SD (st:Sta_q0) (id:Int):Bool:=Sa.Decide st.holds st.ords id st.step !=0
theorem px (s:Stp0) (P:List Pf_q0) (st:Sta_q0) (o:AV) (id:Int) (e:st.holds.length<2^62) (f:st.ords.length<2^62):cC 110 [.rp (gV s P st o),.I id] [] (.b (SD st id)):=by
 refine hZ Tryz.func110 [.tmp 4] [] ?_
 refine jb (Sa.Decide_fn st.holds e st.ords f id st.step) ?_;exact RetIs.b rfl
def SE (st:Sta_q0) (g a:Int):Bool:=decide (a∈Sa.Memb (Sa.evs st.ev) g (Sa.cut st.ev st.ev.length))
theorem JO {n:Int} (e: -9223372036854775808<=n) (f:n<=9223372036854775807):(Lit.int .i64 n).wf=true:=by
 have a:IntKind.min .i64= -9223372036854775808:=jD
 have c:IntKind.max .i64=9223372036854775807:=jD
 simp only[Lit.wf,a,c,aW,aM];omega
theorem wO.wf {E:List Ev} (h:wO E): ∀x∈E,(Lit.int .i64 x.w).wf=true:=λx a=>by have:=(h.2 x a).w;exact JO J J
theorem Fk (s:Stp0) (P:List Pf_q0) (st:Sta_q0) (o:AV) (g a:Int) (c:wO st.ev):cC 193 [.rp (gV s P st o),.I g,.I a] [] (.b (SE st g a)):=by
 refine hZ Tryz.func193 [.tmp 6] [] ?_;have e:=Sa.cut_le st.ev st.ev.length;have f:=Sa.Memb_len (Sa.evs st.ev) g (Sa.cut st.ev st.ev.length);have j:=c.1
 repeat apply jL
 refine⟨[.row 3 1 (Sa.Memb (Sa.evs st.ev) g (Sa.cut st.ev st.ev.length)).length (rI (Sa.Memb (Sa.evs st.ev) g (Sa.cut st.ev st.ev.length)))],_,Sa.Members_fn st.ev c.1 c.wf g st.ev.length,?_⟩
 repeat apply jL
 refine⟨[],_,wN (Sa.Memb (Sa.evs st.ev) g (Sa.cut st.ev st.ev.length)) J a,?_⟩;exact RetIs.b rfl
def O4 (P:List Pf_q0) (E:List Ev) (n:Int) (k:Nat):List Ev:=(List.range k).map λi:Nat=>if(!vq P E n i)=true then lZ (E.getD i dE) else E.getD i dE
theorem zC (P:List Pf_q0) (E:List Ev) (n:Int) (k:Nat):(O4 P E n k).length=k:=by simp[O4]
theorem Lq (P:List Pf_q0) (E:List Ev) (n:Int) (k:Nat):O4 P E n (k+1)=O4 P E n k++[if(!vq P E n k)=true then lZ (E.getD k dE) else E.getD k dE]:=by unfold O4;rw[iN,fJ];rfl
theorem Fl (l:List Ev) (x:Ev): ∀k,k<(l++[x]).length->iJ l.length (rE l) (kJ 12 x.av) k=rE (l++[x]) k:=λq a=>by
 rw[bD,cD] at a;unfold iJ rE;rw[zv];by_cases hq2:q<l.length
 ·rw[aE hq2,aE hq2]
 ·exact mJ
theorem BL (s:Stp0) (P:List Pf_q0) (x:P.length<2^62) (st:Sta_q0) (o:AV) (n:Int) (l:wO st.ev):cM 137 true [] [.rp (gV s P st o),.I n] (λ_:Unit=>True) (λ_=>[]) (λ_=>[.row 64 12 st.ev.length (rE (O4 P st.ev n st.ev.length))]) (λ_=> .so 0):=by
 refine sE Tryz.func137 [.tmp 4] [] ?_;have z:=l.1
 repeat apply jL
 refine⟨[(5,64,12)],Nat,λk=>k<=st.ev.length,λk=>[⟨14,[],.I k⟩,⟨5,[],.so 0⟩],λk=>[⟨0,[],.row 64 12 k (rE (O4 P st.ev n k))⟩],λk=>st.ev.length-k,
  np,?_⟩
 intro k t;have t:k<=st.ev.length:=t;refine .inl ⟨λf=> ?_,λf=> ?_⟩
 ·have f:=pH f;have f:(k:Int)<st.ev.length:=f;have C:(k:Int).toNat=k:=aQ k;have w:=l.at (id:=k) J J
  repeat apply jL
  refine⟨⟨J,J⟩,?_⟩
  refine jb (JK P x st.ev z n k) ?_;have j:=Lq P st.ev n k;have D:k+1<=1000000:=J
  repeat apply jL
  refine jB (!vq P st.ev n k) (λh=> ?_) λh=> ?_
  ·rw[aE h] at j;refine aN (eX ?_);refine⟨_,bx (st.ev.getD (k:Int).toNat dE) (by have:=w.cs;omega) (by have:=w.fs;omega),?_⟩
   repeat apply jL
   refine⟨oJ J,?_⟩;refine⟨k+1,[(0,3)],J,jM,rfl,rfl,rfl,rfl,rfl,⟨nV,rfl⟩,⟨rfl,rfl,rfl,λq hq=> ?_⟩⟩;have hq:q<k+1:=hq;have g:=Fl (O4 P st.ev n k) (lZ (st.ev.getD k dE)) q (by rw[bD,zC];exact hq);rw[zC,<-j] at g;exact g
  ·rw[aB jR] at j
   repeat apply jL
   refine⟨oJ J,?_⟩;refine⟨k+1,[(0,3)],J,jM,rfl,rfl,rfl,rfl,rfl,⟨nV,rfl⟩,⟨rfl,rfl,rfl,λq hq=> ?_⟩⟩;have hq:q<k+1:=hq;have g:=Fl (O4 P st.ev n k) (st.ev.getD k dE) q (by rw[bD,zC];exact hq);rw[zC,<-j] at g;exact g
 ·have f:=iT f;have f:(st.ev.length:Int)<=k:=f;obtain rfl:k=st.ev.length:=J
  exact⟨(),[(0,0)],trivial,nj,rfl,λh=>jC⟩
def aGx (st:Sta_q0) (k:Nat):List Int:=((st.bad.take k).filter λv=>Sa.Bad st.bad v.name st.step).map Sa.Ver.name
theorem aIu (st:Sta_q0) (k:Nat) (h:k<st.bad.length):aGx st (k+1)=if Sa.Bad st.bad (st.bad.getD k Sa.dV).name st.step=true then aGx st k++[(st.bad.getD k Sa.dV).name] else aGx st k:=by
 unfold aGx;rw[bS h,gS,xE h];by_cases a:Sa.Bad st.bad st.bad[k].name st.step=true
 ·rw[aE a,iW,aE a,yJ,fJ];rfl
 ·rw[aB a,iW,aB a,yJ,lE]
theorem ds (st:Sta_q0) (k:Nat):(aGx st k).length<=st.bad.length:=by unfold aGx;rw[fC];refine cO (gC _ _) ?_;rw[cT];omega
def aHk (st:Sta_q0):List Int:=Sa.setI_q0 (aGx st st.bad.length)
theorem We (s:Stp0) (P:List Pf_q0) (st:Sta_q0) (o:AV) (x:st.bad.length<=900000):cC 135 [.rp (gV s P st o)] [.row 3 1 (aHk st).length (rI (aHk st))] (.so 0):=by
 refine hZ Tryz.func135 [.tmp 2] [] ?_
 repeat apply jL
 refine⟨[(3,3,1)],Nat,λk=>k<=st.bad.length,λk=>[⟨12,[],.I k⟩,⟨3,[],.so 0⟩],λk=>[⟨0,[],.row 3 1 (aGx st k).length (rI (aGx st k))⟩],λk=>st.bad.length-k,
  np,?_⟩
 intro k n;have n:k<=st.bad.length:=n;have z:=ds st k;refine .inl ⟨λf=> ?_,λf=> ?_⟩
 ·have f:=pH f;have f:(k:Int)<st.bad.length:=f;have l:(k:Int).toNat=k:=aQ k;have g:=aIu st k J
  repeat apply jL
  refine⟨⟨J,J⟩,?_⟩
  repeat apply jL
  refine⟨[],_,Sa.BadV_fn st.bad J (st.bad.getD (k:Int).toNat Sa.dV).name st.step,?_⟩
  repeat apply jL
  refine jB (Sa.Bad st.bad (st.bad.getD (k:Int).toNat Sa.dV).name st.step) (λh=> ?_) λh=> ?_
  ·rw[l] at h;rw[aE h] at g
   repeat apply jL
   refine⟨oJ J,?_⟩;refine⟨k+1,[(0,3)],J,jM,rfl,rfl,rfl,rfl,rfl,⟨nV,rfl⟩,⟨rfl,rfl,by rw[g,bD];rfl,λq hq=> ?_⟩⟩;rw[g] at hq|-;exact Sa.snocI _ _ q hq
  ·rw[l] at h;rw[aB jR] at g;have w:eN (.row 3 1 (aGx st (k+1)).length (rI (aGx st (k+1)))) (.row 3 1 (aGx st k).length (rI (aGx st k))):=by rw[g];exact eN.refl _
   refine⟨k+1,[],J,jM,rfl,rfl,rfl,rfl,rfl,⟨nV,rfl⟩,w⟩
 ·have f:=iT f;have f:(st.bad.length:Int)<=k:=f;obtain rfl:k=st.bad.length:=J
  have t:(kO (aGx st st.bad.length)).length=(aGx st st.bad.length).length:=oO _;have j:=s5 Sa.compactsRow_q0 (kt:=3) (kO (aGx st st.bad.length)) (λi=>[.I ((kO (aGx st st.bad.length)).getD i 0)]) (λ_ _=>rfl) J;rw[t] at j;refine aN (aN ?_);refine⟨false,[0],rfl,Unit,_,_,_,_,J9 Sa.sortsRow_q0 (kt:=3) (aGx st st.bad.length) (rI (aGx st st.bad.length)) (λ_ _=>rfl) J,λ_ _=> ?_⟩;refine aN (aN ?_);refine⟨false,[0],rfl,Unit,_,_,_,_,j,λ_ _=> ?_⟩;exact RetIs.so rfl rfl (λ_ _=>rfl) (λ_ _=>rfl)
structure Cp_q1 where
 a:Int
 g:Int
 s:Int
 o:Int
 q:Int
def Cp_q1.av (c:Cp_q1):List AV:=[.I c.a,.I c.g,.I c.s,.I c.o,.I c.q]
def VK:Cp_q1:=⟨0,0,0,0,0⟩
def SF (l:List Cp_q1) (k:Nat):List AV:=(l.getD k VK).av
def b2 (b:Bool):Int:=if b=true then 1 else 0
def Fm (a b:Cp_q1):Int:=b2 (a.g==b.g)+b2 (a.o==b.o)+b2 (a.q==b.q)
def CT (a b:Cp_q1):Nat->Int
 |0=>0
 |k+1=>CT a b k+b2 ([a.g==b.g,a.o==b.o,a.q==b.q].getD k false)
theorem JP (a b:Cp_q1): ∀k,0<=CT a b k/\CT a b k<=k
 |0=>⟨kR _,kR _⟩
 |k+1=>by have:=JP a b k;unfold CT b2;split<;>omega
theorem JQ (a b:Cp_q1):cC 178 [.ag a.av,.ag b.av] [] (.I (Fm a b)):=by
 refine hZ Tryz.func178 [.tmp 4] [(1000002,[.ex 2])] ?_
 repeat apply jL
 refine kZ (.row 4 1 3 (λk=>[.b ([a.g==b.g,a.o==b.o,a.q==b.q].getD k false)])) ?_;refine hY ⟨rfl,rfl,rfl,λq t=> ?_⟩ ?_
 ·match q,t with
  |0,_=>rfl
  |1,_=>rfl
  |2,_=>rfl
  |q+3,h=>exact absurd h J
 repeat apply jL
 refine⟨[],Nat,λk=>k<=3,λk=>[⟨25,[],.I k⟩,⟨5,[],.I (CT a b k)⟩],λ_=>[],λk=>3-k,
  qP,?_⟩
 intro k l;have l:k<=3:=l;have w:=JP a b k;refine .inl ⟨λf=> ?_,λf=> ?_⟩
 ·have f:=pH f;have f:(k:Int)<3:=f;have j:(k:Int).toNat=k:=aQ k;have n:(k:Int).toNat<3:=J
  repeat apply jL
  refine⟨⟨J,J⟩,n,?_⟩
  repeat apply jL
  refine jB ([a.g==b.g,a.o==b.o,a.q==b.q].getD (k:Int).toNat false) (λh=> ?_) λh=> ?_
  ·have h1:CT a b k+1=CT a b (k+1):=by rw[j] at h;show _=CT a b k+b2 _;rw[h];rfl
   exact⟨k+1,[],J,jM,rfl,rfl,rfl,rfl,rfl,⟨nV,⟨rfl,(wr J J).trans h1⟩⟩,trivial⟩
  ·have h1:CT a b k=CT a b (k+1):=by rw[j] at h;show _=CT a b k+b2 _;rw[h];simp[b2]
   exact⟨k+1,[],J,jM,rfl,rfl,rfl,rfl,rfl,⟨nV,⟨rfl,h1⟩⟩,trivial⟩
 ·have f:=iT f;have f:(3:Int)<=k:=f;obtain rfl:k=3:=J
  refine RetIs.i ?_;unfold Fm;simp[CT]
def xv (k c:Cp_q1) (e:Int):Bool:=if(((decide (e<0)||decide (Fm k c<3))||lQ k.a==lQ c.a)||decide (k.s>c.s))=true then false else decide (IntKind.u64.wrap (IntKind.u64.wrap c.s-IntKind.u64.wrap k.s)<=IntKind.u64.wrap e)
theorem ZS (k c:Cp_q1) (f:Int):cC 96 [.ag k.av,.ag c.av,.I f] [] (.b (xv k c f)):=by
 refine hZ Tryz.func96 [.tmp 6] [(2000001,[.frz 0 [1]])] ?_
 refine jc (JQ k c) ?_
 refine jc (uM _) ?_
 refine jc (uM _) ?_
 repeat apply jL
 refine jB (((decide (f<0)||decide (Fm k c<3))||lQ k.a==lQ c.a)||decide (k.s>c.s)) (λh=> ?_) λh=> ?_
 ·refine RetIs.b ?_;unfold xv;rw[aE h]
 ·refine RetIs.b ?_;unfold xv;rw[aB jR]
def M0 (p:Nat->Bool):Nat->Int
 |0=> -1
 |k+1=>if p k=true then k else M0 p k
theorem Lr (p:Nat->Bool): ∀n, -1<=M0 p n/\M0 p n<n
 |0=>⟨kR _,by unfold M0;decide⟩
 |n+1=>by have:=Lr p n;unfold M0;split<;>omega
theorem SG (l:List Cp_q1) (C:l.length<2^62) (c:Cp_q1) (g:Int) (t:FuncId) (x: ∀i:Int,cC t [.I i] [] (.b false)):cC 56 [.rs 5 l.length (SF l),.ag c.av,.I g,.fn t []] [] (.I (M0 (λk=>xv (l.getD k VK) c g) l.length)):=by
 refine hZ Tryz.func56 [.tmp 8] [] ?_
 repeat apply jL
 refine⟨[],Nat,λk=>k<=l.length/\M0 (λk=>xv (l.getD k VK) c g) l.length=M0 (λk=>xv (l.getD k VK) c g) k,λk=>[⟨9,[],.I ((k:Int)-1)⟩],λ_=>[],λk=>k,
  ⟨l.length,[],⟨aG _,rfl⟩,rfl,rfl,rfl,rfl,rfl,nV,trivial⟩,?_⟩
 rintro k ⟨z,j⟩;refine .inl ⟨λf=> ?_,λf=> ?_⟩
 ·have f:decide (((k:Int)-1)>=0)=true:=f;have f:(k:Int)-1>=0:=by simpa using f
  obtain⟨m,rfl⟩: ∃m,k=m+1:=⟨k-1,J⟩;have w:((m+1:Nat):Int)-1=m:=J
  have n:(((m+1:Nat):Int)-1).toNat=m:=J
  repeat apply jL
  refine⟨⟨J,J⟩,?_⟩
  refine jb (ZS _ _ _) ?_
  refine jc (x _) ?_
  repeat apply jL
  refine jB (xv (l.getD (((m+1:Nat):Int)-1).toNat VK) c g&& !false) (λh=> ?_) λh=> ?_
  ·rw[n,aW] at h;refine RetIs.i ?_;rw[j];unfold M0;rw[aE h.1,w]
  ·rw[n] at h;have h: ¬xv (l.getD m VK) c g=true:=jH
   refine⟨m,[],⟨J,by rw[j];conv=>lhs;unfold M0;rw[aB h]⟩,jM,rfl,rfl,rfl,rfl,rfl,⟨rfl,?_⟩,trivial⟩
   rw[wr J J];omega
 ·have f:decide (((k:Int)-1)>=0)=false:=f;have f: ¬(k:Int)-1>=0:=by simpa using f
  obtain rfl:k=0:=J
  exact RetIs.i j.symm
def u0 (l:List Cp_q1) (c:Cp_q1) (a:Int):Int:=M0 (λk=>xv (l.getD k VK) c a) l.length
theorem BM (i:Int):cC 57 [.I i] [] (.b false):=by refine hZ Tryz.func57 [.tmp 2] [] ?_;exact RetIs.b rfl
theorem Ls (l:List Cp_q1) (f:l.length<2^62) (c:Cp_q1) (e:Int):cC 18 [.rs 5 l.length (SF l),.ag c.av,.I e] [] (.tup [.I (max (u0 l c e) 0),.b (decide (u0 l c e>=0))]):=by
 refine hZ Tryz.func18 [.tmp 6,.tmp 7] [] ?_
 refine jb (SG l f c e 57 BM) ?_;exact RetIs.v rfl rfl rfl
def CU (e:Ev):Cp_q1:=⟨e.a,e.g,e.st,e.t,e.q⟩
theorem Bc (e:Ev):cC 188 [.ag e.av] [] (.ag (CU e).av):=by refine hZ Tryz.func188 [.cell 2 92] [] ?_;exact RetIs.v rfl rfl rfl
theorem Rx (s:Stp0) (P:List Pf_q0) (st:Sta_q0) (o:AV) (e:Ev) (p:Pf_q0):cC 229 [.ag p.av,.rp [.rp (gV s P st o)],.rp e.av] [] (.b (decide (p.keep>0)&&decide (IntKind.i64.wrap (st.step-e.st)>=p.keep))):=by refine hZ Tryz.func229 [.tmp 4] [] ?_;exact RetIs.b rfl
def kpB (P:List Pf_q0) (st:Sta_q0) (e:Ev):Bool:=P.any λp=>decide (p.keep>0)&&decide (IntKind.i64.wrap (st.step-e.st)>=p.keep)
theorem BN (s:Stp0) (P:List Pf_q0) (c:P.length<2^62) (st:Sta_q0) (o:AV) (e:Ev):cC 131 [.rp (gV s P st o),.ag e.av] [] (.b (kpB P st e)):=by
 refine hZ Tryz.func131 [.tmp 4] [] ?_
 repeat apply jL
 refine⟨[],_,Fe P c 229 _ _ _ (λp _=>Rx s P st o e p),?_⟩;exact RetIs.b rfl
theorem ZT (l:List Cp_q1) (x:Cp_q1): ∀k,k<(l++[x]).length->iJ l.length (SF l) (kJ 5 x.av) k=SF (l++[x]) k:=λq a=>by
 rw[bD,cD] at a;unfold iJ SF;rw[zv];by_cases hq2:q<l.length
 ·rw[aE hq2,aE hq2]
 ·exact mJ
def OrI (E:List Ev) (p:Nat×List Cp_q1×List Int):Prop:=p.1<=E.length/\p.2.1.length=p.2.2.length/\p.2.1.length<=p.1/\ ∀x∈p.2.2,0<=x/\x<E.length
theorem JR (s:Stp0) (P:List Pf_q0) (st:Sta_q0) (o:AV) (D:wO st.ev) (F:st.pairs.length<2^62) (n q:Int) (hq:0<=q/\q<=1000) (e:Ev):cM 107 false [] [.rp (gV s P st o),.I n,.I q,.ag e.av] (λy:Int×Bool=>y.2=true->0<=y.1/\y.1<st.ev.length) (λ_=>[]) (λ_=>[]) (λy=> .tup [.I y.1,.b y.2]):=by
 refine sE Tryz.func107 [.tmp 8,.tmp 9] [] ?_;have L:=D.1
 repeat apply jL
 refine⟨[(10,92,5),(11,3,1)],Nat×List Cp_q1×List Int,OrI st.ev,λp=>[⟨24,[],.I p.1⟩,⟨10,[],.so 1⟩,⟨11,[],.so 2⟩],λp=>[⟨1,[],.row 92 5 p.2.1.length (SF p.2.1)⟩,⟨2,[],.row 3 1 p.2.2.length (rI p.2.2)⟩],λp=>st.ev.length-p.1,
  ⟨(0,[],[]),[],⟨bI _,rfl,aG _,λx g=>by cases g⟩,rfl,rfl,rfl,rfl,rfl,⟨nT,rfl,rfl⟩,⟨nX,nX⟩⟩,?_⟩
 rintro⟨k,C,I⟩ ⟨A,hl,w,hI⟩;have A:k<=st.ev.length:=A;have hl:C.length=I.length:=hl;have w:C.length<=k:=w;have hI: ∀x∈I,0<=x/\x<st.ev.length:=hI;refine .inl ⟨λf=> ?_,λf=> ?_⟩
 ·have f:=pH f;have f:(k:Int)<st.ev.length:=f;have H:(k:Int).toNat=k:=aQ k
  repeat apply jL
  refine⟨⟨J,J⟩,?_⟩
  repeat apply jL
  refine⟨λh=> ?_,λh=> ?_⟩
  ·exact mc
  have j:=JE st.pairs F n k (IntKind.i64.wrap (20+q));by_cases z:Li st.pairs n k (IntKind.i64.wrap (20+q))<0
  ·rw[aE z] at j
   refine jb j ?_
   repeat apply jL
   refine⟨λl=> ?_,λl=> ?_⟩
   ·repeat apply jL
    refine⟨[],_,Bc (st.ev.getD (k:Int).toNat dE),?_⟩;refine⟨oJ J,?_⟩;refine⟨oJ J,?_⟩;exact⟨(k+1,C++[CU (st.ev.getD (k:Int).toNat dE)],I++[(k:Int)]),[(1,5),(2,7)],⟨jM,by dsimp only;rw[bD,bD,cD,cD,hl],by dsimp only;rw[bD,cD];omega,λx g=>by
     rcases cR.1 g with g|g
     ·exact hI x g
     ·obtain rfl:=bV.1 g;omega⟩,jM,rfl,rfl,rfl,rfl,rfl,⟨nV,rfl,rfl⟩,⟨⟨rfl,rfl,by rw[bD];rfl,λq hq=>ZT _ _ q hq⟩,⟨rfl,rfl,by rw[bD];rfl,λq hq=>Sa.snocI _ _ q hq⟩⟩⟩
   ·cases l
  ·rw[aB z] at j
   refine jb j ?_
   repeat apply jL
   refine⟨λl=> ?_,λl=> ?_⟩
   ·cases l
   ·exact mc
 have f:=iT f;have f:(st.ev.length:Int)<=k:=f;have E:=Lr (λk=>xv (C.getD k VK) (CU e) s.near) C.length
 refine jb (Bc e) ?_
 repeat apply jL
 refine⟨[],_,Ls C J (CU e) s.near,?_⟩
 repeat apply jL
 refine⟨λl=> ?_,λl=> ?_⟩
 ·exact⟨(0,false),[],λh=>jC,⟨nU,trivial,rfl⟩,rfl,λ_=>⟨rfl,trivial⟩⟩
 ·have l:(!decide (u0 C (CU e) s.near>=0))=false:=l;rw[hV,aM] at l;have K:max (u0 C (CU e) s.near) 0=u0 C (CU e) s.near:=J
  have G:u0 C (CU e) s.near<C.length:=E.2;have t:(max (u0 C (CU e) s.near) 0).toNat<I.length:=J
  repeat apply jL
  refine⟨⟨by show 0<=max (u0 C (CU e) s.near) 0;omega,by show max (u0 C (CU e) s.near) 0<(I.length:Int);omega⟩,t,?_⟩;exact⟨(I.getD (max (u0 C (CU e) s.near) 0).toNat 0,true),[],λ_=>hI _ (vM t),⟨nU,trivial,rfl⟩,rfl,λ_=>⟨rfl,trivial⟩⟩
def R2 (x:Sb.Gt):Sa.Gra:=⟨x.grp,x.per,x.rig⟩
theorem SH (l:List Sb.Gt):eV (.rs 3 (l.map R2).length (Sa.rowsG_q0 (l.map R2))) (.rs 3 l.length (Sb.rowsG_q1 l)):=by
 refine⟨rfl,jS,λk a=> ?_⟩;have a:k<l.length:=by simpa using a
 show(l.getD k Sb.dGt).av=((l.map R2).getD k Sa.dG_q1).av;rw[xE a,xE (show k<(l.map R2).length by simpa using a),iO];rfl
def nt (g:Int) (L:List (Int×Bool)) (x:Sb.Gt):List (Int×Bool):=if(x.grp==g)=true then kE L x.per true else L
def nz (g:Int) (L:List (Int×Bool)) (e:Ev):List (Int×Bool):=if(e.g==g&&e.k==9)=true then kE L e.w true else L
def P2 (a:List Sb.Gt) (g:Int):List (Int×Bool):=a.foldl (nt g) []
def yF (a:List Sb.Gt) (E:List Ev) (g:Int):List (Int×Bool):=E.foldl (nz g) (P2 a g)
theorem vv (g:Int): ∀(l:List Sb.Gt) (L:List (Int×Bool)),(l.foldl (nt g) L).length<=L.length+l.length
 |[],L=>jS
 |x::r,L=>by
  have:=vv g r (nt g L x);have a:(nt g L x).length<=L.length+1:=by
   unfold nt;split
   ·exact Sa.mset_len _ _ _
   ·omega
  rw[gK,gR];omega
theorem vw (g:Int): ∀(l:List Ev) (L:List (Int×Bool)),(l.foldl (nz g) L).length<=L.length+l.length
 |[],L=>jS
 |x::r,L=>by
  have:=vw g r (nz g L x);have a:(nz g L x).length<=L.length+1:=by
   unfold nz;split
   ·exact Sa.mset_len _ _ _
   ·omega
  rw[gK,gR];omega
theorem Fo {L:List (Int×Bool)} {k:Int} {v:Bool} {x:Int} (h:x∈iH (kE L k v)):x=k\/x∈iH L:=by
 rw[uV,rK] at h;by_cases e:x=k
 ·exact .inl e
 ·rw[aB e] at h;exact .inr (uV.2 h)
theorem SJ {h:List Sb.Gt} {E:List Ev} (t: ∀x∈h,(Lit.int .i64 x.per).wf=true) (q: ∀x∈E,(Lit.int .i64 x.w).wf=true) (g:Int): ∀k∈iH (yF h E g),(Lit.int .i64 k).wf=true:=by
 have a: ∀(l:List Sb.Gt),(∀x∈l,(Lit.int .i64 x.per).wf=true)-> ∀L:List (Int×Bool),(∀k∈iH L,(Lit.int .i64 k).wf=true)-> ∀k∈iH (l.foldl (nt g) L),(Lit.int .i64 k).wf=true:=λl=>by
  induction l with
  |nil=>intro _ L e;exact e
  |cons x r n=>
   intro f L e;refine n (λy j=>f y (by simp[j])) _ λk c=> ?_;unfold nt at c;split at c
   ·rcases Fo c with rfl|c
    ·exact f x jS
    ·exact e k c
   ·exact e k c
 have b: ∀(l:List Ev),(∀x∈l,(Lit.int .i64 x.w).wf=true)-> ∀L:List (Int×Bool),(∀k∈iH L,(Lit.int .i64 k).wf=true)-> ∀k∈iH (l.foldl (nz g) L),(Lit.int .i64 k).wf=true:=λl=>by
  induction l with
  |nil=>intro _ L e;exact e
  |cons x r n=>
   intro f L e;refine n (λy j=>f y (by simp[j])) _ λk c=> ?_;unfold nz at c;split at c
   ·rcases Fo c with rfl|c
    ·exact f x jS
    ·exact e k c
   ·exact e k c
 exact b E q _ (a h t [] λk c=>by cases c)
def Fp (a:List Sb.Gt) (E:List Ev) (g:Int) (k:Nat):List Sb.Gt:=((kO (iH (yF a E g))).take k).map λp=>⟨g,p,Sa.RightsG (a.map R2) E g p E.length⟩
def F4 (a:List Sb.Gt) (E:List Ev) (g:Int):List Sb.Gt:=Fp a E g (yF a E g).length
theorem ZU {n:Nat} (h:n<=1100000):n*24<=140737488355328:=J
theorem Ry (a:List Sb.Gt) (e:a.length<=1000) (E:List Ev) (c:E.length<1000000) (g p:Int):cC 311 [.rs 3 a.length (Sb.rowsG_q1 a),.rs 12 E.length (rE E),.I g,.I p,.I E.length] [] (.I (Sa.RightsG (a.map R2) E g p E.length)):=
 j8.of_eq (args:=[.rs 3 (a.map R2).length (Sa.rowsG_q0 (a.map R2)),.rs 12 E.length (rE E),.I g,.I p,.I E.length]) ⟨SH a,eV.refl _,eV.refl _,eV.refl _,eV.refl _⟩ (Sa.Rights_fn (a.map R2) (by rw[fC];omega) E J g p E.length)
theorem aJ8 (l:List Sb.Gt) (x:Sb.Gt): ∀k,k<(l++[x]).length->iJ l.length (Sb.rowsG_q1 l) (kJ 3 x.av) k=Sb.rowsG_q1 (l++[x]) k:=λq a=>by
 rw[bD,cD] at a;unfold iJ Sb.rowsG_q1;rw[zv];by_cases hq2:q<l.length
 ·rw[aE hq2,aE hq2]
 ·exact mJ
theorem Rz (s:Stp0) (P:List Pf_q0) (st:Sta_q0) (o:AV) (g:Int) (D:wO st.ev) (G:s.gr.length<=1000) (E: ∀x∈s.gr,(Lit.int .i64 x.per).wf=true):cC 263 [.rp (gV s P st o),.I g] [.row 205 3 (F4 s.gr st.ev g).length (Sb.rowsG_q1 (F4 s.gr st.ev g))] (.so 0):=by
 refine hZ Tryz.func263 [.tmp 4] [] ?_;have K:=D.1
 repeat apply jL
 refine⟨[],Nat,λk=>k<=s.gr.length,λk=>[⟨20,[],.I k⟩],λk=>[⟨0,[],Sa.mpIB (P2 (s.gr.take k) g)⟩],λk=>s.gr.length-k,
  ⟨0,[],bI _,rfl,rfl,rfl,rfl,rfl,nT,⟨rfl,rfl,λj H=>absurd H (dU j)⟩⟩,?_⟩
 intro k t;have t:k<=s.gr.length:=t;refine .inl ⟨λf=> ?_,λf=> ?_⟩
 ·have f:=pH f;have f:(k:Int)<s.gr.length:=f;have n:(k:Int).toNat=k:=aQ k;have l:P2 (s.gr.take (k+1)) g=nt g (P2 (s.gr.take k) g) (s.gr.getD k Sb.dGt):=uK _ _ _ _ _ J
  repeat apply jL
  refine⟨⟨J,J⟩,?_⟩
  repeat apply jL
  refine jB ((s.gr.getD (k:Int).toNat Sb.dGt).grp==g) (λh=> ?_) λh=> ?_
  ·rw[n] at h;unfold nt at l;rw[aE h] at l;refine⟨_,_,_,_,_,⟨λ_ _=>rfl,rfl,lJ (L:=P2 (s.gr.take k) g) (d:=(0,false)) (vf:=λb=>AV.b b) N9 (s.gr.getD (k:Int).toNat Sb.dGt).per true⟩,?_⟩;have z:eN (Sa.mpIB (P2 (s.gr.take (k+1)) g)) (Sa.mpIB (kE (P2 (s.gr.take k) g) (s.gr.getD (k:Int).toNat Sb.dGt).per true)):=by rw[l,n];exact eN.refl _
   exact⟨k+1,[],J,jM,rfl,rfl,rfl,rfl,rfl,nV,z⟩
  ·rw[n] at h;unfold nt at l;rw[aB jR] at l;have z:eN (Sa.mpIB (P2 (s.gr.take (k+1)) g)) (Sa.mpIB (P2 (s.gr.take k) g)):=by rw[l];exact eN.refl _
   exact⟨k+1,[],J,jM,rfl,rfl,rfl,rfl,rfl,nV,z⟩
 have f:=iT f;have f:(s.gr.length:Int)<=k:=f;obtain rfl:k=s.gr.length:=J
 rw[eJ]
 repeat apply jL
 refine⟨[],Nat,λk=>k<=st.ev.length,λk=>[⟨38,[],.I k⟩],λk=>[⟨0,[],Sa.mpIB (yF s.gr (st.ev.take k) g)⟩],λk=>st.ev.length-k,
  ⟨0,[],bI _,rfl,rfl,rfl,rfl,rfl,nT,eN.refl (Sa.mpIB (P2 s.gr g))⟩,?_⟩
 intro k t;have t:k<=st.ev.length:=t;refine .inl ⟨λf=> ?_,λf=> ?_⟩
 ·have f:=pH f;have f:(k:Int)<st.ev.length:=f;have n:(k:Int).toNat=k:=aQ k;have l:yF s.gr (st.ev.take (k+1)) g=nz g (yF s.gr (st.ev.take k) g) (st.ev.getD k dE):=uK _ _ _ _ _ J
  repeat apply jL
  refine⟨⟨J,J⟩,?_⟩
  repeat apply jL
  refine jB ((st.ev.getD (k:Int).toNat dE).g==g&&(st.ev.getD (k:Int).toNat dE).k==9) (λh=> ?_) λh=> ?_
  ·rw[n] at h;unfold nz at l;rw[aE h] at l;refine⟨_,_,_,_,_,⟨λ_ _=>rfl,rfl,lJ (L:=yF s.gr (st.ev.take k) g) (d:=(0,false)) (vf:=λb=>AV.b b) N9 (st.ev.getD (k:Int).toNat dE).w true⟩,?_⟩;have z:eN (Sa.mpIB (yF s.gr (st.ev.take (k+1)) g)) (Sa.mpIB (kE (yF s.gr (st.ev.take k) g) (st.ev.getD (k:Int).toNat dE).w true)):=by rw[l,n];exact eN.refl _
   exact⟨k+1,[],J,jM,rfl,rfl,rfl,rfl,rfl,nV,z⟩
  ·rw[n] at h;unfold nz at l;rw[aB jR] at l;have z:eN (Sa.mpIB (yF s.gr (st.ev.take (k+1)) g)) (Sa.mpIB (yF s.gr (st.ev.take k) g)):=by rw[l];exact eN.refl _
   exact⟨k+1,[],J,jM,rfl,rfl,rfl,rfl,rfl,nV,z⟩
 have f:=iT f;have f:(st.ev.length:Int)<=k:=f;obtain rfl:k=st.ev.length:=J
 rw[eJ];have M:(yF s.gr st.ev g).length<=1001000:=by have h1:=vv g s.gr [];have h2:=vw g st.ev (P2 s.gr g);have O:(P2 s.gr g).length=(s.gr.foldl (nt g) []).length:=rfl;have Q:(yF s.gr st.ev g).length=(st.ev.foldl (nz g) (P2 s.gr g)).length:=rfl;simp only[pQ] at h1;omega
 have F:=SJ E (D.wf) g;refine eX ?_;refine aN (aN ?_);refine⟨false,[0],rfl,Unit,_,_,_,_,Sa.keys_fn (yF s.gr st.ev g),λ_ _=> ?_⟩;refine aN (aN ?_);refine⟨false,[1,0],rfl,Unit,_,_,_,_,Sa.sorted_fn Sa.sortsKeys (yF s.gr st.ev g) F J,λ_ _=> ?_⟩;have N:(kO (iH (yF s.gr st.ev g))).length=(yF s.gr st.ev g).length:=by rw[oO];simp[iH]
 repeat apply jL
 refine⟨[(10,205,3)],Nat,λk=>k<=(yF s.gr st.ev g).length,λk=>[⟨59,[],.I k⟩,⟨10,[],.so 3⟩],λk=>[⟨3,[],.row 205 3 (Fp s.gr st.ev g k).length (Sb.rowsG_q1 (Fp s.gr st.ev g k))⟩],λk=>(yF s.gr st.ev g).length-k,
  np,?_⟩
 intro k t;have t:k<=(yF s.gr st.ev g).length:=t;have C:(Fp s.gr st.ev g k).length=k:=by unfold Fp;rw[fC,cT];omega
 refine .inl ⟨λf=> ?_,λf=> ?_⟩
 ·have f:=pH f;have f:(k:Int)<(yF s.gr st.ev g).length:=f;have n:(k:Int).toNat=k:=aQ k;have l:Fp s.gr st.ev g (k+1)=Fp s.gr st.ev g k++[⟨g,(kO (iH (yF s.gr st.ev g))).getD k 0,Sa.RightsG (s.gr.map R2) st.ev g ((kO (iH (yF s.gr st.ev g))).getD k 0) st.ev.length⟩]:=by unfold Fp;rw[bS (show k<(kO (iH (yF s.gr st.ev g))).length by omega),fJ,xE (show k<(kO (iH (yF s.gr st.ev g))).length by omega)];rfl
  repeat apply jL
  refine⟨⟨J,J⟩,J,?_⟩
  repeat apply jL
  refine⟨[],_,Ry s.gr G st.ev K g ((kO (iH (yF s.gr st.ev g))).getD (k:Int).toNat 0),?_⟩
  repeat apply jL
  refine⟨ZU J,?_⟩;refine⟨k+1,[(3,5)],J,jM,rfl,rfl,rfl,rfl,rfl,⟨nV,rfl⟩,⟨rfl,rfl,by rw[l,bD];rfl,λq hq=> ?_⟩⟩;rw[l] at hq|-;exact aJ8 _ _ q hq
 ·have f:=iT f;have f:((yF s.gr st.ev g).length:Int)<=k:=f;obtain rfl:k=(yF s.gr st.ev g).length:=J
  exact RetIs.so rfl (by rw[C];unfold F4;rw[C]) (λ_ _=>rfl) (λ_ _=>rfl)
def Sd (s:Stp0) (st:Sta_q0) (g a r:Int):Bool:=Sb.holdsY s.cl st.pf (F4 s.gr st.ev g) g a r&&Sb.poseE s.cl st.pf (F4 s.gr st.ev g) r==0
theorem Se (a:List Sb.Gt) (E:List Ev) (g:Int):(F4 a E g).length<=a.length+E.length:=by
 have c:=vv g a [];have e:=vw g E (P2 a g);have f:(P2 a g).length=(a.foldl (nt g) []).length:=rfl;have h:(yF a E g).length=(E.foldl (nz g) (P2 a g)).length:=rfl;have j:(F4 a E g).length<=(yF a E g).length:=by unfold F4 Fp;rw[fC,cT];omega
 simp only[pQ] at c;omega
structure GOk (s:Stp0) (P:List Pf_q0) (st:Sta_q0):Prop where
 P:P.length<2^62
 E:wO st.ev
 gr:s.gr.length<=1000
 grw: ∀x∈s.gr,(Lit.int .i64 x.per).wf=true
 cl:s.cl.length<=1000
 pf:st.pf.length<2^62
theorem F5 (s:Stp0) (P:List Pf_q0) (st:Sta_q0) (o:AV) (H:GOk s P st) (g a r:Int):cC 194 [.rp (gV s P st o),.I g,.I a,.I r] [] (.b (Sd s st g a r)):=by
 refine hZ Tryz.func194 [.tmp 8] [] ?_;have e:=Se s.gr st.ev g;have f:=H.gr;have j:=H.E.1
 refine jb (Rz s P st o g H.E H.gr H.grw) ?_
 repeat apply jL
 refine⟨[],_,Sb.Holds_fn s.cl st.pf (F4 s.gr st.ev g) H.cl H.pf J g a r,?_⟩;exact RetIs.b rfl
def Be (s:Stp0) (P:List Pf_q0) (st:Sta_q0) (e:Ev):Bool:=
 if(decide (lQ e.w<0)||decide (lQ e.w>=(P.length:Int)))=true then false else
 if((P.getD (lQ e.w).toNat wV).join==0)=true then Sd s st e.g e.a 4 else
 if((P.getD (lQ e.w).toNat wV).join==1)=true then e.w==e.a else e.w==e.a&&Sd s st e.g e.w 1
theorem BO (s:Stp0) (P:List Pf_q0) (st:Sta_q0) (o:AV) (H:GOk s P st) (e:Ev):cC 195 [.rp (gV s P st o),.ag e.av] [] (.b (Be s P st e)):=by
 refine hZ Tryz.func195 [.tmp 4] [] ?_
 refine jb (uM _) ?_
 repeat apply jL
 refine jB (decide (lQ e.w<0)||decide (lQ e.w>=(P.length:Int))) (λh=> ?_) λh=> ?_
 ·refine RetIs.b ?_;unfold Be;rw[aE h]
 have j:=h;rw[bT,bH,bH] at j
 repeat apply jL
 refine⟨⟨J,J⟩,?_⟩
 repeat apply jL
 refine⟨λh2=> ?_,λh2=> ?_⟩
 ·have h2:((P.getD (lQ e.w).toNat wV).join==0)=true:=h2
  refine jb (F5 s P st o H e.g e.a 4) ?_;refine RetIs.b ?_;unfold Be;rw[aB jR,aE h2]
 have h2:((P.getD (lQ e.w).toNat wV).join==0)=false:=h2
 repeat apply jL
 refine⟨λf=> ?_,λf=> ?_⟩
 ·have f:((P.getD (lQ e.w).toNat wV).join==1)=true:=f;refine RetIs.b ?_;unfold Be;rw[aB jR,aB jK,aE f]
 have f:((P.getD (lQ e.w).toNat wV).join==1)=false:=f
 refine jc (F5 s P st o H e.g e.w 1) ?_;refine RetIs.b ?_;unfold Be;rw[aB jR,aB jK,aB (by rw[f];decide)]
def aJ5 (st:Sta_q0) (e:Ev):Bool:=decide (e.t>=0)&&(st.ev.getD (max e.t 0).toNat dE).a==e.a
def dy (s:Stp0) (P:List Pf_q0) (st:Sta_q0) (e:Ev):Bool:=
 if(e.k==0)=true then SE st e.g e.a&&Sd s st e.g e.a 1 else
 if(e.k==1)=true then SE st e.g e.a&&aJ5 st e else
 if(e.k==2)=true then aJ5 st e||Sd s st e.g e.a 2 else
 if(e.k==5)=true then Be s P st e else
 if(e.k==7)=true then Sd s st e.g e.a 2 else
 if(e.k==8||e.k==9)=true then Sd s st e.g e.a 8 else SE st e.g e.a
theorem JS (s:Stp0) (P:List Pf_q0) (st:Sta_q0) (o:AV) (H:GOk s P st) (e:Ev) (z:e.t<st.ev.length) (x:0<st.ev.length\/e.t<0):cC 111 [.rp (gV s P st o),.ag e.av] [] (.b (dy s P st e)):=by
 refine hZ Tryz.func111 [.tmp 4] [] ?_;refine hY (λh=> ?_) ?_
 ·have h:decide (e.t>=0)=true:=h.1;rw[aM] at h;constructor<;>omega
 repeat apply jL
 refine⟨λf=> ?_,λf=> ?_⟩
 ·have f:(e.k==0)=true:=f
  refine jb (Fk s P st o e.g e.a H.E) ?_
  refine jc (F5 s P st o H e.g e.a 1) ?_;refine RetIs.b ?_;unfold dy;rw[aE f]
 have f:(e.k==0)=false:=f
 repeat apply jL
 refine⟨λj=> ?_,λj=> ?_⟩
 ·have j:(e.k==1)=true:=j
  refine jb (Fk s P st o e.g e.a H.E) ?_;refine RetIs.b ?_;unfold dy;rw[aB (by rw[f];decide),aE j];rfl
 have j:(e.k==1)=false:=j
 repeat apply jL
 refine⟨λk2=> ?_,λk2=> ?_⟩
 ·have k2:(e.k==2)=true:=k2
  refine jc (F5 s P st o H e.g e.a 2) ?_;refine RetIs.b ?_;unfold dy;rw[aB (by rw[f];decide),aB (by rw[j];decide),aE k2];rfl
 have k2:(e.k==2)=false:=k2
 repeat apply jL
 refine⟨λk3=> ?_,λk3=> ?_⟩
 ·have k3:(e.k==5)=true:=k3
  refine jb (BO s P st o H e) ?_;refine RetIs.b ?_;unfold dy;rw[aB (by rw[f];decide),aB (by rw[j];decide),aB (by rw[k2];decide),aE k3]
 have k3:(e.k==5)=false:=k3
 repeat apply jL
 refine⟨λn=> ?_,λn=> ?_⟩
 ·have n:(e.k==7)=true:=n
  refine jb (F5 s P st o H e.g e.a 2) ?_;refine RetIs.b ?_;unfold dy;rw[aB (by rw[f];decide),aB (by rw[j];decide),aB (by rw[k2];decide),aB (by rw[k3];decide),aE n]
 have n:(e.k==7)=false:=n
 repeat apply jL
 refine⟨λw=> ?_,λw=> ?_⟩
 ·have w:(e.k==8)=true:=w
  repeat apply jL
  refine⟨λl=> ?_,λl=> ?_⟩
  ·refine jb (F5 s P st o H e.g e.a 8) ?_;refine RetIs.b ?_;unfold dy;rw[aB (by rw[f];decide),aB (by rw[j];decide),aB (by rw[k2];decide),aB (by rw[k3];decide),aB (by rw[n];decide),aE (by rw[w];rfl)]
  ·have l:(e.k==8)=false:=l;rw[w] at l;cases l
 have w:(e.k==8)=false:=w
 repeat apply jL
 refine⟨λl=> ?_,λl=> ?_⟩
 ·have l:(e.k==9)=true:=l
  refine jb (F5 s P st o H e.g e.a 8) ?_;refine RetIs.b ?_;unfold dy;rw[aB (by rw[f];decide),aB (by rw[j];decide),aB (by rw[k2];decide),aB (by rw[k3];decide),aB (by rw[n];decide),aE (by rw[w,l];rfl)]
 have l:(e.k==9)=false:=l
 refine jb (Fk s P st o e.g e.a H.E) ?_;refine RetIs.b ?_;unfold dy;rw[aB (by rw[f];decide),aB (by rw[j];decide),aB (by rw[k2];decide),aB (by rw[k3];decide),aB (by rw[n];decide),aB (by rw[w,l];decide)]
theorem SK {P:List Pf_q0} {E:List Ev} {a x:Int} (h:x∈de P E a):0<=x/\x<E.length:=by
 unfold de at h;split at h
 ·cases h
 ·exact RU h
theorem JT (P:List Pf_q0) (E:List Ev) (a:Int):(de P E a).length<=E.length:=by
 unfold de;split
 ·simp
 ·exact Ll _ _ _ _
theorem Sf (s:Stp0) (P:List Pf_q0) (st:Sta_q0) (o:AV) (H:GOk s P st) (z:st.sent.length<2^62) (n a:Int):cM 105 false [] [.rp (gV s P st o),.I n,.I a] (λy:List Int=>y.length<=8) (λ_=>[]) (λy=>[.row 3 1 y.length (rI y)]) (λ_=> .so 0):=by
 refine sE Tryz.func105 [.tmp 6] [] ?_;have A:=H.E.1;have C:=JT P st.ev a;have w: ∀x∈de P st.ev a,0<=x/\x<st.ev.length:=λx f=>SK f
 repeat apply jL
 refine⟨[.row 3 1 (de P st.ev a).length (rI (de P st.ev a))],_,RV P H.P st.ev A a,?_⟩;generalize de P st.ev a=S at*
 repeat apply jL
 refine⟨[(7,3,1)],List Int×Nat,λp=>p.2<=S.length/\p.1.length<=8,λp=>[⟨9,[],.I ((p.2:Int)-1)⟩,⟨7,[],.so 1⟩],λp=>[⟨1,[],.row 3 1 p.1.length (rI p.1)⟩],λp=>p.2,
  ⟨([],S.length),[],⟨aG _,bI _⟩,rfl,rfl,rfl,rfl,rfl,⟨nV,rfl⟩,nX⟩,?_⟩
 rintro⟨c,k⟩ ⟨t,e⟩;have t:k<=S.length:=t;have e:c.length<=8:=e;refine .inl ⟨λl=> ?_,λl=> ?_⟩
 ·have l:(decide ((k:Int)-1>=0)&&decide ((c.length:Int)<8))=true:=l;rw[aW,aM,aM] at l;have f:=w _ (vM (d:=0) (show((k:Int)-1).toNat<S.length by omega))
  repeat apply jL
  have g:((k:Int)-1).toNat<S.length:=J
  refine⟨⟨J,J⟩,g,?_⟩
  repeat apply jL
  refine⟨[],_,Fi s P st o n (S.getD ((k:Int)-1).toNat 0) f.1 f.2 z,?_⟩;have j:IntKind.i64.wrap ((k:Int)-1-1)=((k-1:Nat):Int)-1:=by rw[wr J J];omega
  repeat apply jL
  refine⟨λh=> ?_,λh=> ?_⟩
  ·have h:(aHc st n (S.getD ((k:Int)-1).toNat 0))=true:=h
   repeat apply jL
   refine⟨⟨J,J⟩,g,?_⟩
   repeat apply jL
   refine⟨oJ J,?_⟩;refine⟨(c++[S.getD ((k:Int)-1).toNat 0],k-1),[(1,3)],⟨jM,by dsimp only;rw[bD,cD];omega⟩,jM,rfl,rfl,rfl,rfl,rfl,⟨⟨rfl,j⟩,rfl⟩,⟨rfl,rfl,by rw[bD];rfl,λq hq=>Sa.snocI _ _ q hq⟩⟩
  ·have h:(aHc st n (S.getD ((k:Int)-1).toNat 0))=false:=h;exact⟨(c,k-1),[],⟨jM,e⟩,jM,rfl,rfl,rfl,rfl,rfl,⟨⟨rfl,j⟩,rfl⟩,⟨rfl,rfl,rfl,λq hq=>rfl⟩⟩
 ·refine aN (aN ?_);refine⟨false,[1],rfl,Unit,_,_,_,_,Q2 Sb.reversesRow (kt:=3) c (rI c) (λ_ _=>rfl) J,λ_ _=> ?_⟩;refine⟨c.reverse,[(0,1)],by rw[sC];exact e,⟨nU,⟨⟨rfl,rfl,trivial,⟨rfl,rfl,jS,λq hq=>rfl⟩⟩,trivial⟩,rfl⟩,rfl,λ_=>q6⟩
structure Itm where
 e:Int
 pt:Int
 ofs:Int
 k:Int
 on:Int
 onp:Int
 q:Int
 w:Int
 n:Int
 x:ByteArray
 fl:Option (List Int)
def flV:Option (List Int)->AV
 |none=>kV
 |some l=> .rs 1 l.length (rI l)
def Itm.av (i:Itm):List AV:=[.I i.e,.I i.pt,.I i.ofs,.I i.k,.I i.on,.I i.onp,.I i.q,.I i.w,.I i.n,.s i.x,flV i.fl]
def F6:Itm:=⟨0,0,0,0,0,0,0,0,0,gB,none⟩
def H2 (l:List Itm) (k:Nat):List AV:=(l.getD k F6).av
structure Ot where
 k:Int
 n:Int
 e:Int
 it:Itm
def Ot.av (x:Ot):List AV:=[.I x.k,.I x.n,.I x.e]++x.it.av
def dOt:Ot:=⟨0,0,0,F6⟩
def Bg (l:List Ot) (k:Nat):List AV:=(l.getD k dOt).av
theorem ZV (l:List Ot) (x:Ot): ∀k,k<(l++[x]).length->iJ l.length (Bg l) (kJ 14 x.av) k=Bg (l++[x]) k:=λq a=>by
 rw[bD,cD] at a;unfold iJ Bg;rw[zv];by_cases hq2:q<l.length
 ·rw[aE hq2,aE hq2]
 ·exact mJ
abbrev aHs (s:Stp0) (P:List Pf_q0) (st:Sta_q0) (o:AV):AO:= .cells 166 (gV s P st o)
abbrev gE (s:Stp0) (P:List Pf_q0) (st:Sta_q0) (l:List Ot):AO:=aHs s P st (.rs 14 l.length (Bg l))
theorem xS (s:Stp0) (P:List Pf_q0) (st:Sta_q0):eN (gE s P st []) (aHs s P st kV):=by refine⟨rfl,eV.refl _,eV.refl _,eV.refl _,eV.refl _,eV.refl _,eV.refl _,eV.refl _,eV.refl _,eV.refl _,eV.refl _,eV.refl _,eV.refl _,eV.refl _,eV.refl _,eV.refl _,eV.refl _,eV.refl _,eV.refl _,eV.refl _,eV.refl _,eV.refl _,eV.refl _,eV.refl _,rfl,rfl⟩
def SL (st:Sta_q0) (i:Inp):Sta_q0×Int:=({st with bad:=if(Sa.addV st.bad {i.ver with step:=st.step}).2=0 then(Sa.addV st.bad {i.ver with step:=st.step}).1 else st.bad},(Sa.addV st.bad {i.ver with step:=st.step}).2)
theorem Lt (s:Stp0) (P:List Pf_q0) (st:Sta_q0) (f:st.bad.length<2^62) (i:Inp):cM 65 true [aHs s P st kV] [.p 0 0,.ag i.av] (λ_:Unit=>True) (λ_=>[gE s P (SL st i).1 []]) (λ_=>[]) (λ_=> .I (SL st i).2):=by
 refine sE Tryz.func65 [.tmp 4] [(999999,[.frc 0 18 [2]])] ?_
 repeat apply jL
 refine⟨_,_,Sa.AddV_fn st.bad f {i.ver with step:=st.step},?_⟩
 repeat apply jL
 refine jB ((Sa.addV st.bad {i.ver with step:=st.step}).2==0) (λh=> ?_) λh=> ?_
 ·have e:SL st i=({st with bad:=(Sa.addV st.bad {i.ver with step:=st.step}).1},(Sa.addV st.bad {i.ver with step:=st.step}).2):=by unfold SL;rw[aE jH]
  rw[e];refine⟨(),[(0,0)],trivial,q9,rfl,λh=>jC⟩
 ·have e:SL st i=(st,(Sa.addV st.bad {i.ver with step:=st.step}).2):=by unfold SL;rw[aB jH]
  rw[e];refine⟨(),[(0,0)],trivial,nv,rfl,λh=>jC⟩
abbrev gX (s:Stp0) (P:List Pf_q0) (st:Sta_q0) (j:Nat):AO:= .cells 166 (s4 j (.so 1) (gV s P st kV))
def eb (st:Sta_q0) (i:Inp):Sta_q0×Int:=
 if(!V3 st.ev i.hold.ev)=true then(st,4) else if SD st i.hold.ev=true then(st,7) else if(st.holds.any λx=>x.id==i.hold.id)=true then(st,5) else
 ({st with holds:=st.holds++[{i.hold with fr:=st.step,to:= -1}]},0)
theorem SM (l:List Sa.Hld) (x:Sa.Hld):eV (.rs 4 (l++[x]).length (Sa.rowsH (l++[x]))) (.rs 4 (l.length+1) (iJ l.length (Sa.rowsH l) (kJ 4 x.av))):=by
 refine⟨rfl,jS,λq a=> ?_⟩;rw[bD,cD] at a;unfold iJ Sa.rowsH;rw[zv];by_cases hq2:q<l.length
 ·rw[aE hq2,aE hq2]
 ·exact mJ
theorem BP (i:Inp) (x:Sa.Hld):cC 126 [.ag x.av,.rp i.av] [] (.b (x.id==i.hold.id)):=by refine hZ Tryz.func126 [.tmp 3] [] ?_;exact RetIs.b rfl
theorem JU (s:Stp0) (P:List Pf_q0) (st:Sta_q0) (j:st.holds.length<=900000) (g:st.ords.length<2^62) (i:Inp):cM 66 true [gX s P st 19,.row 106 4 st.holds.length (Sa.rowsH st.holds)] [.p 0 0,.ag i.av] (λ_:Unit=>True) (λ_=>[gE s P (eb st i).1 [],.dead]) (λ_=>[]) (λ_=> .I (eb st i).2):=by
 refine sE Tryz.func66 [.tmp 4] [(1000002,[.frc 0 19 [1]]),(1000004,[.frc 0 19 [1]]),(1000006,[.frc 0 19 [1]]),(1000009,[.frc 0 19 [4]]),(2000008,[.frz 1 [0]])] ?_
 refine jb (Fj s P st kV i.hold.ev) ?_
 repeat apply jL
 refine⟨λh=> ?_,λh=> ?_⟩
 ·have h:(!V3 st.ev i.hold.ev)=true:=h;have e:eb st i=(st,4):=by unfold eb;rw[aE h]
  rw[e];refine nk
 have h:(!V3 st.ev i.hold.ev)=false:=h
 repeat apply jL
 refine⟨[],_,px s P st kV i.hold.ev J g,?_⟩
 repeat apply jL
 refine⟨λh2=> ?_,λh2=> ?_⟩
 ·have h2:(SD st i.hold.ev)=true:=h2;have e:eb st i=(st,7):=by unfold eb;rw[aB jR,aE h2]
  rw[e];refine nk
 have h2:(SD st i.hold.ev)=false:=h2
 repeat apply jL
 refine⟨[],_,Sa.contains1_fn st.holds J 126 i.av (λx=>x.id==i.hold.id) (BP i),?_⟩
 repeat apply jL
 refine jB (st.holds.any λx=>x.id==i.hold.id) (λf=> ?_) λf=> ?_
 ·have e:eb st i=(st,5):=by unfold eb;rw[aB jR,aB jK,aE f]
  rw[e];refine nk
 have e:eb st i=({st with holds:=st.holds++[{i.hold with fr:=st.step,to:= -1}]},0):=by unfold eb;rw[aB jR,aB jK,aB (by rw[f];decide)]
 rw[e]
 repeat apply jL
 refine⟨oJ J,?_⟩;refine⟨(),[(0,0),(1,1)],trivial,⟨nY,⟨⟨rfl,rfl,rfl,⟨rfl,eV.refl _,eV.refl _,eV.refl _,eV.refl _,eV.refl _,eV.refl _,eV.refl _,eV.refl _,eV.refl _,eV.refl _,eV.refl _,eV.refl _,eV.refl _,eV.refl _,eV.refl _,eV.refl _,eV.refl _,eV.refl _,eV.refl _,SM _ _,eV.refl _,eV.refl _,eV.refl _,nT⟩⟩,nS,trivial⟩,rfl⟩,rfl,λh=>jC⟩
def F7:List (Int×Nat):=[(0,61),(1,62),(2,63),(3,64),(4,65),(5,66),(6,67),(7,68),(8,69),(9,70)]
theorem zD (n:Nat) (c:n<10):yh n (λi=> .I (F7.getD i (0,0)).1) (λi=> .fn (F7.getD i (0,0)).2 []) (λi=>i) n (.I n) (.fn (F7.getD n (0,0)).2 []) (n+1) (λi=> .I (F7.getD i (0,0)).1) (λi=> .fn (F7.getD i (0,0)).2 []) (λi=>i) (n+1):=by
 have a: ∀i,i<10->(F7.getD i (0,0)).1=i:=jD
 refine .inr ⟨λi e h=> ?_,rfl,rfl,λj f=>⟨rfl,rfl,rfl⟩,?_,rfl,rfl⟩
 ·have h:=AV.i.inj h;have:=a i J;omega
 ·dsimp only;rw[a n c]
theorem BQ (a val:Nat->AV) (born:Nat->Nat):yh 0 a val born 0 (.I 0) (.fn (F7.getD 0 (0,0)).2 []) 1 (λi=> .I (F7.getD i (0,0)).1) (λi=> .fn (F7.getD i (0,0)).2 []) (λi=>i) 1:=
 .inr ⟨λi c=>absurd c (dU i),rfl,rfl,λj e=>absurd e (dU j),rfl,rfl,rfl⟩
def H4 (P:List Pf_q0) (i:Inp):Bool:=(!sI i||decide (i.net>=P.length))||(i.k==0&&decide (lQ i.raw.a>=P.length))
theorem Wg {P:List Pf_q0} {i:Inp} (h:H4 P i=false):sI i=true:=by
 unfold H4 at h;cases a:sI i
 ·rw[a] at h;simp at h
 ·rfl
theorem JV {k:Int} (h:0<=k/\k<=9):AV.I (F7.getD k.toNat (0,0)).1= .I k:=by
 have a: ∀i,i<10->(F7.getD i (0,0)).1=i:=jD
 rw[a _ J]
 congr 1
 omega
theorem M1 (s:Stp0) (P:List Pf_q0) (g0:Sta_q0) (o0:List Ot) (st:Sta_q0) (hs:st.fit) (i:Inp) (hfs:i.raw.fs.length<2^62) (hup:i.up.length<2^62) (hk:sI i=true->0<=i.k/\i.k<=9) (sp:Sta_q0×List Ot×Int->Prop) (hact:H4 P i=false->cM (F7.getD i.k.toNat (0,0)).2 true [aHs s P st kV] [.p 0 0,.ag i.av] sp (λy=>[gE s P y.1 y.2.1]) (λ_=>[]) (λy=> .I y.2.2)):cM 24 true [gE s P g0 o0] [.p 0 0,.ag st.av,.ag i.av] (λz:(Sta_q0×List Ot)×Sta_q0×AV×Int=>(H4 P i=true->z.2=(st,kV,1))/\(H4 P i=false-> ∃y,sp y/\z.1=(y.1,y.2.1)/\z.2=if y.2.2=0 then(y.1,.rs 14 y.2.1.length (Bg y.2.1),0) else(st,kV,y.2.2))) (λz=>[gE s P z.1.1 z.1.2]) (λ_=>[]) (λz=> .tup [.ag z.2.1.av,z.2.2.1,.I z.2.2.2]):=by
 refine sE Tryz.func24 [.cell 6 43,.tmp 7,.tmp 8] [(1000003,[.frc 3 3 [5],.frc 3 5 [6],.frc 3 6 [7],.frc 3 7 [8],.frc 3 9 [9],.frc 3 10 [10],.frc 3 11 [11]]),(1000004,[.frc 0 13 [5],.frc 0 15 [6],.frc 0 16 [7],.frc 0 17 [8],.frc 0 19 [9],.frc 0 20 [10],.frc 0 21 [11]]),(1000007,[.frc 3 3 [12],.frc 3 5 [13],.frc 3 6 [14],.frc 3 7 [15],.frc 3 9 [16],.frc 3 10 [17],.frc 3 11 [18]]),(2000008,[.frz 0 [0]]),(2000002,[.frz 0 [0]])] ?_
 let bq:List Nat:=[0]
 exact qQ
theorem Wh: ∀a b:Int×Int×Int,AV.ag [.I a.1,.I a.2.1,.I a.2.2]=AV.ag [.I b.1,.I b.2.1,.I b.2.2]->a=b:=by rintro⟨a,b,c⟩ ⟨d,e,f⟩ h;injection h with h;injection h with g h;injection h with j h;injection h with k h;injection g with _ g;injection j with _ j;injection k with _ k;dsimp only at g j k;rw[g,j,k]
theorem Wi: ∀a b:Int×Int,AV.ag [.I a.1,.I a.2]=AV.ag [.I b.1,.I b.2]->a=b:=by rintro⟨a,b⟩ ⟨d,e⟩ h;injection h with h;injection h with c h;injection h with f h;injection c with _ c;injection f with _ f;dsimp only at c f;rw[c,f]
def k3 (p:Pr):Int×Int×Int:=(p.n,p.e,p.p)
def k2 (p:Pr):Int×Int:=(p.n,p.l)
theorem vy (l:List Pr) (q:l.length<2^62):cM 254 false [] [.rs 4 l.length (fb l)] (λ_:Bool=>True) (λ_=>[]) (λ_=>[]) (λb=> .b b):=by
 refine sE Tryz.func254 [.tmp 2] [(2000005,[.frz 12 [2],.ex 0]),(2000008,[.frz 0 [3,4]])] ?_
 repeat apply jL
 refine⟨[],Nat×List ((Int×Int×Int)×Bool)×List ((Int×Int)×Bool),λx=>x.1<=l.length,
  λx=>[⟨13,[],.I x.1⟩],λx=>[⟨0,[],Dc (λk:Int×Int×Int=> .ag [.I k.1,.I k.2.1,.I k.2.2]) (λb:Bool=>AV.b b) ((0,0,0),false) x.2.1⟩,⟨1,[],Dc (λk:Int×Int=> .ag [.I k.1,.I k.2]) (λb:Bool=>AV.b b) ((0,0),false) x.2.2⟩],λx=>l.length-x.1,
  ⟨(0,[],[]),[],bI _,rfl,rfl,rfl,rfl,rfl,nT,⟨qI,qI⟩⟩,?_⟩
 rintro⟨k,L,M⟩ hk;dsimp only at hk;refine .inl ⟨λc=> ?_,λc=> ?_⟩
 ·have c:=pH c;have c:(k:Int)<l.length:=c;have n:(k:Int).toNat=k:=aQ k
  repeat apply jL
  refine⟨⟨jM,jM⟩,?_⟩;refine⟨.br 12 (.st 13 2 .leaf) 13 (.st 12 2 .leaf),V,Unit,λ_=>True,Function.const Unit ?_,?_,λ_ _=>⟨?_,?_⟩⟩
  rotate_left
  ·refine⟨?_,?_⟩
   ·refine⟨(),[],trivial,?_,xI ?_ ?_⟩
    rotate_left
    ·show _=id _;rfl
    ·exact mG
    ·rfl
   ·exact nC
  ·rfl
  repeat apply jL
  refine⟨[],_,vl (l.getD (k:Int).toNat l6),?_⟩;have g:=lK (L:=L) (d:=((0,0,0),false)) (vf:=λv:Bool=>AV.b v) Wh (k3 (l.getD (k:Int).toNat l6)) false;have f:=lK (L:=M) (d:=((0,0),false)) (vf:=λv:Bool=>AV.b v) Wi (k2 (l.getD (k:Int).toNat l6)) false
  repeat apply jL
  refine⟨_,_,⟨λ_=>⟨λ_ _=>rfl,rfl,g⟩,?_⟩⟩
  repeat apply jL
  refine⟨_,_,⟨λ_=>⟨λ_ _=>rfl,rfl,f⟩,?_⟩⟩;refine⟨λ_=> ?_,λ_=> ?_⟩
  ·exact⟨false,[],trivial,⟨nU,trivial,rfl⟩,rfl,λ_=>⟨rfl,trivial⟩⟩
  refine⟨_,_,_,_,_,⟨λ_ _=>rfl,rfl,lJ (L:=L) (d:=((0,0,0),false)) (vf:=λv:Bool=>AV.b v) Wh (k3 (l.getD (k:Int).toNat l6)) true⟩,?_⟩;refine⟨_,_,_,_,_,⟨λ_ _=>rfl,rfl,lJ (L:=M) (d:=((0,0),false)) (vf:=λv:Bool=>AV.b v) Wi (k2 (l.getD (k:Int).toNat l6)) true⟩,?_⟩;have j:=eN.refl (Dc (λk:Int×Int×Int=> .ag [.I k.1,.I k.2.1,.I k.2.2]) (λb:Bool=>AV.b b) ((0,0,0),false) (kE L (k3 (l.getD (k:Int).toNat l6)) true));have e:=eN.refl (Dc (λk:Int×Int=> .ag [.I k.1,.I k.2]) (λb:Bool=>AV.b b) ((0,0),false) (kE M (k2 (l.getD (k:Int).toNat l6)) true));exact⟨(k+1,kE L (k3 (l.getD (k:Int).toNat l6)) true,kE M (k2 (l.getD (k:Int).toNat l6)) true),[],jM,jM,rfl,rfl,rfl,rfl,rfl,nV,⟨j,e⟩⟩
 ·have c:=iT c;have c:(l.length:Int)<=k:=c;exact⟨true,[],trivial,⟨nU,trivial,rfl⟩,rfl,λ_=>⟨rfl,trivial⟩⟩
theorem ZW (l:List Pr) (x:Pr): ∀k,k<(l++[x]).length->iJ l.length (fb l) (kJ 4 x.av) k=fb (l++[x]) k:=λq a=>by
 rw[bD,cD] at a;unfold iJ fb;rw[zv];by_cases hq2:q<l.length
 ·rw[aE hq2,aE hq2]
 ·exact mJ
def ZX (l:List Pr) (p:Pr) (y:List Pr×Int):Prop:=y.2=0->y.1=l++[p]
theorem BR (l:List Pr) (f:l.length<900000) (p:Pr):cM 189 false [] [.rs 4 l.length (fb l),.ag p.av] (λy:List Pr×Int=>ZX l p y/\y.1.length<=l.length+1) (λ_=>[]) (λy=>[.row 225 4 y.1.length (fb y.1)]) (λy=> .tup [.so 0,.I y.2]):=by
 refine sE Tryz.func189 [.tmp 4,.tmp 5] [(2000003,[.frz 1 [0],.ex 0]),(999999,[.nl 4 225 4])] ?_;refine eX (aN (aN ?_));refine⟨false,[],rfl,Bool,_,_,_,_,vy l J,λb _=> ?_⟩
 refine jc (vl p) ?_;refine⟨λ_=> ?_,λ_=> ?_⟩
 ·exact⟨([],1),[(0,1)],⟨λh=>absurd h jD,bI _⟩,nw,rfl,λ_=>q6⟩
 refine⟨.br 1 (.st 3 2 .leaf) 3 (.st 1 2 .leaf),V,Unit,λ_=>True,Function.const Unit ?_,?_,λ_ _=>⟨?_,?_⟩⟩
 rotate_left
 ·refine⟨?_,?_⟩
  ·refine eX ⟨_,_,V1 l J,?_⟩;refine⟨(),[],trivial,?_,xI ?_ ?_⟩
   rotate_left
   ·show _=id _;rfl
   ·exact mG
   ·rfl
  ·refine eX ⟨_,_,V1 l J,?_⟩;refine⟨(),[(1,2),(2,1)],trivial,rfl,?_,?_,rfl⟩<;>(repeat' first|exact rfl|exact trivial|refine⟨?_,?_⟩|intro _ _)
 ·rfl
 refine⟨oJ J,?_⟩;have e:eV (.rs 4 (l++[p]).length (fb (l++[p]))) (.rs 4 (l.length+1) (iJ l.length (fb l) (kJ 4 p.av))):=⟨rfl,jS,λq hq=>ZW l p q hq⟩;refine eX (aN (aN ?_));refine⟨false,[],rfl,Bool,_,_,_,_,tC.of_eq ?h1 (vy (l++[p]) (by rw[bD,cD];omega)),λb2 _=> ?_⟩
 case h1=>exact e
 refine hY (λ_=> ?_) (λ_=> ?_)
 ·exact⟨([],5),[(0,4)],⟨λh=>absurd h jD,bI _⟩,nw,rfl,λ_=>q6⟩
 exact⟨(l++[p],0),[(0,3)],⟨λ_=>rfl,jS⟩,⟨nU,⟨⟨rfl,rfl,trivial,⟨rfl,rfl,jS,λq hq=>e.2.2 q hq⟩⟩,trivial⟩,rfl⟩,rfl,λ_=>q6⟩
end Go.Proofs.YtpnjmojpeaegoaaGreatDoor
