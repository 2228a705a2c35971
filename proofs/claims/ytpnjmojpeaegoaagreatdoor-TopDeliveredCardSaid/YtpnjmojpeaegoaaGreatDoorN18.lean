/-
  TopDelivered returns true whatever the input, and the input reads behind the call as it read before, where the three listed tables of Go's library hold what the program's text lays: a part of the proof.
-/
import Derived.Test.YtpnjmojpeaegoaaGreatDoorN17
set_option linter.unusedSimpArgs false
set_option linter.unusedVariables false
set_option maxRecDepth 100000
set_option maxHeartbeats 0
namespace Go.Proofs.YtpnjmojpeaegoaaGreatDoor
open Go.Eng Go.RowKit Go.Sort Go.Shelf Go.Qu
def rI (l:List Int) (k:Nat):List AV:=[.I (l.getD k 0)]
theorem Ju (n:Int):cC 91 [.I n] [] (.b false):=by refine hZ Tryz.func91 [.tmp 2] [] ?_;refine RetIs.b ?_;show(n !=n)=false;rw[bne_self_eq_false]
def xR (a b:Int):Int:=if a<b then-1 else if b<a then 1 else 0
theorem E7 (a b:Int):cC 50 [.I a,.I b] [] (.I (xR a b)):=by
 refine hZ Tryz.func50 [.tmp 4] [] ?_
 refine jb (Ju a) ?_
 refine jb (Ju b) ?_
 repeat apply jL
 refine⟨λh=>jC,λ_=> ?_⟩
 repeat apply jL
 refine⟨λh=>jC,λ_=> ?_⟩
 repeat apply jL
 refine jB (decide (a<b)) (λh=> ?_) λh=> ?_
 ·rw[aM] at h;refine RetIs.i ?_;unfold xR;rw[aE h]
 rw[bH] at h
 repeat apply jL
 refine jB (decide (a>b)) (λh2=> ?_) λh2=> ?_
 ·rw[aM] at h2;refine RetIs.i ?_;unfold xR;rw[aB h,aE h2]
 ·rw[bH] at h2;refine RetIs.i ?_;unfold xR;rw[aB h,aB h2]
def pS:List Int->Int
 |[]=>0
 |x::r=>if x=0 then pS r else x
theorem ud: ∀{l:List Int} {k:Nat},k<l.length->(∀j,j<k->l.getD j 0=0)->l.getD k 0≠0->pS l=l.getD k 0
 |[],k,h,_,_=>absurd h (dU k)
 |x::r,0,_,_,h=>by have h:x≠0:=h;unfold pS;rw[aB h];rfl
 |x::r,k+1,h,a,e=>by have c:x=0:=a 0 (Nat.succ_pos k);unfold pS;rw[aE c];exact ud (l:=r) (k:=k) jH (λj f=>a (j+1) J) e
theorem ue: ∀{l:List Int},(∀j,j<l.length->l.getD j 0=0)->pS l=0
 |[],_=>rfl
 |x::r,h=>by have a:x=0:=h 0 jS;unfold pS;rw[aE a];exact ue λj hj=>h (j+1) jT
theorem aDf (l:List Int) (w:l.length<2^62):cC 49 [.rs 1 l.length (rI l)] [] (.I (pS l)):=by
 refine hZ Tryz.func49 [.tmp 2] [] ?_
 repeat apply jL
 refine⟨[],Nat,λk=>k<=l.length/\ ∀j,j<k->l.getD j 0=0,λk=>[⟨8,[],.I k⟩],λ_=>[],λk=>l.length-k,
  nc,?_⟩
 rintro k ⟨q,g⟩;have q:k<=l.length:=q;refine .inl ⟨λf=> ?_,λf=> ?_⟩
 ·have f:=pH f;have f:(k:Int)<l.length:=f;have n:(k:Int).toNat=k:=aQ k
  repeat apply jL
  refine⟨⟨J,J⟩,?_⟩
  repeat apply jL
  refine jB (l.getD (k:Int).toNat 0 !=0) (λh=> ?_) λh=> ?_
  ·rw[n,lM] at h;refine RetIs.i ?_;rw[n];exact(ud J g h).symm
  ·rw[n,fY] at h;refine⟨k+1,[],⟨J,λj hj=> ?_⟩,jM,rfl,rfl,rfl,rfl,rfl,nV,trivial⟩;by_cases t:j=k
   ·rw[t];exact h
   ·exact g j J
 ·have f:=iT f;have f:(l.length:Int)<=k:=f;obtain rfl:k=l.length:=J
  exact RetIs.i (ue g).symm
theorem two {p:Nat->Prop} (a:p 0) (c:p 1): ∀k,k<2->p k:=by
 intro k e
 match k with
 |0=>exact a
 |1=>exact c
 |k+2=>omega
theorem GL (x y:Int):cC 49 [.rs 1 2 (kJ 1 [.I x,.I y])] [] (.I (pS [x,y])):=
 j8.of_eq (args:=[.rs 1 [x,y].length (rI [x,y])]) ⟨rfl,rfl,two rfl rfl⟩ (aDf [x,y] (show 2<2^62 by decide))
def ltP (a b c d:Int):Bool:=decide (a<c\/(a=c/\b<d))
theorem bm (a b c d:Int):decide (pS [xR a c,xR b d]<0)=ltP a b c d:=by
 unfold ltP pS;have g:xR a c=0↔a=c:=by unfold xR;split<;>(try split)<;>omega
 have j:xR a c<0↔a<c:=by unfold xR;split<;>(try split)<;>omega
 have k:xR b d=0↔b=d:=by unfold xR;split<;>(try split)<;>omega
 have l:xR b d<0↔b<d:=by unfold xR;split<;>(try split)<;>omega
 rw[uB];unfold pS pS;by_cases e:xR a c=0
 ·rw[aE e];by_cases f:xR b d=0
  ·rw[aE f];have:=g.1 e;have:=k.1 f;omega
  ·rw[aB f,l];have:=g.1 e;omega
 ·rw[aB e,j];have:a≠c:=λh=>e (g.2 h);omega
theorem Uz {α:Type} (f g:α->Int) {a:α->α->Bool} (h: ∀x y,a x y=ltP (f x) (g x) (f y) (g y)):SWO a where
 irrefl x:=by rw[h];unfold ltP;simp
 trans x y z h1 h2:=by rw[h] at*;unfold ltP at*;simp at*;omega
 ntrans x y z h1 h2:=by rw[h] at*;unfold ltP at*;simp at*;omega
theorem Va (n a b:Int):cC 85 [.I n,.I a,.I b] [] (.b (decide (a<=n)&&decide (n<=b))):=by refine hZ Tryz.func85 [.tmp 6] [] ?_;exact RetIs.b rfl
def PQ (n a b:Int):Bool:=decide (a<=n)&&decide (n<=b)
def Eg (w:Wt):Bool:=((PQ w.e 0 99999&&PQ w.n 0 11)&&PQ w.l 1 1099511627776)&&PQ w.d 0 1073741824
theorem zw (w:Wt):cC 44 [.ag w.av] [] (.b (Eg w)):=by
 refine hZ Tryz.func44 [.tmp 2] [] ?_
 refine jb (Va _ _ _) ?_
 refine jc (Va _ _ _) ?_
 refine jc (Va _ _ _) ?_
 refine jc (Va _ _ _) ?_;exact RetIs.b rfl
theorem PR (e n:Int) (w:Wt):cC 87 [.ag w.av,.rp [.I e],.rp [.I n]] [] (.b (w.e==e&&w.n==n)):=by refine hZ Tryz.func87 [.tmp 4] [] ?_;exact RetIs.b rfl
def Yv (l:List Wt) (e n:Int):Bool:=l.any λw=>w.e==e&&w.n==n
theorem GN (l:List Wt) (c:l.length<2^62) (e n:Int):cC 45 [.rs 4 l.length (rW l),.I e,.I n] [] (.b (Yv l e n)):=by
 refine hZ Tryz.func45 [.tmp 6] [] ?_
 repeat apply jL
 refine⟨[],_,bj l c 87 _ _ _ (λw _=>PR e n w),?_⟩;exact RetIs.b rfl
def qB (l:List Wt) (i:Nat):Bool:= !Eg (l.getD i dW)||Yv (l.take i) (l.getD i dW).e (l.getD i dW).n
def pX (l:List Wt):Bool:= !(List.range l.length).any (qB l)
theorem Eh {α:Type} {l:List α} {i:Nat} (h:i<=l.length):(l.take i).length=i:=by rw[cT];omega
theorem bs (l:List Wt) (D:l.length<2^62):cC 43 [.rs 4 l.length (rW l)] [] (.b (pX l)):=by
 refine hZ Tryz.func43 [.tmp 2] [] ?_
 repeat apply jL
 refine⟨[],Nat,λk=>k<=l.length/\ ∀j,j<k->qB l j=false,λk=>[⟨7,[],.I k⟩],λ_=>[],λk=>l.length-k,
  nc,?_⟩
 rintro k ⟨x,t⟩;have x:k<=l.length:=x;refine .inl ⟨λf=> ?_,λf=> ?_⟩
 ·have f:=pH f;have f:(k:Int)<l.length:=f;refine .inl ⟨J,?_⟩;have g:(k:Int).toNat=k:=aQ k;have w:=GN (l.take k) (by rw[Eh J];omega) (l.getD k dW).e (l.getD k dW).n;rw[Eh J] at w
  repeat apply jL
  refine⟨[],_,zw (l.getD (k:Int).toNat dW),?_⟩
  repeat apply jL
  refine⟨λ_=>⟨J,J⟩,?_⟩
  repeat apply jL
  refine⟨[],_,λ_=>j8.of_eq (args:=[.rs 4 k (rW (l.take k)),.I (l.getD k dW).e,.I (l.getD k dW).n]) ⟨⟨rfl,J,λq C=> ?_⟩,by rw[g];exact eV.refl _,by rw[g];exact eV.refl _⟩ w,?_⟩
  ·unfold rW;rw[gdT dW l C];simp
  refine jB (qB l (k:Int).toNat) (λh=> ?_) λh=> ?_
  ·rw[g] at h;refine RetIs.b ?_;unfold pX;rw[t5 (qB l) 0 (List.range l.length) (j:=k) jO (by rw[Q6 J];exact h)];rfl
  ·rw[g] at h;refine⟨k+1,[],⟨J,λj hj=> ?_⟩,jM,rfl,rfl,rfl,rfl,rfl,nV,trivial⟩;by_cases z:j=k
   ·subst z;exact h
   ·exact t j J
 ·have f:=iT f;have f:(l.length:Int)<=k:=f;refine RetIs.b ?_;unfold pX;rw[t4 (qB l) 0 _ λj hj=>by rw[oP] at hj;rw[Q6 hj];exact t j J];rfl
theorem aDg {n:Nat} {g h:Nat->List AV}: ∀k,k<n->iJ 0 h g k=g k:=λk _=>by simp[iJ]
theorem zZ (l:List Wt) (a:l.length*32<=140737488355328):cC 42 [.rs 4 l.length (rW l)] [.row 68 4 l.length (rW l)] (.so 0):=by
 refine hZ Tryz.func42 [.tmp 2] [(999999,[.nl 2 68 4])] ?_;refine .inl λc hc=>⟨λh=> ?_,λh=>⟨by rw[dR];exact a,?_⟩⟩
 ·exact mK
 ·exact mN
theorem Ei (w:Wt):cC 52 [.ag w.av] [] (.b (w.l==0)):=by refine hZ Tryz.func52 [.tmp 2] [] ?_;exact RetIs.b rfl
end Go.Proofs.YtpnjmojpeaegoaaGreatDoor
namespace Go.Proofs.YtpnjmojpeaegoaaGreatDoor
open Go.Eng Go.Qu
def po (s:Int×List Wt×List Int) (i:Nat):Int×List Wt×List Int:=
 (s.1-min s.1 (s.2.1.getD i dW).l,s.2.1.set i {s.2.1.getD i dW with l:=(s.2.1.getD i dW).l-min s.1 (s.2.1.getD i dW).l},if((s.2.1.getD i dW).l-min s.1 (s.2.1.getD i dW).l==0)=true then s.2.2++[(s.2.1.getD i dW).e] else s.2.2)
def wM (r:Int) (l:List Wt) (o:List Nat):Int×List Wt×List Int:=o.foldl po (r,l,[])
theorem GO (r:Int) (l:List Wt) (o:List Nat) (i:Nat):wM r l (o++[i])=po (wM r l o) i:=by unfold wM;rw[iQ];rfl
theorem Yw {l:List Wt} {i j:Nat} {x:Wt}:(l.set i x).getD j dW=if i=j/\i<l.length then x else l.getD j dW:=by
 simp only[List.getD,tJ];by_cases h:i=j
 ·subst h;by_cases a:i<l.length
  ·rw[aE rfl,aE a,aE ⟨rfl,a⟩];rfl
  ·rw[aE rfl,aB a,aB (λh=>a h.2),eY J]
 ·rw[aB h,aB (λk=>h k.1)]
structure SvOk_q1 (r:Int) (n:Nat) (s:Int×List Wt×List Int):Prop where
 len:s.2.1.length=n
 p0:0<=s.1
 p1:s.1<=r
 w: ∀j,0<=(s.2.1.getD j dW).l/\(s.2.1.getD j dW).l<=1099511627776
theorem SvOk_q1.step {r:Int} {n:Nat} {s:Int×List Wt×List Int} (h:SvOk_q1 r n s) (i:Nat):SvOk_q1 r n (po s i):=by
 have e:=h.w i;have a:=h.p0;have c:=h.p1;refine⟨by simp[po,h.len],by show 0<=s.1-_;omega,by show s.1-_<=r;omega,λj=> ?_⟩;show 0<=((s.2.1.set i _).getD j dW).l/\((s.2.1.set i _).getD j dW).l<=_;rw[Yw];split
 ·show 0<=(s.2.1.getD i dW).l-_/\(s.2.1.getD i dW).l-_<=_;omega
 ·exact h.w j
theorem YD {r:Int} (e:0<=r) {l:List Wt} (c: ∀j,0<=(l.getD j dW).l/\(l.getD j dW).l<=1099511627776) (o:List Nat):SvOk_q1 r l.length (wM r l o):=by
 have a: ∀(o:List Nat) (s:Int×List Wt×List Int),SvOk_q1 r l.length s->SvOk_q1 r l.length (o.foldl po s):=by
  intro o
  induction o with
  |nil=>exact λs h=>h
  |cons i t f=>exact λs h=>f _ (h.step i)
 exact a o _ ⟨rfl,e,kR _,c⟩
theorem GP (r:Int) (l:List Wt) (o:List Nat):(wM r l o).2.2.length<=o.length:=by
 have a: ∀(o:List Nat) (s:Int×List Wt×List Int),(o.foldl po s).2.2.length<=s.2.2.length+o.length:=by
  intro o
  induction o with
  |nil=>exact λs=>aG _
  |cons i t c=>
   intro s;have:=c (po s i);have e:(po s i).2.2.length<=s.2.2.length+1:=by unfold po;dsimp only;split<;>simp
   simp only[gK,gR];omega
 have:=a o (r,l,[]);simpa [wM] using this
theorem Vb: ∀(o:List Nat) (r:Int) (l:List Wt) (d:List Int),o.Nodup->(∀i∈o,i<l.length)->
  (o.foldl po (r,l,d)).2.1.length=l.length/\(∀i,i∉o->(o.foldl po (r,l,d)).2.1.getD i dW=l.getD i dW)/\o.map (λi=>(o.foldl po (r,l,d)).2.1.getD i dW)=Qu.serve r (o.map λi=>l.getD i dW)/\
   (o.foldl po (r,l,d)).2.2=d++((Qu.serve r (o.map λi=>l.getD i dW)).filter λx=>x.l==0).map (·.e)
 |[],r,l,d,_,_=>⟨rfl,λ_ _=>rfl,rfl,by simp[Qu.serve]⟩
 |i::t,r,l,d,c,q=>by
  have C:=q i jS;rw[jQ] at c;obtain⟨A,f,g,n⟩:=Vb t (r-min r (l.getD i dW).l) (l.set i {l.getD i dW with l:=(l.getD i dW).l-min r (l.getD i dW).l}) (if((l.getD i dW).l-min r (l.getD i dW).l==0)=true then d++[(l.getD i dW).e] else d) c.2 (λj a=>by rw[iD];exact q j (by simp[a]));have z:t.map (λj=>(l.set i {l.getD i dW with l:=(l.getD i dW).l-min r (l.getD i dW).l}).getD j dW)=t.map λj=>l.getD j dW:=oY λj a=>by rw[Yw,aB (λh:i=j/\_=>c.1 (h.1▸a))]
  rw[z] at g n;simp only[gK];have w:po (r,l,d) i=(r-min r (l.getD i dW).l,l.set i {l.getD i dW with l:=(l.getD i dW).l-min r (l.getD i dW).l},if((l.getD i dW).l-min r (l.getD i dW).l==0)=true then d++[(l.getD i dW).e] else d):=rfl;rw[w];refine⟨by rw[A,iD],λj a=> ?_,?_,?_⟩
  ·rw[eF,not_or] at a;rw[f j a.2,Yw,aB (λh:i=j/\_=>a.1 h.1.symm)]
  ·rw[gP,gP,Qu.serve,g,f i c.1,Yw,aE ⟨rfl,C⟩]
  ·rw[n,gP,Qu.serve,iW];dsimp only;split
   ·rw[gP,gD];rfl
   ·rfl
theorem mq {α β:Type} (p:α->Bool) (f:α->β) (l:List α):((l.filter p).map f++(l.filter λx=> !p x).map f).Perm (l.map f):=by rw[<-fJ];exact(oU p l).map f
theorem iz {α:Type} (l:List α) (d:α):(List.range l.length).map (λi=>l.getD i d)=l:=by refine iV jS λi c a=> ?_;simp[List.getD,bL a]
theorem YE {r a:Int} {l:List Wt} {o:List Nat} (e:o.Perm ((List.range l.length).filter λi=>(l.getD i dW).n==a)) (L:o.Pairwise λi j=>Eb (l.getD i dW) (l.getD j dW)) (N: ∀x∈l,x.l≠0):
  Stp r a l (wM r l o).2.2 (kp (λw=>w.l==0) (wM r l o).2.1):=by
 have g: ∀i,i∈o↔i<l.length/\(l.getD i dW).n=a:=λi=>by rw[e.mem_iff,eC,fO,cH]
 have t:o.Nodup:=e.nodup_iff.2 (List.nodup_range.filter _);obtain⟨E,F,G,H⟩:=Vb o r l [] t (λi c=>((g i).1 c).1);have q:((List.range l.length).filter λi=>(l.getD i dW).n==a).map (λi=>l.getD i dW)=l.filter λx=>x.n==a:=by
  conv=>rhs;rw[<-iz l dW]
  rw[vE];rfl
 refine⟨o.map λi=>l.getD i dW,by rw[<-q];exact e.map _,by rw[gQ];exact L,?_,by simpa [wM] using H⟩;have K:(wM r l o).2.1=(List.range l.length).map λi=>(wM r l o).2.1.getD i dW:=by have:=iz (wM r l o).2.1 dW;rw[show(wM r l o).2.1.length=l.length from E] at this;exact this.symm
 have f:=mq (λi=>(l.getD i dW).n==a) (λi=>(wM r l o).2.1.getD i dW) (List.range l.length);rw[<-K] at f;have A:((List.range l.length).filter λi=> !((l.getD i dW).n==a)).map (λi=>(wM r l o).2.1.getD i dW)=l.filter λx=> !(x.n==a):=by
  conv=>rhs;rw[<-iz l dW]
  rw[vE];refine oY λi c=> ?_;rw[eC] at c;exact F i λh=>by have k:=c.2;rw[((g i).1 h).2] at k;simp at k
 have C:(((List.range l.length).filter λi=>(l.getD i dW).n==a).map λi=>(wM r l o).2.1.getD i dW).Perm (Qu.serve r (o.map λi=>l.getD i dW)):=by rw[<-G];exact(e.map _).symm
 rw[A] at f;have z:=(((C.append_right _).symm.trans f).trans (rH _)).filter λx=> !(x.l==0);unfold kp;refine z.symm.trans ?_;rw[gS];refine List.perm_append_comm.trans ?_;have D:(l.filter λx=> !(x.n==a)).filter (λx=> !(x.l==0))=l.filter λx=> !(x.n==a):=lC.2 λx M=>by have:=N x (eC.1 M).1;simpa using this
 rw[D]
end Go.Proofs.YtpnjmojpeaegoaaGreatDoor
