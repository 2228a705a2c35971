/-
  TopDelivered returns true whatever the input, and the input reads behind the call as it read before, where the three listed tables of Go's library hold what the program's text lays: a part of the proof.
-/
import Derived.Test.YtpnjmojpeaegoaaGreatDoorN24
set_option linter.unusedSimpArgs false
set_option linter.unusedVariables false
set_option maxRecDepth 100000
set_option maxHeartbeats 0
namespace Go.Proofs.YtpnjmojpeaegoaaGreatDoor
open Go.Eng Go.Qu
def kq (l:List Wt):List (Int×Int):=l.map λw=>(w.e,w.n)
def kt (l:List Snt):List (Int×Int):=l.map λw=>(w.e,w.n)
def kb (l:List Dbt):List (Int×Int):=l.map λw=>(w.e,w.n)
def fa (us:List (List Bool)) (n:Nat):List Bool:=us.map λu=>u.getD n false
theorem O6 (us:List (List Bool)) (u:List Bool) (n:Nat):fa (us++[u]) n=fa us n++[u.getD n false]:=by simp[fa]
theorem wk (us:List (List Bool)) (n:Nat):(fa us n).length=us.length:=by simp[fa]
theorem LF (r:Int) (s:List Wt):kq (Qu.serve r s)=kq s:=by have h:=fW (List.map λt:Int×Int×Int=>(t.1,t.2.1)) (iw s r);simpa [kq,pK,Function.comp_def] using h
theorem Mn {r n:Int} {l a:List Wt} {done:List Int} (h:Stp r n l done a):(kq a++done.map λe=>(e,n)).Perm (kq l):=by
 obtain⟨s,c,E,g,j⟩:=h.is;have k: ∀x∈s,x.n=n:=λx t=>by simpa using(eC.1 (c.mem_iff.1 t)).2
 have q:=Ee (r:=r) k;have f:(done.map λe=>(e,n))=kq ((Qu.serve r s).filter λx=>x.l==0):=by rw[j];unfold kq;rw[pK];refine oY λy z=> ?_;have:=q y (eC.1 z).1;show(y.e,n)=(y.e,y.n);rw[this]
 rw[f];have A:(kq a).Perm (kq (l.filter λx=> !(x.n==n))++kq ((Qu.serve r s).filter λx=> !(x.l==0))):=by
  have:=g.map λw:Wt=>(w.e,w.n)
  rwa [fJ] at this
 have C:(kq ((Qu.serve r s).filter λx=> !(x.l==0))++kq ((Qu.serve r s).filter λx=>x.l==0)).Perm (kq s):=by have:=(oU (λx:Wt=>x.l==0) (Qu.serve r s)).map λw:Wt=>(w.e,w.n);rw[fJ] at this;have e:=LF r s;unfold kq at e|-;rw[<-e];exact List.perm_append_comm.trans this
 have D:(kq s++kq (l.filter λx=> !(x.n==n))).Perm (kq l):=by have:=(oU (λx:Wt=>x.n==n) l).map λw:Wt=>(w.e,w.n);rw[fJ] at this;exact((c.map _).append_right _).trans this
 refine(A.append_right _).trans ?_;rw[gD];exact(C.append_left _).trans (List.perm_append_comm.trans D)
theorem LG {r n:Int} (t:0<=r) {l c:List Wt} {done:List Int} (h:Stp r n l done c) (e: ∀x∈l,1<=x.l) {y:Wt} (g:y∈c):1<=y.l/\ ∃x∈l,y={x with l:=y.l}/\y.l<=x.l:=by
 by_cases f:y.n=n
 ·obtain⟨j,x,a,_,k,q,_⟩:=h.own t e g f;exact⟨j,x,a,k,q⟩
 ·have a:=((h.other f y).2 y rfl).1 g;exact⟨e y a,y,a,rfl,kR _⟩
theorem O7 {l:List Wt}:pX l=true↔(∀w∈l,Eg w=true)/\(kq l).Nodup:=by
 constructor
 ·intro h;refine⟨GS h,?_⟩;unfold kq;rw[List.Nodup,gQ,gN];intro i j hi a g e;injection e with n q;refine GT h a g ?_ ?_
  ·simpa [List.getD,hi,a] using q
  ·simpa [List.getD,hi,a] using n
 ·rintro⟨t,f⟩;unfold pX;rw[dQ,fH];intro i hi;have hi:i<l.length:=jI
  unfold qB;rw[uC,bT];have e:l.getD i dW=l[i]:=by simp[List.getD,hi]
  rw[e];refine⟨by rw[t _ (fN hi)];rfl,?_⟩;unfold Yv;rw[fH];intro x z c;obtain⟨j,a,rfl⟩:=cU z;rw[cT] at a;rw[pZ] at c;unfold kq at f;rw[List.Nodup,gQ,gN] at f;have:=f j i J hi J;rw[aW,cH,cH] at c;exact this (by rw[c.1,c.2])
theorem ltJ (x y:Jb):ltOf Zc x y=ltP x.due x.id y.due y.id:=by unfold ltOf Zc;exact bm _ _ _ _
theorem TB (n:Int) (s:List Jb) (k:Nat):pre s k=Q5 ((s.take k).map λj=>(⟨j.id,n,j.sz,j.due⟩:Wt)):=by unfold pre Q5;rw[pK];rfl
theorem TC {p:Pf_q0} (Q:p2 p=0) {l:List Wt} {n C:Int} (hq:pX l=true) (h0:0<=C) (h:A8 p (zL l n) C 0) {x:Wt} (N:x∈l) (hn:x.n=n):nd n x l<=gv p.rate p.down p.win C x.d:=by
 unfold A8 at h;split at h
 case isFalse=>cases h
 obtain⟨s,h1,h2,g⟩:=h;rcases g with ⟨_,g⟩|⟨g,_⟩
 case inr=>cases g
 obtain⟨hw,hk⟩:=O7.1 hq
 let f:Jb->Wt:=λj=>⟨j.id,n,j.sz,j.due⟩
 have E:(s.map f).Perm (l.filter λx=>x.n==n):=by
  have:=h1.map f;unfold zL at this;rw[pK] at this;have e:(l.filter λx=>x.n==n).map (f∘toJ)=l.filter λx=>x.n==n:=by
   have: ∀m:List Wt,(∀y∈m,y.n=n)->m.map (f∘toJ)=m:=λm=>by
    induction m with
    |nil=>intro _;rfl
    |cons y t ih=>
     intro M;rw[gP,ih λz hz=>M z (by simp[hz])]
     congr 1
     show(⟨y.e,n,y.l,y.d⟩:Wt)=y;rw[<-M y jS]
   exact this _ λy F=>by simpa using(eC.1 F).2
  rwa [e] at this
 have R:x∈s.map f:=E.mem_iff.2 (eC.2 ⟨N,by simpa using hn⟩);have A:(kq (s.map f)).Nodup:=by refine(E.map λw:Wt=>(w.e,w.n)).nodup_iff.2 ?_;exact hk.sublist (List.Sublist.map _ List.filter_sublist)
 have S: ∀y∈s.map f,y.n=n:=λy F=>by obtain⟨j,_,rfl⟩:=fL.1 F;rfl
 have P:(s.map f).Pairwise Eb:=by
  unfold kq at A;rw[List.Nodup,gQ,gQ] at A;rw[gQ];refine(h2.and A).imp λ{a b} G=> ?_;have K:ltP b.due b.id a.due a.id=false:=by rw[<-ltJ];exact G.1
  have L:(a.id,n)≠(b.id,n):=G.2;have L:a.id≠b.id:=λe=>L (by rw[e]);unfold ltP at K;rw[bH] at K;show a.due<b.due\/(a.due=b.due/\a.id<b.id);omega
 obtain⟨k,O,q⟩:=cU R;have c:k<s.length:=by simpa using O
 have H:=g k c;have D:s.map f=(s.take k).map f++x::(s.drop (k+1)).map f:=by
  conv=>lhs;rw[<-lH k s,oI c]
  rw[fJ,gP,<-q,iO]
 have U:nd n x l=Q5 ((s.take k).map f)+x.l:=by rw[iv,<-bh E,D];exact Qa (by rw[<-D];exact S) (by rw[<-D];exact P)
 have W:pre s (k+1)=nd n x l:=by
  rw[uf s c,TB n,U]
  congr 1
  rw[<-q,iO];simp[f,List.getD,c]
 have Y:(s.getD k dJ).due=x.d:=by rw[<-q,iO];simp[f,List.getD,c]
 rw[W,Y,GZ Q h0] at H
 ·exact H
 ·have:=hw x N;unfold Eg PQ at this;simp at this;omega
structure QI (P:List Pf_q0) (W:Int) (us:List (List Bool)) (s:Sta_q0):Prop where
 step:s.step=us.length
 q: ∀w∈s.q,Eg w=true/\w.n<P.length/\w.e<s.ev.length/\w.d=(s.ev.getD w.e.toNat dE).st+W
 inv: ∀n,n<P.length->Qu.Inv_q1 (P.getD n wV).rate (P.getD n wV).down (P.getD n wV).win n (fa us n) s.q
 nd:(kq s.q++(kb s.ref++kt s.sent)).Nodup
 ref: ∀x∈s.ref,0<=x.e/\x.e<s.ev.length/\0<=x.n/\x.n<P.length
 sent: ∀x∈s.sent,0<=x.e/\x.e<s.ev.length/\0<=x.n/\x.n<P.length/\(MZ (P.getD x.n.toNat wV).down (P.getD x.n.toNat wV).win (fa us x.n.toNat)->x.s<=(s.ev.getD x.e.toNat dE).st+W)
theorem Sq {w:Wt} (h:Eg w=true):0<=w.e/\w.e<=99999/\0<=w.n/\w.n<=11/\1<=w.l/\w.l<=1099511627776/\0<=w.d/\w.d<=1073741824:=by unfold Eg PQ at h;simp at h;omega
theorem QI.queue {P:List Pf_q0} {W:Int} {us:List (List Bool)} {s:Sta_q0} (h:QI P W us s):pX s.q=true:=
 O7.2 ⟨λw a=>(h.q w a).1,(iI.1 h.nd).1⟩
theorem QI.evs {P:List Pf_q0} {W:Int} {us:List (List Bool)} {s s':Sta_q0} (h:QI P W us s) (t:s'.step=s.step) (f:s'.q=s.q) (j:s'.ref=s.ref) (l:s'.sent=s.sent) (A:s.ev.length<=s'.ev.length)
  (n: ∀k,k<s.ev.length->(s'.ev.getD k dE).st=(s.ev.getD k dE).st):QI P W us s' where
 step:=t.trans h.step
 q:=by rw[f];intro w z;obtain⟨a,b,c,d⟩:=h.q w z;exact⟨a,b,J,by rw[n _ (by have:=Sq a;omega)];exact d⟩
 inv:=by rw[f];exact h.inv
 nd:=by rw[f,j,l];exact h.nd
 ref:=by rw[j];intro x g;obtain⟨a,b,c,d⟩:=h.ref x g;exact⟨a,J,c,d⟩
 sent:=by rw[l];intro x g;obtain⟨a,b,c,d,e⟩:=h.sent x g;exact⟨a,J,c,d,by rw[n _ J];exact e⟩
inductive Tck (P:List Pf_q0) (st:Int) (up:List Bool) (q0:List Wt) (t0:List Snt):Nat->List Wt->List Snt->Prop
 |nil:Tck P st up q0 t0 0 q0 t0
 |go {k:Nat} {q:List Wt} {t:List Snt} {y:List Int×List Wt}:Tck P st up q0 t0 k q t->yB (P.getD k wV) k q (up.getD k false) y->Tck P st up q0 t0 (k+1) y.2 (t++y.1.map λe=>⟨e,k,st⟩)
theorem yB.len {p:Pf_q0} {n:Int} {l:List Wt} {up:Bool} {y:List Int×List Wt} (h:yB p n l up y):y.2.length+y.1.length=l.length:=by
 unfold yB at h;split at h
 ·rw[h];simp
 ·have:=(Mn h.1).length_eq;simpa [kq] using this
structure TkI (P:List Pf_q0) (W:Int) (us:List (List Bool)) (up:List Bool) (s:Sta_q0) (k:Nat) (q:List Wt) (t:List Snt):Prop where
 hq: ∀w∈q,Eg w=true/\w.n<P.length/\w.e<s.ev.length/\w.d=(s.ev.getD w.e.toNat dE).st+W
 hinv: ∀n,n<P.length->Qu.Inv_q1 (P.getD n wV).rate (P.getD n wV).down (P.getD n wV).win n (if n<k then fa (us++[up]) n else fa us n) q
 hnd:(kq q++(kb s.ref++kt t)).Nodup
 hsent: ∀x∈t,0<=x.e/\x.e<s.ev.length/\0<=x.n/\x.n<P.length/\(MZ (P.getD x.n.toNat wV).down (P.getD x.n.toNat wV).win (fa (us++[up]) x.n.toNat)->x.s<=(s.ev.getD x.e.toNat dE).st+W)
theorem Wv {P:List Pf_q0} {W:Int} {us:List (List Bool)} {s:Sta_q0} (h:QI P W us s) (hP: ∀p∈P,p2 p=0) {up:List Bool}: ∀{k:Nat} {q:List Wt} {t:List Snt},Tck P (s.step+1) up s.q s.sent k q t->k<=P.length->TkI P W us up s k q t:=by
 intro k q t ht
 induction ht with
 |nil=>intro _;refine⟨h.q,λn A=>by rw[aB (dU n)];exact h.inv n A,h.nd,λx f=> ?_⟩;obtain⟨a,b,c,d,e⟩:=h.sent x f;exact⟨a,b,c,d,λD=>e (by rw[O6] at D;exact D.pre)⟩
 | @go k q t y _ F ih=>
  intro hk;have I:=ih J;have M:k<P.length:=J
  have K:p2 (P.getD k wV)=0:=hP _ (by simp[List.getD,M]);have N:=l2 K;have R:pX q=true:=O7.2 ⟨λw E=>(I.hq w E).1,(iI.1 I.hnd).1⟩;have O:k<k+1:=gA k;unfold yB at F;split at F
  ·rename_i z;have H:up.getD k false=false:=by rw[K,R] at z;simpa using z
   subst F;refine⟨I.hq,λn A=> ?_,by simpa using I.hnd,λx f=>I.hsent x (by simpa using f)⟩;have:=I.hinv n A;by_cases e:n=k
   ·subst e;rw[aB (oB n)] at this;rw[aE O,O6,H];exact this.down
   ·by_cases g:n<k
    ·rw[aE g] at this;rw[aE J];exact this
    ·rw[aB g] at this;rw[aB J];exact this
  ·rename_i z;have H:up.getD k false=true:=by rw[K,R] at z;simpa using z
   obtain⟨C,a0⟩:=F;have L: ∀x∈q,1<=x.l:=λx f=>(Sq (I.hq x f).1).2.2.2.2.1;have hr:1<=(P.getD k wV).rate:=J
   have G:=I.hinv k M;rw[aB (oB k)] at G;refine⟨λw E=> ?_,λn A=> ?_,?_,λx f=> ?_⟩
   ·obtain⟨S,x,f,j,h3⟩:=LG J C L E;obtain⟨a,b,c,d⟩:=I.hq x f;have Q:w.e=x.e:=by rw[j]
    have g:w.n=x.n:=(by rw[j]);have e3:w.d=x.d:=by rw[j]
    have:=Sq a;refine⟨?_,by rw[g];exact b,by rw[Q];exact c,by rw[e3,Q];exact d⟩;unfold Eg PQ;simp;omega
   ·by_cases e:n=k
    ·subst e;rw[aE O,O6,H];exact G.step J L C
    ·have:=(I.hinv n A).other (n:=k) J C;by_cases g:n<k
     ·rw[aE g] at this;rw[aE J];exact this
     ·rw[aB g] at this;rw[aB J];exact this
   ·refine List.Perm.nodup_iff ?_|>.2 I.hnd;have e:kt (t++y.1.map λe=>(⟨e,k,s.step+1⟩:Snt))=kt t++y.1.map λe=>(e,(k:Int)):=by unfold kt;rw[fJ,pK];rfl
    rw[e];have S:=Mn C;have j:(kq y.2++(kb s.ref++(kt t++y.1.map λe=>(e,(k:Int))))).Perm ((kq y.2++y.1.map λe=>(e,(k:Int)))++(kb s.ref++kt t)):=by rw[gD];refine List.Perm.append_left _ ?_;rw[<-gD];exact List.perm_append_comm
    exact j.trans (S.append_right _)
   ·rcases cR.1 f with f|f
    ·exact I.hsent x f
    ·obtain⟨e,he,rfl⟩:=fL.1 f;obtain⟨x,f,Y,dw⟩:=C.done he;obtain⟨a,b,c,d⟩:=I.hq x f;have E:=Sq a;refine⟨by show 0<=e;omega,by show e<_;omega,iK k,by show(k:Int)<_;omega,λD=> ?_⟩;have D:MZ (P.getD k wV).down (P.getD k wV).win (fa us k++[up.getD k false]):=by rw[<-O6];simpa using D
     have U:=G.late hr N.2.2.2.2.2.2.1 N.2.2.2.2.2.2.2.1 D.pre L f Y;rw[wk] at U;show s.step+1<=(s.ev.getD e.toNat dE).st+W;rw[<-dw,<-d,h.step];omega
theorem TD {P:List Pf_q0} {W:Int} {us:List (List Bool)} {s s':Sta_q0} (h:QI P W us s) (g: ∀p∈P,p2 p=0) {up:List Bool} (j:Tck P (s.step+1) up s.q s.sent P.length s'.q s'.sent) (f:s'.step=s.step+1) (a:s'.ev=s.ev) (c:s'.ref=s.ref):QI P W (us++[up]) s':=by
 have I:=Wv h g j (aG _);refine⟨by rw[f,h.step];simp,by rw[a];exact I.hq,λn e=> ?_,by rw[c];exact I.hnd,by rw[c,a];exact h.ref,by rw[a];exact I.hsent⟩;have:=I.hinv n e
 rwa [aE e] at this
theorem TE {r:List Dbt} {d:Dbt} (e: ∀x∈r,oa x=true) (f:r.Pairwise λx y=>v4 x y=true) (g:oa d=true) (a: ∀x∈r,v4 x d=true):l7 r d=(r++[d],0):=by
 have c: ∀x,v4 x x=false:=λx=>by simp[v4,ltP]
 have j: ¬d∈r:=λh=>by have:=a d h;rw[c] at this;cases this
 unfold l7;rw[Si e f g,aB jD,aB j];unfold Sj;rw[lC.2 a,xC.2 λx l=>by rw[a x l];decide]
def Fw (r:List Dbt) (d:Dbt):List Dbt:=if(l7 r d).2=0 then(l7 r d).1 else r
inductive Spr (P:List Pf_q0) (W st id:Int) (q0:List Wt) (r0:List Dbt):Nat->List Wt->List Dbt->List Int->Prop
 |nil:Spr P W st id q0 r0 0 q0 r0 []
 |skip {k:Nat} {q:List Wt} {r:List Dbt} {o:List Int}:Spr P W st id q0 r0 k q r o->Spr P W st id q0 r0 (k+1) q r o
 |put {k:Nat} {q q':List Wt} {r:List Dbt} {o:List Int}:Spr P W st id q0 r0 k q r o->bt (P.getD k wV) q ⟨id,k,(P.getD k wV).parts,st+W⟩ st (q',0)->Spr P W st id q0 r0 (k+1) q' r o
 |ref {k:Nat} {q:List Wt} {r:List Dbt} {o:List Int}:Spr P W st id q0 r0 k q r o->Spr P W st id q0 r0 (k+1) q (Fw r ⟨id,k⟩) (o++[(k:Int)])
structure SI (P:List Pf_q0) (W:Int) (us:List (List Bool)) (ev:List Ev) (t:List Snt) (id:Int) (n0 k:Nat) (q:List Wt) (r:List Dbt) (o:List Int):Prop where
 hq: ∀w∈q,Eg w=true/\w.n<P.length/\w.e<ev.length/\w.d=(ev.getD w.e.toNat dE).st+W/\(w.e<id\/(w.e=id/\w.n<k))
 hinv: ∀n,n<P.length->Qu.Inv_q1 (P.getD n wV).rate (P.getD n wV).down (P.getD n wV).win n (fa us n) q
 hnd:(kq q++(kb r++kt t)).Nodup
 href: ∀x∈r,0<=x.e/\x.e<ev.length/\0<=x.n/\x.n<P.length/\(x.e<id\/(x.e=id/\x.n<k))
 hup:r.Pairwise λx y=>v4 x y=true
 hlen:r.length=n0+o.length
theorem Fx {p:Pf_q0} {q j:List Wt} {w:Wt} {f:Int} (h:bt p q w f (j,0)):j=q++[w]/\Eg w=true/\A8 p (zL (q++[w]) w.n) f 0:=by
 unfold bt at h;split at h
 ·cases h
 ·rename_i g;split at h
  ·cases h
  ·obtain⟨e,k,a⟩:=h;split at a
   ·rename_i c;subst c;rw[eZ,not_or] at g;injection a with a _;exact⟨a,by simpa using g.2,k⟩
   ·rename_i c;injection a with _ l;exact absurd l.symm c
theorem TF {P:List Pf_q0} {W:Int} {us:List (List Bool)} {s:Sta_q0} (h:QI P W us s) (U: ∀p∈P,p2 p=0) (hn:P.length<=12) {ev:List Ev} {e:Ev} (z:ev=s.ev++[e]) (N:e.st=s.step) (hl:s.ev.length<100000) (hr:s.ref.Pairwise λx y=>v4 x y=true):
  ∀{k:Nat} {q:List Wt} {r:List Dbt} {o:List Int},Spr P W s.step s.ev.length s.q s.ref k q r o->k<=P.length->SI P W us ev s.sent s.ev.length s.ref.length k q r o:=by
 have a0:ev.length=s.ev.length+1:=by rw[z];simp
 have G: ∀k,k<s.ev.length->ev.getD k dE=s.ev.getD k dE:=λk t=>by rw[z];simp[List.getD,fB t]
 have H:ev.getD s.ev.length dE=e:=by rw[z];simp[List.getD]
 have E: ∀x∈kt s.sent,x.1<s.ev.length:=λx hx=>by obtain⟨y,A,rfl⟩:=fL.1 hx;exact(h.sent y A).2.1
 have M:0<=s.step:=by rw[h.step];exact iK _
 intro k q r o hs
 induction hs with
 |nil=>
  intro _;refine⟨λw g=> ?_,h.inv,h.nd,λx hx=> ?_,hr,rfl⟩
  ·obtain⟨a,b,c,d⟩:=h.q w g;have:=Sq a;exact⟨a,b,J,by rw[G _ J];exact d,.inl c⟩
  ·obtain⟨a,b,c,d⟩:=h.ref x hx;exact⟨a,J,c,d,.inl b⟩
 |skip _ l=>
  intro t;have I:=l J;refine⟨λw g=> ?_,I.hinv,I.hnd,λx hx=> ?_,I.hup,I.hlen⟩
  ·obtain⟨a,b,c,d,e⟩:=I.hq w g;exact⟨a,b,c,d,J⟩
  ·exact nF
 | @put k q q' r o _ hp l=>
  intro t;have I:=l J;have K:k<P.length:=J
  have O:p2 (P.getD k wV)=0:=U _ (by simp[List.getD,K]);obtain⟨rfl,g,L⟩:=Fx hp;have D:(kq (q++[⟨s.ev.length,k,(P.getD k wV).parts,s.step+W⟩])++(kb r++kt s.sent)).Nodup:=by
   have e1:kq (q++[(⟨s.ev.length,k,(P.getD k wV).parts,s.step+W⟩:Wt)])=kq q++[((s.ev.length:Int),(k:Int))]:=(by simp[kq]);rw[e1,gD];refine(r5 (l₁:=kq q) (a:=((s.ev.length:Int),(k:Int))) (l₂:=kb r++kt s.sent)).nodup_iff.2 ?_;refine jQ.2 ⟨λhm=> ?_,I.hnd⟩;rcases cR.1 hm with hm|hm
   ·exact nL
   ·rcases cR.1 hm with hm|hm
    ·exact nK
    ·have:=E _ hm;exact absurd this (Int.lt_irrefl _)
  have R:pX (q++[⟨s.ev.length,k,(P.getD k wV).parts,s.step+W⟩])=true:=O7.2 ⟨λw f=>by
   rcases cR.1 f with f|f
   ·exact(I.hq w f).1
   ·rw[bV.1 f];exact g,(iI.1 D).1⟩
  refine⟨λw f=> ?_,λn Q=> ?_,D,λx hx=> ?_,I.hup,I.hlen⟩
  ·rcases cR.1 f with f|f
   ·obtain⟨a,b,c,d,e⟩:=I.hq w f;exact⟨a,b,c,d,J⟩
   ·rw[bV.1 f];refine⟨g,by show(k:Int)<_;omega,by show(s.ev.length:Int)<_;omega,?_,.inr ⟨rfl,by show(k:Int)<_;omega⟩⟩;show s.step+W=(ev.getD ((s.ev.length:Int)).toNat dE).st+W;rw[aQ,H,N]
  ·by_cases S:n=k
   ·subst S;refine Qu.Inv_q1.put λx hx j=> ?_;rw[wk,<-h.step];exact TC O R M L hx j
   ·obtain⟨a,Y,hi⟩:=I.hinv n Q;refine⟨a,Y,λx hx j=> ?_⟩;rcases cR.1 hx with hx|hx
    ·rw[iu,g6,aB (λhc=>by have:(k:Int)=n:=hc.1;omega)];have:=hi x hx j;have e0:nd n x []=0:=rfl;omega
    ·rw[bV.1 hx] at j;have:(k:Int)=n:=j;omega
  ·exact nF
 | @ref k q r o _ l=>
  intro t;have I:=l J;have C: ∀x∈r,v4 x ⟨s.ev.length,k⟩=true:=λx hx=>by have:=(I.href x hx).2.2.2.2;unfold v4 ltP;rw[aM];exact this
  have F:=TE (d:=⟨s.ev.length,k⟩) (λx hx=>by
   obtain⟨a,b,c,d,_⟩:=I.href x hx;exact Wl a J c J) I.hup (Wl (iK _) (by show(s.ev.length:Int)<_;omega) (iK _) (by show(k:Int)<_;omega)) C
  have e:Fw r ⟨s.ev.length,k⟩=r++[⟨s.ev.length,k⟩]:=by unfold Fw;rw[F,aE rfl]
  rw[e];refine⟨λw g=> ?_,I.hinv,?_,λx hx=> ?_,?_,by simp[I.hlen];omega⟩
  ·obtain⟨a,b,c,d,e⟩:=I.hq w g;exact⟨a,b,c,d,J⟩
  ·have e1:kb (r++[(⟨s.ev.length,k⟩:Dbt)])=kb r++[((s.ev.length:Int),(k:Int))]:=(by simp[kb]);rw[e1,<-gD,<-gD,gD];refine(r5 (l₁:=kq q++kb r) (a:=((s.ev.length:Int),(k:Int))) (l₂:=kt s.sent)).nodup_iff.2 ?_;refine jQ.2 ⟨λhm=> ?_,by rw[gD];exact I.hnd⟩;rcases cR.1 hm with hm|hm
   ·rcases cR.1 hm with hm|hm
    ·exact nL
    ·exact nK
   ·have:=E _ hm;exact absurd this (Int.lt_irrefl _)
  ·rcases cR.1 hx with hx|hx
   ·exact nF
   ·rw[bV.1 hx];exact⟨iK _,by show(s.ev.length:Int)<_;omega,iK _,by show(k:Int)<_;omega,.inr ⟨rfl,by show(k:Int)<_;omega⟩⟩
  ·rw[uD];exact⟨I.hup,jS,λx hx y A=>by rw[bV.1 A];exact C x hx⟩
theorem CD {P:List Pf_q0} {W:Int} {us:List (List Bool)} {s s':Sta_q0} (h:QI P W us s) (z: ∀p∈P,p2 p=0) (D:P.length<=12) {e:Ev} (g:s'.ev=s.ev++[e]) (n:e.st=s.step) (C:s.ev.length<100000) (E:s.ref.Pairwise λx y=>v4 x y=true) {o:List Int}
  (F:Spr P W s.step s.ev.length s.q s.ref P.length s'.q s'.ref o) (t:s'.step=s.step) (j:s'.sent=s.sent):QI P W us s'/\s'.ref.Pairwise (λx y=>v4 x y=true)/\s'.ref.length=s.ref.length+o.length:=by
 have I:=TF h z D g n C E F (aG _);have l: ∀k,k<s.ev.length->s'.ev.getD k dE=s.ev.getD k dE:=λk A=>by rw[g];simp[List.getD,fB A]
 have H:s'.ev.length=s.ev.length+1:=by rw[g];simp
 refine⟨⟨t.trans h.step,λw G=> ?_,I.hinv,by rw[j];exact I.hnd,λx f=> ?_,λx f=> ?_⟩,I.hup,I.hlen⟩
 ·obtain⟨a,b,c,d,_⟩:=I.hq w G;exact⟨a,b,c,d⟩
 ·obtain⟨a,b,c,d,_⟩:=I.href x f;exact⟨a,b,c,d⟩
 ·rw[j] at f;obtain⟨a,b,c,d,e⟩:=h.sent x f;exact⟨a,J,c,d,by rw[l _ J];exact e⟩
def NE (st:Sta_q0) (q:List Wt) (r:List Dbt):Sta_q0:={st with q:=q,ref:=r}
theorem aGv (r:List Dbt) (d:Dbt):(l7 r d).1.length<=r.length+1:=by
 exact m9
theorem Mo (r:List Dbt) (d:Dbt):(Fw r d).length<=r.length+1:=by
 unfold Fw;split
 ·exact aGv r d
 ·omega
def xx (id:Int) (o:List Int):List Ot:=o.map λn=>⟨1,n,id,F6⟩
theorem Sr (s:Stp0) (P:List Pf_q0) (F:PsW P) (st:Sta_q0) (H:GOk s P st) (S:st.sent.length<2^62) (id own:Int) (Q:0<=id) (h1:id<st.ev.length) (R:st.bad.length<=900000) (U:P.length<=1000) (a1:0<=st.step+s.wait/\st.step+s.wait<=9000000000000000000) (a0:st.q.length<=800000) (n:st.ref.length<=800000):cM 115 true [aHs s P st kV] [.p 0 0,.I id,.I own] (λy:List Wt×List Dbt×List Int=>Spr P s.wait st.step id st.q st.ref P.length y.1 y.2.1 y.2.2) (λy=>[gE s P (NE st y.1 y.2.1) (xx id y.2.2)]) (λ_=>[]) (λ_=> .tup []):=by
 refine sE Tryz.func115 [] [(1,[.nlc 0 23 52 14]),(2000005,[.frz 0 [0,3]]),(1000010,[.frc 0 14 [4]]),(999999,[.frc 0 23 [2]])] ?_
 refine jb (We s P st kV R) ?_
 repeat apply jL
 refine⟨[],Nat×List Wt×List Dbt×List Int,λx=>x.1<=P.length/\Spr P s.wait st.step id st.q st.ref x.1 x.2.1 x.2.2.1 x.2.2.2/\x.2.2.2.length<=x.1/\x.2.1.length<=st.q.length+x.1/\x.2.2.1.length<=st.ref.length+x.1,λx=>[⟨20,[],.I x.1⟩],λx=>[⟨0,[],gT s P (NE st x.2.1 x.2.2.1) 2⟩,⟨2,[],sA (xx id x.2.2.2)⟩],λx=>P.length-x.1,
  ⟨(0,st.q,st.ref,[]),[],⟨bI _,.nil,aG _,aG _,aG _⟩,rfl,rfl,rfl,rfl,rfl,nT,⟨eN.refl (gT s P st 2),nX⟩⟩,?_⟩
 rintro⟨k,q,r,o⟩ ⟨G,f,K,z,C⟩;have G:k<=P.length:=G;have f:Spr P s.wait st.step id st.q st.ref k q r o:=f;have K:o.length<=k:=K;have z:q.length<=st.q.length+k:=z;have C:r.length<=st.ref.length+k:=C;have O:GOk s P (NE st q r):=⟨H.P,H.E,H.gr,H.grw,H.cl,H.pf⟩;refine .inl ⟨λg=> ?_,λg=> ?_⟩
 ·have g:=pH g;have g:(k:Int)<P.length:=g
  repeat apply jL
  refine⟨⟨J,J⟩,?_⟩;have W:(aHk st).length<=st.bad.length:=cO (Sa.setI_len_q0 _) (ds st st.bad.length)
  repeat apply jL
  refine⟨[],_,λ_=>LB s P F (NE st q r) _ O S (show q.length<2^62 by omega) k id J J Q h1 (aHk st) J,?_⟩
  repeat apply jL
  refine⟨λh=> ?_,λh=> ?_⟩
  ·exact⟨(k+1,q,r,o),[],⟨jM,f.skip,jM,jM,jM⟩,jM,rfl,rfl,rfl,rfl,rfl,nV,⟨eN.refl (gT s P (NE st q r) 2),eN.refl (sA (xx id o))⟩⟩
  have M:=F _ (vM (d:=wV) (show k<P.length by omega));refine aN (aN ?_);refine⟨true,[],rfl,(List Wt×Int),_,_,_,_,GW (P.getD k wV) M.2.1 q J ⟨id,k,(P.getD k wV).parts,IntKind.i64.wrap (st.step+s.wait)⟩ st.step,λy w=> ?_⟩;obtain⟨L,e⟩:=y;rw[wr J J] at w
  repeat apply jL
  refine⟨λh2=> ?_,λh2=> ?_⟩
  ·have h2:(e==0)=true:=h2;obtain rfl:e=0:=j2
   have N:=(Fx w).1;exact⟨(k+1,L,r,o),[],⟨jM,f.put w,jM,by dsimp only;rw[N,bD,cD];omega,jM⟩,jM,rfl,rfl,rfl,rfl,rfl,nV,⟨eN.refl (gT s P (NE st L r) 2),eN.refl (sA (xx id o))⟩⟩
  refine eX ?_;refine aN (aN ?_);refine⟨false,[],rfl,Unit,_,_,_,_,Ly r J ⟨id,k⟩,λ_ _=> ?_⟩;have Y:(xx id o).length=o.length:=by unfold xx;rw[fC]
  have D:xx id (o++[(k:Int)])=xx id o++[⟨1,k,id,F6⟩]:=by simp[xx]
  have n:=Mo r ⟨id,k⟩
  repeat apply jL
  refine jB ((l7 r ⟨id,k⟩).2==0) (λh3=> ?_) λh3=> ?_
  ·have l:Fw r ⟨id,k⟩=(l7 r ⟨id,k⟩).1:=by unfold Fw;rw[aE j3]
   refine aN (aN ?_);refine⟨true,[0,2],rfl,Unit,_,_,_,_,Md s P (NE st q (l7 r ⟨id,k⟩).1) (xx id o) J 1 k id,λ_ _=> ?_⟩;rw[l] at n;have j:=f.ref;rw[l] at j;refine⟨(k+1,q,(l7 r ⟨id,k⟩).1,o++[(k:Int)]),[(2,5)],⟨jM,j,by dsimp only;rw[bD,cD];omega,jM,jM⟩,jM,rfl,rfl,rfl,rfl,rfl,nV,⟨eN.refl (gT s P (NE st q (l7 r ⟨id,k⟩).1) 5),?_⟩⟩;have t:eN (sA (xx id (o++[(k:Int)]))) (sA (xx id o++[⟨1,k,id,F6⟩])):=by rw[D];exact eN.refl _
   exact t
  have l:Fw r ⟨id,k⟩=r:=by unfold Fw;rw[aB j3]
  rw[l] at n;have j:=f.ref;rw[l] at j;refine aN (aN ?_);refine⟨true,[0,2],rfl,Unit,_,_,_,_,Md s P (NE st q r) (xx id o) J 1 k id,λ_ _=> ?_⟩;refine⟨(k+1,q,r,o++[(k:Int)]),[(2,5)],⟨jM,j,by dsimp only;rw[bD,cD];omega,jM,jM⟩,jM,rfl,rfl,rfl,rfl,rfl,nV,⟨eN.refl (gT s P (NE st q r) 5),?_⟩⟩;have t:eN (sA (xx id (o++[(k:Int)]))) (sA (xx id o++[⟨1,k,id,F6⟩])):=by rw[D];exact eN.refl _
  exact t
 ·have g:=iT g;have g:(P.length:Int)<=k:=g;obtain rfl:k=P.length:=J
  refine⟨(q,r,o),[(0,0)],f,⟨nU,⟨qL,trivial⟩,rfl⟩,rfl,λh=>jC⟩
theorem aA8 {p:Pf_q0} (e:PfW p) (E:List Ev) (bad:List Int) (id:Int):qa p E bad id<=1000:=by
 have a:=e.pt;have c: ∀x,(oT x p.size p.parts).length<=1000:=λx=>by have:=B7 x p.size p.parts a.1;omega
 unfold qa VP NC VO o6
 repeat' split
 all_goals first|exact c _|omega
abbrev gW (s:Stp0) (P:List Pf_q0) (st:Sta_q0) (a b:Nat):AO:= .cells 166 (s4 13 (.so a) (s4 23 (.so b) (gV s P st kV)))
abbrev x9 (t:List Snt):AO:= .row 54 3 t.length (db t)
theorem aA9 (l:List Snt) (x:Snt):eN (x9 (l++[x])) (.row 54 3 (l.length+1) (iJ l.length (db l) (kJ 3 x.av))):=⟨rfl,rfl,jS,λq c=>by
 have c:q<(l++[x]).length:=c;rw[bD,cD] at c;unfold iJ db;rw[zv];by_cases a:q<l.length
 ·rw[aE a,aE a]
 ·obtain rfl:q=l.length:=J
  rw[aB a,aB a,aE rfl,iG];rfl⟩
def ju (t:List Snt) (l:List Int) (n st:Int) (j:Nat):List Snt:=t++(l.take j).map λe=>⟨e,n,st⟩
theorem LH (t:List Snt) (l:List Int) (n st:Int):ju t l n st 0=t:=by simp[ju]
theorem LJ (t:List Snt) (l:List Int) (n st:Int) {j:Nat} (h:j<l.length):ju t l n st (j+1)=ju t l n st j++[⟨l.getD j 0,n,st⟩]:=by unfold ju;rw[bS h,fJ,gD];simp[List.getD,h]
theorem TG (t:List Snt) (l:List Int) (n st:Int):ju t l n st l.length=t++l.map λe=>⟨e,n,st⟩:=by simp[ju]
theorem Fy (t:List Snt) (l:List Int) (n st:Int) {j:Nat} (h:j<=l.length):(ju t l n st j).length=t.length+j:=by simp[ju];omega
def LK (st:Sta_q0) (q:List Wt) (t:List Snt):Sta_q0:={st with step:=st.step+1,q:=q,sent:=t}
structure TikR (P:List Pf_q0) (st:Sta_q0) (up:List Bool) (st':Sta_q0) (o:List Ot):Prop where
 t:Tck P (st.step+1) up st.q st.sent P.length st'.q st'.sent
 eq:st'=LK st st'.q st'.sent
 ok: ∀x∈o,x.k≠1
 ol:o.length<=(st.q.length+st.sent.length)*1000
structure TikI (st:Sta_q0) (q:List Wt) (t:List Snt) (o:List Ot):Prop where
 l:q.length+t.length=st.q.length+st.sent.length
 ok: ∀x∈o,x.k≠1
 ol:o.length<=t.length*1000
theorem LL {p:Pf_q0} {n:Int} {l:List Wt} {up:Bool} {y:List Int×List Wt} (h:yB p n l up y) {e:Int} (a:e∈y.1): ∃x∈l,x.e=e:=by
 unfold yB at h;split at h
 ·rw[h] at a;cases a
 ·obtain⟨x,f,_,c⟩:=h.1.done a;exact⟨x,f,c⟩
abbrev gY (s:Stp0) (P:List Pf_q0) (st:Sta_q0):AO:= .cells 166 (s4 20 (.so 1) (s4 21 (.so 2) (gV s P st kV)))
abbrev LM (st:Sta_q0):AO:= .row 108 4 st.ords.length (Sa.rowsO st.ords)
theorem aAa (st:Sta_q0) (x:Sa.Ord):eN (.row 108 4 (st.ords++[x]).length (Sa.rowsO (st.ords++[x]))) (.row 108 4 (st.ords.length+1) (iJ st.ords.length (Sa.rowsO st.ords) (kJ 4 x.av))):=⟨rfl,rfl,jS,λq c=>by
 have c:q<(st.ords++[x]).length:=c;rw[bD,cD] at c;unfold iJ Sa.rowsO;rw[zv];by_cases a:q<st.ords.length
 ·rw[aE a,aE a]
 ·obtain rfl:q=st.ords.length:=J
  rw[aB a,aB a,aE rfl,iG];rfl⟩
def CE (st:Sta_q0) (i:Inp):Sta_q0:={st with ords:=st.ords++[{i.ord with step:=st.step}]}
theorem CF (s:Stp0) (P:List Pf_q0) (st:Sta_q0) (H:GOk s P st) (f:Sml st) (w:Cok st.ev) (F: ∀x∈st.sent,(Lit.int .i64 x.n).wf=true) (i:Inp):cM 68 true [gY s P st,LM st,B6 st] [.p 0 0,.ag i.av] (λy:Sta_q0×List Ot×Int=>y.2.2=0->0<=i.ord.ev/\i.ord.ev<st.ev.length/\DelR 1 (CE st i) y.1 y.2.1) (λy=>[gE s P y.1 y.2.1,.dead,.dead]) (λ_=>[]) (λy=> .I y.2.2):=by
 refine sE Tryz.func68 [.tmp 4] [(1000003,[.frc 0 20 [1],.frc 0 21 [2]]),(1000005,[.frc 0 20 [1],.frc 0 21 [2]]),(1000010,[.frc 0 20 [1],.frc 0 21 [2]]),(1000012,[.frc 0 20 [1],.frc 0 21 [2]]),(1000014,[.ex 7,.frc 0 20 [7]]),(16,[.nlc 0 23 52 14,.ex 8]),(1000016,[.frc 0 21 [9],.frc 0 23 [10]]),(1000017,[.frc 0 21 [2]]),(2000006,[.frz 1 [0,4]]),(2000014,[.frz 1 [0]])] ?_;have O:=f.hld;have Q:=f.ord
 refine jb (Fj s P st kV i.ord.ev) ?_
 repeat apply jL
 refine⟨λh=> ?_,λh=> ?_⟩
 ·exact⟨(st,[],4),[(0,0),(1,1),(2,2)],λe=>absurd e (by show¬(4:Int)=0;decide),⟨nY,⟨⟨rfl,rfl,rfl,xS s P st⟩,nS,nS,trivial⟩,rfl⟩,rfl,λh=>jC⟩
 have h:(!V3 st.ev i.ord.ev)=false:=h
 repeat apply jL
 refine⟨[],_,px s P st kV i.ord.ev J J,?_⟩
 repeat apply jL
 refine⟨λR=> ?_,λR=> ?_⟩
 ·exact⟨(st,[],5),[(0,0),(1,1),(2,2)],λe=>absurd e (by show¬(5:Int)=0;decide),⟨nY,⟨⟨rfl,rfl,rfl,xS s P st⟩,nS,nS,trivial⟩,rfl⟩,rfl,λh=>jC⟩
 obtain⟨g,j,M⟩:=dk (E:=st.ev) (id:=i.ord.ev) jH
 repeat apply jL
 refine⟨⟨g,j⟩,?_⟩
 refine jb (Sb.Of_fn s.cl st.pf H.cl H.pf (st.ev.getD i.ord.ev.toNat dE).a) ?_
 repeat apply jL
 refine⟨λN=> ?_,λN=> ?_⟩
 ·repeat apply jL
  refine⟨λL=> ?_,λL=> ?_⟩
  ·exact mS
  ·exact absurd (N.symm.trans L) jD
 repeat apply jL
 refine⟨λS=> ?_,λS=> ?_⟩
 ·exact mS
 refine jc (BN s P H.P st _ (st.ev.getD i.ord.ev.toNat dE)) ?_
 repeat apply jL
 refine⟨λU=> ?_,λU=> ?_⟩
 ·exact⟨(st,[],15),[(0,0),(1,1),(2,2)],λe=>absurd e (by show¬(15:Int)=0;decide),⟨nY,⟨⟨rfl,rfl,rfl,xS s P st⟩,nS,nS,trivial⟩,rfl⟩,rfl,λh=>jC⟩
 repeat apply jL
 refine⟨oJ J,?_⟩;refine kZ (LM (CE st i)) (hY (aAa st _) ?_)
 repeat apply jL
 refine⟨[],_,px s P (CE st i) kV i.ord.ev (by show st.holds.length<_;omega) (by unfold CE;simp;omega),?_⟩;have z:=f.sld;have A:=f.debts;have C:=f.t;have l:DelR 0 (CE st i) (CE st i) []:=⟨EvR.refl w H.E,aG _,aG _,λd D=> .inl D,λx G=>(by cases G),aG _,rfl⟩
 repeat apply jL
 refine⟨λW=> ?_,λW=> ?_⟩
 ·refine kZ (sA []) (hY nX ?_);refine aN (aN ?_);refine⟨true,[0,2,8],rfl,(List Ev×List Sld×List Dbt×List Ot),_,_,_,_,Bm s P (CE st i) (H.to H.E rfl) w F (cO z jD) (cO A jD) (cO C jD) (show st.holds.length<2^62 by omega) (by unfold CE;simp;omega) [] (bI _) i.ord.ev,λy K=> ?_⟩;exact⟨(VM (CE st i) y,y.2.2.2,0),[(0,0),(1,1),(2,2)],λ_=>⟨g,j,l.more f.ev f.t g j K⟩,⟨nY,⟨qL,nS,nS,trivial⟩,rfl⟩,rfl,λh=>jC⟩
 ·exact⟨(CE st i,[],0),[(0,0),(1,1),(2,2)],λ_=>⟨g,j,l.le (bI _)⟩,⟨nY,⟨⟨rfl,rfl,rfl,xS s P (CE st i)⟩,nS,nS,trivial⟩,rfl⟩,rfl,λh=>jC⟩
theorem LN (s:Stp0) (P:List Pf_q0) (g0:Sta_q0) (o0:List Ot) (st:Sta_q0) (hs:st.fit) (i:Inp) (hfs:i.raw.fs.length<2^62) (hup:i.up.length<2^62) (hk:sI i=true->0<=i.k/\i.k<=9) (sp:Sta_q0×List Ot×Int->Prop) (hact:H4 P i=false->cM (F7.getD i.k.toNat (0,0)).2 true [gX s P st 13,x9 st.sent] [.p 0 0,.ag i.av] sp (λy=>[gE s P y.1 y.2.1,.dead]) (λ_=>[]) (λy=> .I y.2.2)):cM 24 true [gE s P g0 o0] [.p 0 0,.ag st.av,.ag i.av] (λz:(Sta_q0×List Ot)×Sta_q0×AV×Int=>(H4 P i=true->z.2=(st,kV,1))/\(H4 P i=false-> ∃y,sp y/\z.1=(y.1,y.2.1)/\z.2=if y.2.2=0 then(y.1,.rs 14 y.2.1.length (Bg y.2.1),0) else(st,kV,y.2.2))) (λz=>[gE s P z.1.1 z.1.2]) (λ_=>[]) (λz=> .tup [.ag z.2.1.av,z.2.2.1,.I z.2.2.2]):=by
 refine sE Tryz.func24 [.cell 6 43,.tmp 7,.tmp 8] [(1000003,[.frc 3 3 [5],.frc 3 5 [6],.frc 3 6 [7],.frc 3 7 [8],.frc 3 9 [9],.frc 3 10 [10],.frc 3 11 [11]]),(1000004,[.frc 0 15 [6],.frc 0 16 [7],.frc 0 17 [8],.frc 0 19 [9],.frc 0 20 [10],.frc 0 21 [11]]),(1000007,[.frc 3 3 [12],.frc 3 5 [13],.frc 3 6 [14],.frc 3 7 [15],.frc 3 9 [16],.frc 3 10 [17],.frc 3 11 [18]]),(2000008,[.frz 0 [0]]),(2000002,[.frz 0 [0]])] ?_
 let bq:List Nat:=[0,5]
 exact qQ
theorem LO (s:Stp0) (P:List Pf_q0) (g0:Sta_q0) (o0:List Ot) (st:Sta_q0) (hs:st.fit) (i:Inp) (hfs:i.raw.fs.length<2^62) (hup:i.up.length<2^62) (hk:sI i=true->0<=i.k/\i.k<=9) (sp:Sta_q0×List Ot×Int->Prop) (hact:H4 P i=false->cM (F7.getD i.k.toNat (0,0)).2 true [gX s P st 15,.row 225 4 st.pairs.length (fb st.pairs)] [.p 0 0,.ag i.av] sp (λy=>[gE s P y.1 y.2.1,.dead]) (λ_=>[]) (λy=> .I y.2.2)):cM 24 true [gE s P g0 o0] [.p 0 0,.ag st.av,.ag i.av] (λz:(Sta_q0×List Ot)×Sta_q0×AV×Int=>(H4 P i=true->z.2=(st,kV,1))/\(H4 P i=false-> ∃y,sp y/\z.1=(y.1,y.2.1)/\z.2=if y.2.2=0 then(y.1,.rs 14 y.2.1.length (Bg y.2.1),0) else(st,kV,y.2.2))) (λz=>[gE s P z.1.1 z.1.2]) (λ_=>[]) (λz=> .tup [.ag z.2.1.av,z.2.2.1,.I z.2.2.2]):=by
 refine sE Tryz.func24 [.cell 6 43,.tmp 7,.tmp 8] [(1000003,[.frc 3 3 [5],.frc 3 5 [6],.frc 3 6 [7],.frc 3 7 [8],.frc 3 9 [9],.frc 3 10 [10],.frc 3 11 [11]]),(1000004,[.frc 0 13 [5],.frc 0 16 [7],.frc 0 17 [8],.frc 0 19 [9],.frc 0 20 [10],.frc 0 21 [11]]),(1000007,[.frc 3 3 [12],.frc 3 5 [13],.frc 3 6 [14],.frc 3 7 [15],.frc 3 9 [16],.frc 3 10 [17],.frc 3 11 [18]]),(2000008,[.frz 0 [0]]),(2000002,[.frz 0 [0]])] ?_
 let bq:List Nat:=[0,6]
 exact qQ
theorem LP (s:Stp0) (P:List Pf_q0) (g0:Sta_q0) (o0:List Ot) (st:Sta_q0) (hs:st.fit) (i:Inp) (hfs:i.raw.fs.length<2^62) (hup:i.up.length<2^62) (hk:sI i=true->0<=i.k/\i.k<=9) (sp:Sta_q0×List Ot×Int->Prop) (hact:H4 P i=false->cM (F7.getD i.k.toNat (0,0)).2 true [gX s P st 17,.row 237 1 st.notes.length (Vw st.notes)] [.p 0 0,.ag i.av] sp (λy=>[gE s P y.1 y.2.1,.dead]) (λ_=>[]) (λy=> .I y.2.2)):cM 24 true [gE s P g0 o0] [.p 0 0,.ag st.av,.ag i.av] (λz:(Sta_q0×List Ot)×Sta_q0×AV×Int=>(H4 P i=true->z.2=(st,kV,1))/\(H4 P i=false-> ∃y,sp y/\z.1=(y.1,y.2.1)/\z.2=if y.2.2=0 then(y.1,.rs 14 y.2.1.length (Bg y.2.1),0) else(st,kV,y.2.2))) (λz=>[gE s P z.1.1 z.1.2]) (λ_=>[]) (λz=> .tup [.ag z.2.1.av,z.2.2.1,.I z.2.2.2]):=by
 refine sE Tryz.func24 [.cell 6 43,.tmp 7,.tmp 8] [(1000003,[.frc 3 3 [5],.frc 3 5 [6],.frc 3 6 [7],.frc 3 7 [8],.frc 3 9 [9],.frc 3 10 [10],.frc 3 11 [11]]),(1000004,[.frc 0 13 [5],.frc 0 15 [6],.frc 0 16 [7],.frc 0 19 [9],.frc 0 20 [10],.frc 0 21 [11]]),(1000007,[.frc 3 3 [12],.frc 3 5 [13],.frc 3 6 [14],.frc 3 7 [15],.frc 3 9 [16],.frc 3 10 [17],.frc 3 11 [18]]),(2000008,[.frz 0 [0]]),(2000002,[.frz 0 [0]])] ?_
 let bq:List Nat:=[0,8]
 exact qQ
theorem LQ (s:Stp0) (P:List Pf_q0) (g0:Sta_q0) (o0:List Ot) (st:Sta_q0) (hs:st.fit) (i:Inp) (hfs:i.raw.fs.length<2^62) (hup:i.up.length<2^62) (hk:sI i=true->0<=i.k/\i.k<=9) (sp:Sta_q0×List Ot×Int->Prop) (hact:H4 P i=false->cM (F7.getD i.k.toNat (0,0)).2 true [gX s P st 19,.row 106 4 st.holds.length (Sa.rowsH st.holds)] [.p 0 0,.ag i.av] sp (λy=>[gE s P y.1 y.2.1,.dead]) (λ_=>[]) (λy=> .I y.2.2)):cM 24 true [gE s P g0 o0] [.p 0 0,.ag st.av,.ag i.av] (λz:(Sta_q0×List Ot)×Sta_q0×AV×Int=>(H4 P i=true->z.2=(st,kV,1))/\(H4 P i=false-> ∃y,sp y/\z.1=(y.1,y.2.1)/\z.2=if y.2.2=0 then(y.1,.rs 14 y.2.1.length (Bg y.2.1),0) else(st,kV,y.2.2))) (λz=>[gE s P z.1.1 z.1.2]) (λ_=>[]) (λz=> .tup [.ag z.2.1.av,z.2.2.1,.I z.2.2.2]):=by
 refine sE Tryz.func24 [.cell 6 43,.tmp 7,.tmp 8] [(1000003,[.frc 3 3 [5],.frc 3 5 [6],.frc 3 6 [7],.frc 3 7 [8],.frc 3 9 [9],.frc 3 10 [10],.frc 3 11 [11]]),(1000004,[.frc 0 13 [5],.frc 0 15 [6],.frc 0 16 [7],.frc 0 17 [8],.frc 0 20 [10],.frc 0 21 [11]]),(1000007,[.frc 3 3 [12],.frc 3 5 [13],.frc 3 6 [14],.frc 3 7 [15],.frc 3 9 [16],.frc 3 10 [17],.frc 3 11 [18]]),(2000008,[.frz 0 [0]]),(2000002,[.frz 0 [0]])] ?_
 let bq:List Nat:=[0,9]
 exact qQ
theorem LR (s:Stp0) (P:List Pf_q0) (g0:Sta_q0) (o0:List Ot) (st:Sta_q0) (hs:st.fit) (i:Inp) (hfs:i.raw.fs.length<2^62) (hup:i.up.length<2^62) (hk:sI i=true->0<=i.k/\i.k<=9) (sp:Sta_q0×List Ot×Int->Prop) (hact:H4 P i=false->cM (F7.getD i.k.toNat (0,0)).2 true [gX s P st 21,B6 st] [.p 0 0,.ag i.av] sp (λy=>[gE s P y.1 y.2.1,.dead]) (λ_=>[]) (λy=> .I y.2.2)):cM 24 true [gE s P g0 o0] [.p 0 0,.ag st.av,.ag i.av] (λz:(Sta_q0×List Ot)×Sta_q0×AV×Int=>(H4 P i=true->z.2=(st,kV,1))/\(H4 P i=false-> ∃y,sp y/\z.1=(y.1,y.2.1)/\z.2=if y.2.2=0 then(y.1,.rs 14 y.2.1.length (Bg y.2.1),0) else(st,kV,y.2.2))) (λz=>[gE s P z.1.1 z.1.2]) (λ_=>[]) (λz=> .tup [.ag z.2.1.av,z.2.2.1,.I z.2.2.2]):=by
 refine sE Tryz.func24 [.cell 6 43,.tmp 7,.tmp 8] [(1000003,[.frc 3 3 [5],.frc 3 5 [6],.frc 3 6 [7],.frc 3 7 [8],.frc 3 9 [9],.frc 3 10 [10],.frc 3 11 [11]]),(1000004,[.frc 0 13 [5],.frc 0 15 [6],.frc 0 16 [7],.frc 0 17 [8],.frc 0 19 [9],.frc 0 20 [10]]),(1000007,[.frc 3 3 [12],.frc 3 5 [13],.frc 3 6 [14],.frc 3 7 [15],.frc 3 9 [16],.frc 3 10 [17],.frc 3 11 [18]]),(2000008,[.frz 0 [0]]),(2000002,[.frz 0 [0]])] ?_
 let bq:List Nat:=[0,11]
 exact qQ
theorem LS (s:Stp0) (P:List Pf_q0) (g0:Sta_q0) (o0:List Ot) (st:Sta_q0) (hs:st.fit) (i:Inp) (hfs:i.raw.fs.length<2^62) (hup:i.up.length<2^62) (hk:sI i=true->0<=i.k/\i.k<=9) (sp:Sta_q0×List Ot×Int->Prop) (hact:H4 P i=false->cM (F7.getD i.k.toNat (0,0)).2 true [gY s P st,LM st,B6 st] [.p 0 0,.ag i.av] sp (λy=>[gE s P y.1 y.2.1,.dead,.dead]) (λ_=>[]) (λy=> .I y.2.2)):cM 24 true [gE s P g0 o0] [.p 0 0,.ag st.av,.ag i.av] (λz:(Sta_q0×List Ot)×Sta_q0×AV×Int=>(H4 P i=true->z.2=(st,kV,1))/\(H4 P i=false-> ∃y,sp y/\z.1=(y.1,y.2.1)/\z.2=if y.2.2=0 then(y.1,.rs 14 y.2.1.length (Bg y.2.1),0) else(st,kV,y.2.2))) (λz=>[gE s P z.1.1 z.1.2]) (λ_=>[]) (λz=> .tup [.ag z.2.1.av,z.2.2.1,.I z.2.2.2]):=by
 refine sE Tryz.func24 [.cell 6 43,.tmp 7,.tmp 8] [(1000003,[.frc 3 3 [5],.frc 3 5 [6],.frc 3 6 [7],.frc 3 7 [8],.frc 3 9 [9],.frc 3 10 [10],.frc 3 11 [11]]),(1000004,[.frc 0 13 [5],.frc 0 15 [6],.frc 0 16 [7],.frc 0 17 [8],.frc 0 19 [9]]),(1000007,[.frc 3 3 [12],.frc 3 5 [13],.frc 3 6 [14],.frc 3 7 [15],.frc 3 9 [16],.frc 3 10 [17],.frc 3 11 [18]]),(2000008,[.frz 0 [0]]),(2000002,[.frz 0 [0]])] ?_
 let bq:List Nat:=[0,10,11]
 exact qQ
def V8 (p:Pf_q0) (r:Rw):Bool:=
 if(r.k==0)=true then((r.on== -1||p.thr !=0)&&(r.q== -1||p.quo))&&(r.w== -1||p.men) else if(r.k==1)=true then p.edit==2 else if(r.k==2)=true then p.del !=0 else if(r.k==3||r.k==4)=true then p.react else true
theorem LU (p:Pf_q0) (r:Rw):cC 182 [p.ar,.ag r.av] [] (.b (V8 p r)):=by
 refine hZ Tryz.func182 [.tmp 4] [] ?_
 repeat apply jL
 refine⟨λh=> ?_,λh=> ?_⟩
 ·exact RetIs.b (by unfold V8;rw[aE h])
 repeat apply jL
 refine⟨λh1=> ?_,λh1=> ?_⟩
 ·exact RetIs.b (by unfold V8;rw[aB jR,aE h1])
 repeat apply jL
 refine⟨λh2=> ?_,λh2=> ?_⟩
 ·exact RetIs.b (by unfold V8;rw[aB jR,aB (by rw[h1];decide),aE h2])
 have e:V8 p r=if(r.k==3||r.k==4)=true then p.react else true:=by unfold V8;rw[aB jR,aB (by rw[h1];decide),aB jK]
 repeat apply jL
 refine⟨λf=> ?_,λf=> ?_⟩
 ·have f:(r.k==3)=true:=f
  repeat apply jL
  refine⟨λj=> ?_,λj=> ?_⟩
  ·exact RetIs.b (by rw[e,f];rfl)
  ·exact absurd (f.symm.trans j) jD
 have f:(r.k==3)=false:=f
 repeat apply jL
 refine jB (r.k==4) (λg=> ?_) λg=> ?_
 ·exact RetIs.b (by rw[e,g,f];rfl)
 ·exact RetIs.b (by rw[e,g,f];rfl)
def P3 (l:List Pr) (n lo:Int):Int×Bool:=if(lo== -1)=true then(-1,true) else if t8 l n lo<0 then(0,false) else((l.getD (t8 l n lo).toNat l6).e,true)
theorem Mp (l:List Pr) (g:l.length<2^62) (n lo:Int):cC 184 [.rs 4 l.length (fb l),.I n,.I lo] [] (.tup [.I (P3 l n lo).1,.b (P3 l n lo).2]):=by
 refine hZ Tryz.func184 [.tmp 6,.tmp 7] [] ?_
 repeat apply jL
 refine⟨λh=> ?_,λh=> ?_⟩
 ·have e:P3 l n lo=(-1,true):=by unfold P3;rw[aE h]
  rw[e];exact RetIs.v rfl rfl rfl
 have c:=Vx l g n lo;by_cases f:t8 l n lo<0
 ·rw[aE f] at c;have e:P3 l n lo=(0,false):=by unfold P3;rw[aB jR,aE f]
  rw[e]
  refine jb c ?_;exact RetIs.v rfl rfl rfl
 ·rw[aB f] at c;have e:P3 l n lo=((l.getD (t8 l n lo).toNat l6).e,true):=by unfold P3;rw[aB jR,aB f]
  rw[e]
  refine jb c ?_;exact RetIs.v rfl rfl rfl
def zE:List AV:=[.I 0,.I 0,kV,.I 0,.I 0,.I 0,.I 0,.I 0,.I 0,.s gB,kV,.I 0]
def l8 (l:List Pr) (a:Int) (r:Rw) (e:Ev) (f:ByteArray):Ev×Bool:=
 if fG f sT=true then({e with t:=(P3 l a r.on).1},(P3 l a r.on).2) else if fG f sQ=true then({e with q:=(P3 l a r.q).1},(P3 l a r.q).2) else if fG f sW=true then({e with w:=r.w},true) else
 if fG f sN=true then({e with n:=r.n},true) else if fG f sX=true then({e with x:=r.x},true) else if fG f sF=true then({e with fs:=r.fs},true) else(e,true)
def wX (l:List Pr) (c:Int) (r:Rw) (st:Int) (fs:List ByteArray):Ev×Bool:=
 fs.foldl (λz f=>((l8 l c r z.1 f).1,z.2&&(l8 l c r z.1 f).2)) (⟨r.a,0,[],r.k,r.g, -1, -1, -1,0,gB,[],st⟩,true)
theorem CG (l:List Pr) (a:Int) (r:Rw) (st:Int) (k:Nat) (h:k<(fF r.k).length):wX l a r st ((fF r.k).take (k+1))=
  ((l8 l a r (wX l a r st ((fF r.k).take k)).1 ((fF r.k).getD k gB)).1,(wX l a r st ((fF r.k).take k)).2&&(l8 l a r (wX l a r st ((fF r.k).take k)).1 ((fF r.k).getD k gB)).2):=by
 unfold wX;rw[bS h,iQ];simp[List.getD,h]
structure BckI (r:Rw) (st:Int) (e:Ev):Prop where
 a:e.a=r.a
 k:e.k=r.k
 g:e.g=r.g
 st:e.st=st
 cs:e.cs=[]
 s:e.s=0
 x:e.x=gB\/e.x=r.x
 fs:e.fs=[]\/e.fs=r.fs
 n:e.n=0\/e.n=r.n
 w:e.w= -1\/e.w=r.w
theorem Ss (l:List Pr) (c:Int) (r:Rw) (st:Int): ∀(fs:List ByteArray) (z:Ev×Bool),BckI r st z.1->BckI r st (fs.foldl (λz f=>((l8 l c r z.1 f).1,z.2&&(l8 l c r z.1 f).2)) z).1
 |[],_,h=>h
 |f::t,z,h=>by
  refine Ss l c r st t _ ?_;show BckI r st (l8 l c r z.1 f).1;unfold l8
  repeat' split
  ·exact⟨h.a,h.k,h.g,h.st,h.cs,h.s,h.x,h.fs,h.n,h.w⟩
  ·exact⟨h.a,h.k,h.g,h.st,h.cs,h.s,h.x,h.fs,h.n,h.w⟩
  ·exact⟨h.a,h.k,h.g,h.st,h.cs,h.s,h.x,h.fs,h.n,.inr rfl⟩
  ·exact⟨h.a,h.k,h.g,h.st,h.cs,h.s,h.x,h.fs,.inr rfl,h.w⟩
  ·exact⟨h.a,h.k,h.g,h.st,h.cs,h.s,.inr rfl,h.fs,h.n,h.w⟩
  ·exact⟨h.a,h.k,h.g,h.st,h.cs,h.s,h.x,.inr rfl,h.n,h.w⟩
  ·exact h
def LV (p:Pf_q0) (c:Int) (r:Rw):Bool:=(((p2 p !=0||decide (lQ r.a<0))||lQ r.a !=c)||decide (r.k<0))||decide (r.k>=10)
def VR (p:Pf_q0) (r:Rw):Bool:=(r.k==0||r.k==1)&&(decide ((r.x.size:Int)>p.size)||decide ((r.fs.length:Int)>p.files))
def G8 (p:Pf_q0) (l:List Pr) (a:Int) (r:Rw) (st:Int):AV:=
 if LV p a r=true then .tup [.ag zE,.I 1] else if(!V8 p r)=true then .tup [.ag zE,.I 7] else if VR p r=true then .tup [.ag zE,.I 6] else
 if(!(wX l a r st (fF r.k)).2)=true then .tup [.ag zE,.I 4] else if(!qZ (wX l a r st (fF r.k)).1)=true then .tup [.ag zE,.I 2] else .tup [.ag (wX l a r st (fF r.k)).1.av,.I 0]
theorem LW (p:Pf_q0) (l:List Pr) (a:Int) (r:Rw) (st:Int):(∃c:Int,c≠0/\G8 p l a r st= .tup [.ag zE,.I c])\/ ∃e:Ev,G8 p l a r st= .tup [.ag e.av,.I 0]/\BckI r st e/\qZ e=true:=by
 unfold G8;split
 ·exact .inl ⟨1,jD,rfl⟩
 split
 ·exact .inl ⟨7,jD,rfl⟩
 split
 ·exact .inl ⟨6,jD,rfl⟩
 split
 ·exact .inl ⟨4,jD,rfl⟩
 split
 ·exact .inl ⟨2,jD,rfl⟩
 ·rename_i h;exact .inr ⟨_,rfl,Ss l a r st _ _ ⟨rfl,rfl,rfl,rfl,rfl,rfl,.inl rfl,.inl rfl,.inl rfl,.inl rfl⟩,jH⟩
theorem TH (p:Pf_q0) (W:p.fit) (l:List Pr) (L:l.length<2^62) (f:Int) (r:Rw) (Y:r.fs.length<=1000) (st:Int):cA 104 [p.ar,.rs 4 l.length (fb l),.I f,.ag r.av,.I st] (G8 p l f r st):=by
 refine MX Tryz.func104 [.cell 10 64,.tmp 11] [] ?_
 refine jb (uM _) ?_
 refine jb (wD p W) ?_
 repeat apply jL
 refine⟨λh=> ?_,λh=> ?_⟩
 ·have h:(LV p f r)=true:=h;have e:G8 p l f r st= .tup [.ag zE,.I 1]:=by unfold G8;rw[aE h]
  rw[e];exact nT
 have h:(LV p f r)=false:=h
 refine jb (LU p r) ?_
 repeat apply jL
 refine⟨λh2=> ?_,λh2=> ?_⟩
 ·have e:G8 p l f r st= .tup [.ag zE,.I 7]:=by unfold G8;rw[aB jR,aE h2]
  rw[e];exact nT
 repeat apply jL
 refine jB (VR p r) (λR=> ?_) λR=> ?_
 ·have e:G8 p l f r st= .tup [.ag zE,.I 6]:=by unfold G8;rw[aB jR,aB jK,aE R]
  rw[e];exact nT
 refine eX ?_;refine aN (eX ?_);refine⟨_,Vf r.k,?_⟩;have a1:=Ac r.k;refine⟨[],Nat,λk=>k<=(fF r.k).length,λk=>[⟨90,[],.I k⟩,⟨15,[],.b (wX l f r st ((fF r.k).take k)).2⟩],λk=>[⟨3,[],.cells 64 (wX l f r st ((fF r.k).take k)).1.av⟩],λk=>(fF r.k).length-k,
  ⟨0,[],bI _,rfl,rfl,rfl,rfl,rfl,⟨nT,rfl⟩,⟨rfl,eV.refl _,eV.refl _,nT,eV.refl _,eV.refl _,eV.refl _,eV.refl _,eV.refl _,eV.refl _,eV.refl _,nT,eV.refl _⟩⟩,?_⟩
 rintro k K;have K:k<=(fF r.k).length:=K;refine .inl ⟨λF=> ?_,λF=> ?_⟩
 ·have F:=pH F;have F:(k:Int)<(fF r.k).length:=F;have M:=CG l f r st k J
  repeat apply jL
  refine⟨⟨J,J⟩,?_⟩;refine aN ⟨[],Unit,λ_=>True,λ_=>[⟨18,[],.b (l8 l f r (wX l f r st ((fF r.k).take k)).1 ((fF r.k).getD (k:Int).toNat gB)).2⟩],λ_=>[⟨3,[],.cells 64 (l8 l f r (wX l f r st ((fF r.k).take k)).1 ((fF r.k).getD (k:Int).toNat gB)).1.av⟩],?_,λ_ _=> ?_⟩
  ·skip
   repeat apply jL
   refine⟨λj=> ?_,λj=> ?_⟩
   ·have j:(fG ((fF r.k).getD (k:Int).toNat gB) sT)=true:=j;have e1:l8 l f r (wX l f r st ((fF r.k).take k)).1 ((fF r.k).getD (k:Int).toNat gB)=({(wX l f r st ((fF r.k).take k)).1 with t:=(P3 l f r.on).1},(P3 l f r.on).2):=by unfold l8;rw[aE j]
    refine jb (Mp l L f r.on) ?_;exact nm
   have j:(fG ((fF r.k).getD (k:Int).toNat gB) sT)=false:=j
   repeat apply jL
   refine⟨λC=> ?_,λC=> ?_⟩
   ·have C:(fG ((fF r.k).getD (k:Int).toNat gB) sQ)=true:=C;have e1:l8 l f r (wX l f r st ((fF r.k).take k)).1 ((fF r.k).getD (k:Int).toNat gB)=({(wX l f r st ((fF r.k).take k)).1 with q:=(P3 l f r.q).1},(P3 l f r.q).2):=by unfold l8;rw[aB (by rw[j];decide),aE C]
    refine jb (Mp l L f r.q) ?_;exact nm
   have C:(fG ((fF r.k).getD (k:Int).toNat gB) sQ)=false:=C
   repeat apply jL
   refine⟨λD=> ?_,λD=> ?_⟩
   ·have D:(fG ((fF r.k).getD (k:Int).toNat gB) sW)=true:=D;have e1:l8 l f r (wX l f r st ((fF r.k).take k)).1 ((fF r.k).getD (k:Int).toNat gB)=({(wX l f r st ((fF r.k).take k)).1 with w:=r.w},true):=by unfold l8;rw[aB (by rw[j];decide),aB (by rw[C];decide),aE D]
    exact nm
   have D:(fG ((fF r.k).getD (k:Int).toNat gB) sW)=false:=D
   repeat apply jL
   refine⟨λE=> ?_,λE=> ?_⟩
   ·have E:(fG ((fF r.k).getD (k:Int).toNat gB) sN)=true:=E;have e1:l8 l f r (wX l f r st ((fF r.k).take k)).1 ((fF r.k).getD (k:Int).toNat gB)=({(wX l f r st ((fF r.k).take k)).1 with n:=r.n},true):=by unfold l8;rw[aB (by rw[j];decide),aB (by rw[C];decide),aB (by rw[D];decide),aE E]
    exact nm
   have E:(fG ((fF r.k).getD (k:Int).toNat gB) sN)=false:=E
   repeat apply jL
   refine⟨λG=> ?_,λG=> ?_⟩
   ·have G:(fG ((fF r.k).getD (k:Int).toNat gB) sX)=true:=G;have e1:l8 l f r (wX l f r st ((fF r.k).take k)).1 ((fF r.k).getD (k:Int).toNat gB)=({(wX l f r st ((fF r.k).take k)).1 with x:=r.x},true):=by unfold l8;rw[aB (by rw[j];decide),aB (by rw[C];decide),aB (by rw[D];decide),aB (by rw[E];decide),aE G]
    exact nm
   have G:(fG ((fF r.k).getD (k:Int).toNat gB) sX)=false:=G
   repeat apply jL
   refine jB (fG ((fF r.k).getD (k:Int).toNat gB) sF) (λO=> ?_) λO=> ?_
   ·have e1:l8 l f r (wX l f r st ((fF r.k).take k)).1 ((fF r.k).getD (k:Int).toNat gB)=({(wX l f r st ((fF r.k).take k)).1 with fs:=r.fs},true):=by unfold l8;rw[aB (by rw[j];decide),aB (by rw[C];decide),aB (by rw[D];decide),aB (by rw[E];decide),aB (by rw[G];decide),aE O]
    refine aN (eX ?_);refine⟨_,f8 r.fs J,?_⟩;exact nm
   have e1:l8 l f r (wX l f r st ((fF r.k).take k)).1 ((fF r.k).getD (k:Int).toNat gB)=((wX l f r st ((fF r.k).take k)).1,true):=by unfold l8;rw[aB (by rw[j];decide),aB (by rw[C];decide),aB (by rw[D];decide),aB (by rw[E];decide),aB (by rw[G];decide),aB (by rw[O];decide)]
   exact nm
  have P:eN (.cells 64 (wX l f r st ((fF r.k).take (k+1))).1.av) (.cells 64 (l8 l f r (wX l f r st ((fF r.k).take k)).1 ((fF r.k).getD (k:Int).toNat gB)).1.av):=by rw[M];exact eN.refl _
  refine⟨k+1,[],jM,jM,rfl,rfl,rfl,rfl,rfl,⟨nV,by rw[M];rfl⟩,P⟩
 ·have F:=iT F;have F:((fF r.k).length:Int)<=k:=F;have N:(fF r.k).take k=fF r.k:=fR J;rw[N];have H:=Ss l f r st (fF r.k) (⟨r.a,0,[],r.k,r.g, -1, -1, -1,0,gB,[],st⟩,true) ⟨rfl,rfl,rfl,rfl,rfl,rfl,.inl rfl,.inl rfl,.inl rfl,.inl rfl⟩;have H:BckI r st (wX l f r st (fF r.k)).1:=H;have Q:G8 p l f r st=if(!(wX l f r st (fF r.k)).2)=true then .tup [.ag zE,.I 4] else if(!qZ (wX l f r st (fF r.k)).1)=true then .tup [.ag zE,.I 2] else .tup [.ag (wX l f r st (fF r.k)).1.av,.I 0]:=by unfold G8;rw[aB jR,aB jK,aB (by rw[R];decide)]
  rw[Q];generalize wX l f r st (fF r.k)=z at H|-
  repeat apply jL
  refine⟨λS=> ?_,λS=> ?_⟩
  ·rw[aE S];exact nT
  rw[aB (by rw[S];decide)];have a0:z.1.fs.length<=1000:=by rcases H.fs with e1|e1<;>rw[e1]<;>first|exact Y|exact bI _
  repeat apply jL
  refine⟨[],_,um z.1 (by rw[H.cs];decide) J,?_⟩
  repeat apply jL
  refine⟨λU=> ?_,λU=> ?_⟩
  ·rw[aE U];exact nT
  ·rw[aB (by rw[U];decide)];exact nT
structure RwOk (P:List Pf_q0) (r:Rw):Prop where
 n0:0<=lQ r.a
 n1:lQ r.a<P.length
 fs:r.fs.length<=4
 f: ∀f∈r.fs,0<=f/\f<=1073741824
 n: -1000000<=r.n/\r.n<=1000000
 w: -1000000<=r.w/\r.w<=1000000
def P4 (E:List Ev) (a:Int) (k:Nat):Nat:=((E.take k).filter λx=>x.a==a).length
theorem CH (E:List Ev) (a:Int) (k:Nat) (h:k<E.length):P4 E a (k+1)=if((E.getD k dE).a==a)=true then P4 E a k+1 else P4 E a k:=by unfold P4;rw[bS h,gS,xE h];cases c:E[k].a==a<;>simp[c]
theorem Mq (E:List Ev) (a:Int):P4 E a E.length=(mT E a).length:=by
 refine bz (p:=λE=>P4 E a E.length=(mT E a).length) rfl (λE e c=> ?_) E;unfold P4 at c|-;rw[eJ] at c|-;rw[U5,gS,bD,c];by_cases h:a=e.a
 ·rw[aE h];simp[h]
 ·rw[aB h];simp[iS h]
theorem Ww {P:List Pf_q0} {E:List Ev} {c id:Int} (h:lr P E c id=true):0<=id/\id<E.length:=by
 unfold lr at h;split at h
 ·cases h
 ·rename_i a;unfold Vy at a;simp at a;omega
theorem Wx {x:Int} {b:Bool} (h:(x != -1&& !b)=false):x= -1\/b=true:=by cases b<;>simp at h|-;exact h
theorem TJ {l:List Int} {x:Int} (h:bu l x>=0):bu l x<l.length:=by
 unfold bu at h|-;split at h
 ·rename_i k a;have:=(eW.1 a).1;exact Int.ofNat_lt.2 this
 ·omega
theorem LX {E:List Ev} {e:Ev} (n:(oA E e).2.2=0) (w: ¬e.s<(mT E e.a).length):oA E e=(E++[e],((E.length:Int),0))/\qZ e=true/\E.length<100000:=by
 revert n;unfold oA;by_cases c:qZ e=false
 ·rw[aE c];intro h;cases h
 rw[aB c,aB w];by_cases f:(decide (e.s>(mT E e.a).length)||i9 E e)=true
 ·rw[aE f];intro h;cases h
 rw[aB f];by_cases g:(u5 E e e.t||u5 E e e.q)=true
 ·rw[aE g];intro h;cases h
 rw[aB g];by_cases j:(i7 E e.t||i7 E e.q)=true
 ·rw[aE j];intro h;cases h
 rw[aB j];by_cases l:E.length>=100000
 ·rw[aE l];intro h;cases h
 rw[aB l];exact λ_=>⟨rfl,by cases h:qZ e;exact absurd h c;rfl,J⟩
theorem aGb {P:List Pf_q0} {r:Rw} {st:Int} {e a:Ev} (h:BckI r st e) (hi:RwOk P r) (g:qZ a=true) (f:a.fs=e.fs) (n:a.n=e.n) (w:a.w=e.w):EvW a:=by
 have q:=B1 g;refine⟨q.x,q.cs.1,q.fs,?_,?_,?_⟩
 ·rw[f];rcases h.fs with e|e<;>rw[e]
  ·exact λf c=>by cases c
  ·exact hi.f
 ·rw[n];rcases h.n with e|e<;>rw[e]
  ·decide
  ·exact hi.n
 ·rw[w];rcases h.w with e|e<;>rw[e]
  ·decide
  ·exact hi.w
inductive RawR (s:Stp0) (P:List Pf_q0) (st:Sta_q0):Sta_q0->List Ot->Prop
 |pup (p:Pr):RawR s P st {st with pairs:=st.pairs++[p]} []
 |ev (e:Ev) (pr:Pr) (q:List Wt) (r:List Dbt) (o:List Int):e.st=st.step->wO (st.ev++[e])->Cok (st.ev++[e])->st.ev.length<100000->Spr P s.wait st.step st.ev.length st.q st.ref P.length q r o->
   RawR s P st {st with ev:=st.ev++[e],pairs:=st.pairs++[pr],q:=q,ref:=r} (xx st.ev.length o)
theorem TK (s:Stp0) (P:List Pf_q0) (hP:PsW P) (a8:P.length<=1000) (st:Sta_q0) (H:GOk s P st) (w:Sml st) (hC:Cok st.ev) (b8:(0<=s.wait/\s.wait<=1073741824)/\0<=st.step/\st.step<=1073741824) (b6:s.pup.length<=1000) (i:Inp) (hi:RwOk P i.raw):cM 61 true [aHs s P st kV] [.p 0 0,.ag i.av] (λy:Sta_q0×List Ot×Int=>y.2.2=0->RawR s P st y.1 y.2.1) (λy=>[gE s P y.1 y.2.1]) (λ_=>[]) (λy=> .I y.2.2):=by
 refine sE Tryz.func61 [.tmp 4] [(2000006,[.frz 0 [0,2]]),(1000009,[.frc 3 2 [4]]),(1000039,[.frc 0 11 [13]])] ?_;have h1:=w.ev;have h2:=w.t;have h3:=w.pairs
 refine jb (uM _) ?_;have L:=Vx st.pairs J (lQ i.raw.a) i.raw.s;by_cases hF:t8 st.pairs (lQ i.raw.a) i.raw.s<0
 ·rw[aE hF] at L
  refine jb L ?_
  repeat apply jL
  refine⟨λh4=> ?_,λh4=> ?_⟩
  ·cases h4
  have b0:=hP _ (vM (d:=wV) (show(lQ i.raw.a).toNat<P.length by have:=hi.n1;have:=hi.n0;omega));have b4:=hi.fs;have cB:=TH (P.getD (lQ i.raw.a).toNat wV) b0.2.1 st.pairs J (lQ i.raw.a) i.raw J st.step;refine hY ⟨hi.n0,hi.n1⟩ ?_;rcases LW (P.getD (lQ i.raw.a).toNat wV) st.pairs (lQ i.raw.a) i.raw st.step with ⟨c,a1,W⟩|⟨e,W,D,hR⟩
  ·rw[W] at cB;refine⟨.br 19 (.st 20 0 (.st 21 0 (.st 22 0 (.st 23 2 .leaf)))) 23 (.st 19 2 (.st 20 0 (.st 21 0 (.st 22 0 .leaf)))),V,Unit,λ_=>True,Function.const Unit ?_,?_,λ_ _=>⟨?_,?_⟩⟩
   rotate_left
   ·refine⟨?_,?_⟩
    ·refine aN (eX ?_);refine⟨_,cB,?_⟩;refine⟨(),[],trivial,?_,xI ?_ ?_⟩
     rotate_left
     ·show _=id _;rfl
     ·exact mG
     ·rfl
    ·exact ms
   ·rfl
   repeat apply jL
   refine⟨λh5=> ?_,λh5=> ?_⟩
   ·exact⟨(st,[],c),[(0,0)],λe=>absurd e a1,nv,rfl,λh=>jC⟩
   ·exact absurd (by simpa using h5) a1
  rw[W] at cB;refine⟨.br 19 (.st 20 0 (.st 21 0 (.st 22 0 (.st 23 2 .leaf)))) 23 (.st 19 2 (.st 20 0 (.st 21 0 (.st 22 0 .leaf)))),V,Unit,λ_=>True,Function.const Unit ?_,?_,λ_ _=>⟨?_,?_⟩⟩
  rotate_left
  ·refine⟨?_,?_⟩
   ·refine aN (eX ?_);refine⟨_,cB,?_⟩;refine⟨(),[],trivial,?_,xI ?_ ?_⟩
    rotate_left
    ·show _=id _;rfl
    ·exact mG
    ·rfl
   ·exact ms
  ·rfl
  repeat apply jL
  refine⟨λh5=> ?_,λh5=> ?_⟩
  ·cases h5
  refine aN (aN ?_);refine⟨false,[],rfl,(List Int),_,_,_,_,Sf s P st kV H J (lQ i.raw.a) i.raw.a,λf a2=> ?_⟩;have a2:f.length<=8:=a2;have b7:=D.a;have ho:=H.E.1;have a6:eN (.cells 64 {e with cs:=f,s:=P4 st.ev e.a 0}.av) (.cells 64 (s4 2 (.rs 1 f.length (rI f)) e.av)):=⟨rfl,eV.refl _,⟨rfl,D.s⟩,eV.refl _,eV.refl _,eV.refl _,eV.refl _,eV.refl _,eV.refl _,eV.refl _,eV.refl _,eV.refl _,eV.refl _⟩
  repeat apply jL
  refine⟨[],Nat,λk=>k<=st.ev.length,λk=>[⟨79,[],.I k⟩],λk=>[⟨3,[],.cells 64 {e with cs:=f,s:=P4 st.ev e.a k}.av⟩],λk=>st.ev.length-k,
   ⟨0,[],bI _,rfl,rfl,rfl,rfl,rfl,nT,by exact a6⟩,?_⟩
  intro k F;have F:k<=st.ev.length:=F;refine .inl ⟨λg=> ?_,λg=> ?_⟩
  ·have g:=pH g;have g:(k:Int)<st.ev.length:=g;have Y:(k:Int).toNat=k:=aQ k;have b3:P4 st.ev e.a k<=k:=by unfold P4;exact cO (gC _ _) (by rw[cT];omega)
   have K:=CH st.ev e.a k J
   repeat apply jL
   refine⟨⟨J,J⟩,?_⟩
   repeat apply jL
   refine jB ((st.ev.getD (k:Int).toNat dE).a==e.a) (λn=> ?_) λn=> ?_
   ·rw[Y] at n;rw[aE n] at K;have S:eN (.cells 64 {e with cs:=f,s:=P4 st.ev e.a (k+1)}.av) (.cells 64 {e with cs:=f,s:=IntKind.i64.wrap ((P4 st.ev e.a k:Nat)+1)}.av):=by rw[K,wr J J];exact eN.refl _
    exact⟨k+1,[],by show k+1<=st.ev.length;omega,jM,rfl,rfl,rfl,rfl,rfl,nV,S⟩
   ·rw[Y] at n;rw[aB (by rw[n];decide)] at K;have S:eN (.cells 64 {e with cs:=f,s:=P4 st.ev e.a (k+1)}.av) (.cells 64 {e with cs:=f,s:=P4 st.ev e.a k}.av):=by rw[K];exact eN.refl _
    exact⟨k+1,[],by show k+1<=st.ev.length;omega,jM,rfl,rfl,rfl,rfl,rfl,nV,S⟩
  have g:=iT g;have g:(st.ev.length:Int)<=k:=g;obtain rfl:k=st.ev.length:=J
  rw[Mq];refine aN ⟨[],Unit,λ_=>True,λ_=>[],λ_=>[],?_,λ_ _=> ?_⟩
  ·repeat apply jL
   refine⟨[],_,Ab s.pup J i.raw.a,?_⟩
   repeat apply jL
   refine⟨λN=> ?_,λN=> ?_⟩
   ·have N:(decide (bu s.pup i.raw.a>=0))=true:=N;have N:=kK N;have b5:=TJ N
    repeat apply jL
    refine⟨λh8=> ?_,λh8=> ?_⟩
    ·exact md
    refine aN (aN ?_);refine⟨false,[],rfl,(Int×Bool),_,_,_,_,JR s P st kV H.E J (lQ i.raw.a) (bu s.pup i.raw.a) ⟨J,J⟩ {e with cs:=f,s:=((mT st.ev e.a).length:Nat)},λy hy=> ?_⟩
    repeat apply jL
    refine⟨λh9=> ?_,λh9=> ?_⟩
    ·refine aN (aN ?_);refine⟨true,[0],rfl,Int,_,_,_,_,wd s P st J ⟨lQ i.raw.a,i.raw.s,y.1,IntKind.i64.wrap (20+bu s.pup i.raw.a)⟩,λM _=> ?_⟩;refine⟨(SO st ⟨lQ i.raw.a,i.raw.s,y.1,IntKind.i64.wrap (20+bu s.pup i.raw.a)⟩ M,[],M),[(0,0)],λh0=> ?_,q9,rfl,λh=>jC⟩;have h0:M=0:=h0;unfold SO;rw[aE h0];exact .pup _
    ·exact⟨(),[],trivial,rfl,rfl,rfl,rfl,rfl,trivial,trivial⟩
   ·exact⟨(),[],trivial,rfl,rfl,rfl,rfl,rfl,trivial,trivial⟩
  have b1:(mT st.ev e.a).length<=st.ev.length:=by rw[<-Mq];unfold P4;exact cO (gC _ _) (by rw[cT];omega)
  repeat apply jL
  refine⟨[],Nat,λk=>k<=2/\ ∀j<k,j<2->((if j=0 then e.t else e.q)= -1\/lr P st.ev i.raw.a (if j=0 then e.t else e.q)=true),λk=>[⟨130,[],.I k⟩],λk=>[],λk=>2-k,
   nc,?_⟩
  rintro k ⟨F,Q⟩;have F:k<=2:=F;refine .inl ⟨λg=> ?_,λg=> ?_⟩
  ·have g:=pH g;have g:(k:Int)<2:=g;have Y:(k:Int).toNat=k:=aQ k;have cS:=RT P J st.ev J i.raw.a;obtain rfl|rfl:k=0\/k=1:=J
   ·repeat apply jL
    refine⟨⟨J,J⟩,J,?_⟩
    refine jc (cS e.t) ?_
    repeat apply jL
    refine⟨λn=> ?_,λn=> ?_⟩
    ·exact me
    have n:(e.t != -1&& !lr P st.ev i.raw.a e.t)=false:=n;exact⟨1,[],⟨J,λj hj _=>by
     obtain rfl:j=0:=J;rw[aE rfl];exact Wx n⟩,jM,rfl,rfl,rfl,rfl,rfl,nT,trivial⟩
   ·repeat apply jL
    refine⟨⟨J,J⟩,J,?_⟩
    refine jc (cS e.q) ?_
    repeat apply jL
    refine⟨λn=> ?_,λn=> ?_⟩
    ·exact me
    have n:(e.q != -1&& !lr P st.ev i.raw.a e.q)=false:=n;have z:=Q 0 J J;exact⟨2,[],⟨J,λj hj _=>by
     by_cases h:j=0
     ·subst h;exact z
     ·rw[aB h];exact Wx n⟩,jM,rfl,rfl,rfl,rfl,rfl,nT,trivial⟩
  have g:=iT g;have g:(2:Int)<=k:=g;obtain rfl:k=2:=J
  have z:=Q 0 J J;have a3:=Q 1 J J;rw[aE rfl] at z;rw[aB jD] at a3;have a4:e.t<st.ev.length:=by
   rcases z with h|h
   ·omega
   ·exact(Ww h).2
  have a5:0<st.ev.length\/e.t<0:=by
   rcases z with h|h
   ·right;omega
   ·have:=Ww h;left;omega
  have h8:=w.hld;have h9:=w.ord
  repeat apply jL
  refine⟨[],_,λ_=>px s P st kV e.t J J,?_⟩
  repeat apply jL
  refine⟨λN=> ?_,λN=> ?_⟩
  ·exact⟨(st,[],7),[(0,0)],λe=>absurd e (by show¬(7:Int)=0;decide),nv,rfl,λh=>jC⟩
  have cP:=JS s P st kV H {e with cs:=f,s:=((mT st.ev e.a).length:Nat)} a4 a5
  refine jb cP ?_
  repeat apply jL
  refine⟨λh8=> ?_,λh8=> ?_⟩
  ·exact md
  by_cases aj:G7 st.ev=0
  ·have C:=En st.ev J λx l=>⟨by have:=(H.E.2 x l).cs;omega,by have:=(H.E.2 x l).fs;omega⟩;rw[(L3 aj).1,(L3 aj).2] at C;refine aN (aN ?_);refine⟨true,[],rfl,Unit,_,_,_,_,C,λ_ _=> ?_⟩
   repeat apply jL
   refine⟨λa7=> ?_,λa7=> ?_⟩
   ·cases a7
   have cA:=aIe st.ev hC.ok {e with cs:=f,s:=((mT st.ev e.a).length:Nat)} (show f.length<2^62 by omega) (show e.fs.length<2^62 by rcases D.fs with h|h<;>rw[h]<;>simp<;>omega);have G:=Kh hC {e with cs:=f,s:=((mT st.ev e.a).length:Nat)};by_cases O:(oA st.ev {e with cs:=f,s:=((mT st.ev e.a).length:Nat)}).2.2=0
   ·obtain⟨ea,cw,a9⟩:=LX O (show¬((mT st.ev e.a).length:Int)<(mT st.ev e.a).length by omega);rw[ea] at cA G;have R:wO (st.ev++[{e with cs:=f,s:=((mT st.ev e.a).length:Nat)}]):=⟨by rw[bD,cD];omega,λx l=>by
     rcases cR.1 l with l|l
     ·exact H.E.2 x l
     ·rw[bV] at l;subst l;exact aGb D hi cw rfl rfl rfl⟩
    have cL:=HN (st.ev++[{e with cs:=f,s:=((mT st.ev e.a).length:Nat)}]) G.ok;have cQ:=wd s P {st with ev:=st.ev++[{e with cs:=f,s:=((mT st.ev e.a).length:Nat)}]} (show st.pairs.length<900000 by omega) ⟨lQ i.raw.a,i.raw.s,st.ev.length,0⟩;have cW:=Sr s P hP (SO {st with ev:=st.ev++[{e with cs:=f,s:=((mT st.ev e.a).length:Nat)}]} ⟨lQ i.raw.a,i.raw.s,st.ev.length,0⟩ 0) ⟨H.P,R,H.gr,H.grw,H.cl,H.pf⟩ (show st.sent.length<2^62 by omega) st.ev.length (lQ i.raw.a) J (show(st.ev.length:Int)<(st.ev++[{e with cs:=f,s:=((mT st.ev e.a).length:Nat)}]).length by rw[bD,cD];omega) (show st.bad.length<=900000 by have:=w.bad;omega) a8 (show 0<=st.step+s.wait/\st.step+s.wait<=9000000000000000000 by omega) (show st.q.length<=800000 by have:=w.q;omega) (show st.ref.length<=800000 by have:=w.ref;omega);generalize U:st.ev++[{e with cs:=f,s:=((mT st.ev e.a).length:Nat)}]=ev at cA G R cL cQ cW;refine aN (aN ?_);refine⟨true,[6,7,8,9,10],rfl,Unit,_,_,_,_,cA,λ_ _=> ?_⟩
    repeat apply jL
    refine⟨λeO=> ?_,λeO=> ?_⟩
    ·cases eO
    refine aN (aN ?_);refine⟨true,[6,11,8,12,10],rfl,Unit,_,_,_,_,cL,λ_ _=> ?_⟩;refine eX ?_;refine aN (aN ?_);refine⟨true,[0],rfl,Int,_,_,_,_,cQ,λM _=> ?_⟩
    repeat apply jL
    refine⟨λfp=> ?_,λfp=> ?_⟩
    ·exact⟨(SO {st with ev:=ev} ⟨lQ i.raw.a,i.raw.s,st.ev.length,0⟩ M,[],M),[(0,0)],λe=>absurd e (Em fp),q9,rfl,λh=>jC⟩
    obtain rfl:=jg fp;refine aN (aN ?_);refine⟨true,[0],rfl,(List Wt×List Dbt×List Int),_,_,_,_,cW,λy hy=> ?_⟩;have a0:RawR s P st {st with ev:=st.ev++[{e with cs:=f,s:=((mT st.ev e.a).length:Nat)}],pairs:=st.pairs++[⟨lQ i.raw.a,i.raw.s,st.ev.length,0⟩],q:=y.1,ref:=y.2.1} (xx st.ev.length y.2.2):=by
     refine .ev {e with cs:=f,s:=((mT st.ev e.a).length:Nat)} ⟨lQ i.raw.a,i.raw.s,st.ev.length,0⟩ y.1 y.2.1 y.2.2 D.st ?_ ?_ a9 hy
     ·rw[U];exact R
     ·rw[U];exact G
    rw[U] at a0;refine⟨({st with ev:=ev,pairs:=st.pairs++[⟨lQ i.raw.a,i.raw.s,st.ev.length,0⟩],q:=y.1,ref:=y.2.1},xx st.ev.length y.2.2,0),[(0,0)],λ_=>a0,⟨nY,⟨⟨rfl,rfl,rfl,eN.refl (gE s P {st with ev:=ev,pairs:=st.pairs++[⟨lQ i.raw.a,i.raw.s,st.ev.length,0⟩],q:=y.1,ref:=y.2.1} _)⟩,trivial⟩,rfl⟩,rfl,λh=>jC⟩
   ·refine aN (aN ?_);refine⟨true,[6,7,8,9,10],rfl,Unit,_,_,_,_,cA,λ_ _=> ?_⟩
    repeat apply jL
    refine⟨λeO=> ?_,λeO=> ?_⟩
    ·exact⟨(st,[],(oA st.ev {e with cs:=f,s:=((mT st.ev e.a).length:Nat)}).2.2),[(0,0)],λe=>absurd e O,nv,rfl,λh=>jC⟩
    ·exact absurd (jg eO) O
  ·have C:=En st.ev J λx l=>⟨by have:=(H.E.2 x l).cs;omega,by have:=(H.E.2 x l).fs;omega⟩;rw[(cc rfl aj).1,(cc rfl aj).2] at C;refine aN (aN ?_);refine⟨true,[],rfl,Unit,_,_,_,_,C,λ_ _=> ?_⟩
   repeat apply jL
   refine⟨λa7=> ?_,λa7=> ?_⟩
   ·exact⟨(st,[],G7 st.ev),[(0,0)],λe=>absurd e aj,nv,rfl,λh=>jC⟩
   ·exact absurd (jg a7) aj
 ·rw[aB hF] at L
  refine jb L ?_
  repeat apply jL
  refine⟨λh4=> ?_,λh4=> ?_⟩
  ·exact⟨(st,[],5),[(0,0)],λe=>absurd e (by show¬(5:Int)=0;decide),nv,rfl,λh=>jC⟩
  ·cases h4
theorem LY {i:Inp} (h:sI i=true):(xA i).2=true/\smI (xA i).1 i=true:=by
 unfold sI at h
 rwa [aW] at h
theorem oc {i:Inp} (h:sI i=true):0<=i.k/\i.k<=9:=by
 have h:=(LY h).1;by_cases a:0<=i.k/\i.k<=9
 ·exact a
 ·unfold xA at h;rw[aB J,aB J,aB J,aB J,aB J,aB J,aB J,aB J,aB J,aB J] at h;cases h
theorem wl {n a b:Int} (h:wi n a b=true):a<=n/\n<=b:=by unfold wi at h;simpa using h
theorem TL {i:Inp} (h:sI i=true) (a:i.k=9):i.net=0:=by have h:=(LY h).2;rw[show xA i=_ from by unfold xA;rw[aB J,aB J,aB J,aB J,aB J,aB J,aB J,aB J,aB J,aE a]] at h;unfold smI at h;simp only[aW,cH] at h;exact h.1.1.1.1.1.1.1.1.1.1.2.symm
theorem aE2 {i:Inp} (h:sI i=true) (a:i.k=9):i.up.length<=12:=by have h:=(LY h).1;rw[show xA i=_ from by unfold xA;rw[aB J,aB J,aB J,aB J,aB J,aB J,aB J,aB J,aB J,aE a]] at h;have h:decide ((i.up.length:Int)<=12)=true:=h;have:=kK h;omega
theorem LZ {i:Inp} (h:sI i=true) (a:i.k=1\/i.k=2\/i.k=8):0<=i.net:=by
 have h:=(LY h).1;rcases a with a|a|a
 ·rw[show xA i=_ from by unfold xA;rw[aB J,aE a]] at h;simp only[aW] at h;exact(wl h.1.1.1).1
 ·rw[show xA i=_ from by unfold xA;rw[aB J,aB J,aE a]] at h;simp only[aW] at h;exact(wl h.1.1.1.1).1
 ·rw[show xA i=_ from by unfold xA;rw[aB J,aB J,aB J,aB J,aB J,aB J,aB J,aB J,aE a]] at h;simp only[aW] at h;exact(wl h.1).1
theorem Su {P:List Pf_q0} {i:Inp} (h:H4 P i=false):i.net<P.length/\(i.k=0->lQ i.raw.a<P.length):=by unfold H4 at h;rw[bT,bT,bH,iZ,bH,cE] at h;exact⟨J,λc=>by rcases h.2 with h|h;exact absurd c h;omega⟩
theorem aE3 {P:List Pf_q0} {i:Inp} (h:H4 P i=true) (c:sI i=true) (a:i.k=9) (f:0<P.length):False:=by
 unfold H4 at h;have e: ¬((0:Int)>=P.length):=J
 rw[c,TL c a,a,gZ e] at h;simp at h
theorem aAb {P:List Pf_q0} {i:Inp} (h:H4 P i=false) (e:i.k=0):RwOk P i.raw:=by
 have w:=Wg h;have q:=(Su h).2 e;have h:=(LY w).1;rw[show xA i=_ from by unfold xA;rw[aE e]] at h;have h:rwB i.raw=true:=h;unfold rwB at h;simp only[aW,aM,dQ,fH] at h;obtain⟨⟨⟨⟨⟨⟨⟨⟨⟨⟨c,_⟩,_⟩,_⟩,_⟩,_⟩,j⟩,g⟩,_⟩,x⟩,n⟩:=h;have c:=wl c;have j:=wl j;have g:=wl g;refine⟨?_,q,J,λf l=> ?_,J,J⟩
 ·unfold lQ;have t:bl i.raw.a 2000=true:=by unfold bl;simp;omega
  rw[t];exact Int.tmod_nonneg _ c.1
 ·have:=n f l;exact wl (by simpa using this)
structure Oth (st st':Sta_q0):Prop where
 sp:st'.step=st.step
 ev:st'.ev=st.ev
 q:st'.q=st.q
 t:st'.sent=st.sent
 r:st'.ref=st.ref
 o:st'.ords=st.ords
 s:st'.sld=st.sld
 p:st'.pairs.length<=st.pairs.length+1
 f:st'.pf.length<=st.pf.length+1
 n:st'.notes.length=st.notes.length
 nn: ∀m,(∀x∈st.notes,x.length<=m)-> ∀x∈st'.notes,x.length<=m+1
 b:st'.bad.length<=st.bad.length+1
 h:st'.holds.length<=st.holds.length+1
 dl:st'.debts.length<=st.debts.length
 d: ∀x∈st'.debts,x∈st.debts
theorem Oth.refl (st:Sta_q0):Oth st st:=⟨rfl,rfl,rfl,rfl,rfl,rfl,rfl,eP _,eP _,rfl,λm h x a=>gI (h x a),eP _,eP _,aG _,λ_ h=>h⟩
theorem MA (l:List Sa.Ver) (v:Sa.Ver):(Sa.addV l v).1.length<=l.length+1:=by
 unfold Sa.addV
 repeat' split
 all_goals simp
theorem aAc (st:Sta_q0) (i:Inp):Oth st (SL st i).1:=by
 refine⟨rfl,rfl,rfl,rfl,rfl,rfl,rfl,eP _,eP _,rfl,λm h x a=>gI (h x a),?_,eP _,aG _,λ_ h=>h⟩;show(if _ then _ else _:List Sa.Ver).length<=_;split
 ·exact MA _ _
 ·exact eP _
theorem TM (st:Sta_q0) (i:Inp):Oth st (eb st i).1:=by
 unfold eb
 repeat' split
 ·exact Oth.refl st
 ·exact Oth.refl st
 ·exact Oth.refl st
 ·exact⟨rfl,rfl,rfl,rfl,rfl,rfl,rfl,eP _,eP _,rfl,λm h x a=>gI (h x a),eP _,jS,aG _,λ_ h=>h⟩
theorem aAd (s:Stp0) (st:Sta_q0) (i:Inp):Oth st (NB s st i).1:=by
 unfold NB
 repeat' split
 ·exact Oth.refl st
 ·exact Oth.refl st
 ·exact⟨rfl,rfl,rfl,rfl,rfl,rfl,rfl,eP _,jS,rfl,λm h x a=>gI (h x a),eP _,eP _,aG _,λ_ h=>h⟩
theorem aAe (st:Sta_q0) (p:Pr) (e:Int):Oth st (SO st p e):=by refine⟨rfl,rfl,rfl,rfl,rfl,rfl,rfl,?_,eP _,rfl,λm h x a=>gI (h x a),eP _,eP _,aG _,λ_ h=>h⟩;show(if _ then _ else _:List Pr).length<=_;split<;>simp
theorem aAf (P:List Pf_q0) (st:Sta_q0) (i:Inp):Oth st (Wm P st i).1:=by
 unfold Wm
 repeat' split
 ·exact Oth.refl st
 ·exact Oth.refl st
 ·exact Oth.refl st
 ·refine⟨rfl,rfl,rfl,rfl,rfl,rfl,rfl,eP _,eP _,iD,λm h x a=> ?_,eP _,eP _,aG _,λ_ h=>h⟩;have a:x∈st.notes.set i.net.toNat (BY P st i).1:=a;rcases List.mem_or_eq_of_mem_set a with a|a
  ·exact gI (h x a)
  ·rw[a];have e:(st.notes.getD i.net.toNat []).length<=m:=by
    rcases kM i.net.toNat st.notes.length with c|c
    ·exact h _ (vM c)
    ·simp[List.getD,eY c]
   have:(BY P st i).1.length<=(st.notes.getD i.net.toNat []).length+1:=by
    unfold BY Sc.addY
    repeat' split
    all_goals simp
   omega
 ·exact Oth.refl st
theorem MB (l:List Dbt) (d:Dbt):(z5 l d).1.length<=l.length/\ ∀x∈(z5 l d).1,x∈l:=by
 unfold z5
 repeat' split
 ·simp
 ·simp
 ·exact⟨List.length_eraseIdx_le _ _,λx a=>List.mem_of_mem_eraseIdx a⟩
theorem aAg (st:Sta_q0) (i:Inp):Oth st (CV st i).1:=by
 unfold CV;split
 ·exact Oth.refl st
 ·have a:=MB st.debts ⟨i.ev,i.net⟩;refine⟨rfl,rfl,rfl,rfl,rfl,rfl,rfl,?_,eP _,rfl,λm h x c=>gI (h x c),eP _,eP _,a.1,a.2⟩;show(if _ then _ else _:List Pr).length<=_;split
  ·exact gI (gC _ _)
  ·exact eP _
inductive TakeR (s:Stp0) (P:List Pf_q0) (st:Sta_q0) (i:Inp):Sta_q0->List Ot->Prop
 |err:(i.k=9->sI i=true->i.up.length≠P.length)->TakeR s P st i st []
 |tick {st':Sta_q0} {o:List Ot}:i.k=9->sI i=true->i.up.length=P.length->TikR P st i.up st' o->TakeR s P st i st' o
 |raw {st':Sta_q0} {o:List Ot}:i.k≠9->RawR s P st st' o->TakeR s P st i st' o
 |lift {st':Sta_q0} {o:List Ot} (L:List Sa.Hld):i.k≠9->L.length=st.holds.length->DelR 20 {st with holds:=L} st' o->TakeR s P st i st' o
 |order {st':Sta_q0} {o:List Ot}:i.k≠9->0<=i.ord.ev->i.ord.ev<st.ev.length->DelR 1 (CE st i) st' o->TakeR s P st i st' o
 |oth {st':Sta_q0}:i.k≠9->Oth st st'->TakeR s P st i st' []
structure GI (s:Stp0) (P:List Pf_q0) (us:List (List Bool)) (n:Nat) (st:Sta_q0):Prop where
 q:QI P s.wait us st
 r:st.ref.Pairwise λx y=>v4 x y=true
 c:Cok st.ev
 w:wO st.ev
 ul:us.length<=n
 ev:st.ev.length<=n
 ql:st.q.length+st.sent.length+st.ref.length<=n*P.length
 pr:st.pairs.length<=n
 pf:st.pf.length<=n
 nl:st.notes.length=P.length
 nn: ∀x∈st.notes,x.length<=n
 bad:st.bad.length<=n
 hl:st.holds.length<=n
 od:st.ords.length<=n
 oe: ∀o∈st.ords,0<=o.ev/\o.ev<st.ev.length
 sl:st.sld.length<=n*20
 dl:st.debts.length<=n*2420
 dm: ∀d∈st.debts,0<=d.e/\d.e<st.ev.length
 es: ∀k,0<=(st.ev.getD k dE).st/\(st.ev.getD k dE).st<=us.length
theorem GI.more {s:Stp0} {P:List Pf_q0} {us:List (List Bool)} {n:Nat} {st:Sta_q0} (h:GI s P us n st):GI s P us (n+1) st:=
 ⟨h.q,h.r,h.c,h.w,gI h.ul,gI h.ev,cO h.ql (bU _ (eP n)),gI h.pr,gI h.pf,h.nl,λx a=>gI (h.nn x a),gI h.bad,gI h.hl,gI h.od,h.oe,cO h.sl (bU _ (eP n)),cO h.dl (bU _ (eP n)),h.dm,h.es⟩
theorem TN {P:List Pf_q0} {st:Int} {up:List Bool} {a:List Wt} {c:List Snt}: ∀{k:Nat} {q:List Wt} {t:List Snt},Tck P st up a c k q t->q.length+t.length=a.length+c.length:=by
 intro k q t h
 induction h with
 |nil=>rfl
 |go _ e f=>have:=e.len;rw[bD,fC];omega
theorem TO {P:List Pf_q0} {W st id:Int} {c:List Wt} {e:List Dbt}: ∀{k:Nat} {q:List Wt} {r:List Dbt} {o:List Int},Spr P W st id c e k q r o->q.length+r.length<=c.length+e.length+k:=by
 intro k q r o h
 induction h with
 |nil=>exact aG _
 |skip _ a=>omega
 |put _ f a=>rw[(Fx f).1,bD,cD];omega
 |ref _ a=>exact cO (uW (Mo _ _) _) J
def V9 (o:List Ot):Nat:=(o.filter λx=>x.k==1).length
theorem Sv {o:List Ot} (h: ∀x∈o,x.k≠1):V9 o=0:=by unfold V9;rw[xC.2 λx a=>by simpa using h x a];rfl
theorem TP (id:Int) (o:List Int):V9 (xx id o)=o.length:=by unfold V9 xx;rw[lC.2 λx a=>by obtain⟨y,_,rfl⟩:=fL.1 a;rfl,fC]
def MC (P:List Pf_q0) (us:List (List Bool)) (i:Inp):List (List Bool):=if i.k=9/\sI i=true/\i.up.length=P.length then us++[i.up] else us
theorem QI.same {P:List Pf_q0} {W:Int} {us:List (List Bool)} {s s':Sta_q0} (h:QI P W us s) (c:s'.step=s.step) (e:s'.q=s.q) (f:s'.ref=s.ref) (g:s'.sent=s.sent) (a:s'.ev=s.ev):QI P W us s':=
 h.evs c e f g (by rw[a];exact aG _) λk _=>by rw[a]
theorem TQ {s:Stp0} {P:List Pf_q0} {us:List (List Bool)} {n:Nat} {st C:Sta_q0} {i:Inp} {o:List Ot} (h:GI s P us n st) (R: ∀p∈P,p2 p=0) (W:P.length<=12) (hn:n<1000) (ht:TakeR s P st i C o):
  GI s P (MC P us i) (n+1) C/\st.ref.length+V9 o=C.ref.length:=by
 have H:i.k≠9->MC P us i=us:=λD=>by unfold MC;rw[aB λh=>D h.1]
 cases ht with
 |err he=>
  have:MC P us i=us:=by unfold MC;rw[aB λh=>he h.1 h.2.1 h.2.2]
  rw[this];exact⟨h.more,rfl⟩
 |tick F G N M=>
  have e:MC P us i=us++[i.up]:=by unfold MC;rw[aE ⟨F,G,N⟩]
  rw[e];have eq:=M.eq;have e1:C.step=st.step+1:=by rw[eq];rfl
  have E:C.ev=st.ev:=by rw[eq];rfl
  have K:C.ref=st.ref:=by rw[eq];rfl
  have S:=TN M.t;have hq:=h.ql;have a:=h.more;refine⟨⟨TD h.q R M.t e1 E K,by rw[K];exact h.r,by rw[E];exact h.c,by rw[E];exact h.w,by rw[bD];exact kX h.ul,by rw[E];exact a.ev,by rw[K,S];exact a.ql,
   by rw[eq];exact a.pr,by rw[eq];exact a.pf,by rw[eq];exact a.nl,by rw[eq];exact a.nn,by rw[eq];exact a.bad,by rw[eq];exact a.hl,by rw[eq];exact a.od,by rw[eq];exact a.oe,by rw[eq];exact a.sl,by rw[eq];exact a.dl,by rw[eq];exact a.dm,by rw[E];exact λk=>⟨(h.es k).1,by have:=(h.es k).2;rw[bD];omega⟩⟩,?_⟩
  rw[K,Sv M.ok];rfl
 |raw D hR=>
  rw[H D];have a:=h.more;cases hR with
  |pup p=>exact⟨⟨h.q.same rfl rfl rfl rfl rfl,h.r,h.c,h.w,a.ul,a.ev,a.ql,by show(st.pairs++[p]).length<=_;rw[bD];exact kX h.pr,a.pf,a.nl,a.nn,a.bad,a.hl,a.od,a.oe,a.sl,a.dl,a.dm,h.es⟩,rfl⟩
  |ev e U q r o F G N h4 Q=>
   have O:=CD (s':={st with ev:=st.ev++[e],pairs:=st.pairs++[U],q:=q,ref:=r}) h.q R W rfl F h4 h.r Q rfl rfl;have S:=TO Q;have hq:=h.ql;have x:(st.ev++[e]).length=st.ev.length+1:=jS
   refine⟨⟨O.1,O.2.1,N,G,a.ul,by show(st.ev++[e]).length<=_;rw[x];exact kX h.ev,?_,by show(st.pairs++[U]).length<=_;rw[bD];exact kX h.pr,a.pf,a.nl,a.nn,a.bad,a.hl,a.od,λo A=> ?_,a.sl,a.dl,λd z=> ?_,λk=> ?_⟩,?_⟩
   ·show q.length+st.sent.length+r.length<=_;rw[fV,xB];omega
   ·have:=h.oe o A;show 0<=o.ev/\o.ev<((st.ev++[e]).length:Nat);rw[x];omega
   ·have:=h.dm d z;show 0<=d.e/\d.e<((st.ev++[e]).length:Nat);rw[x];omega
   ·show 0<=((st.ev++[e]).getD k dE).st/\((st.ev++[e]).getD k dE).st<=_;have:=h.es k;have:=h.q.step;rw[zv];split
    ·exact h.es k
    ·split
     ·omega
     ·exact⟨kR 0,iK _⟩
   ·rw[TP];exact O.2.2.symm
 |lift L D hL j=>
  rw[H D];have a:=h.more;have eq:=j.eq;have x:=j.ev.l;have x:C.ev.length=st.ev.length:=x;have a0:C.sld.length<=st.sld.length+20:=j.sl;have Y:C.debts.length<=st.debts.length+20*121:=j.dl;have F:=h.sl;have G:=h.dl;refine⟨⟨h.q.evs (by rw[eq]) (by rw[eq]) (by rw[eq]) (by rw[eq]) (by rw[x];exact aG _) (λk _=>j.ev.s k),by rw[eq];exact h.r,j.ev.c,j.ev.w,a.ul,by rw[x];exact a.ev,by rw[eq];exact a.ql,by rw[eq];exact a.pr,by rw[eq];exact a.pf,by rw[eq];exact a.nl,by rw[eq];exact a.nn,
   by rw[eq];exact a.bad,by rw[eq];show L.length<=_;rw[hL];exact a.hl,by rw[eq];exact a.od,λo A=> ?_,J,J,λd z=> ?_,λk=>by rw[j.ev.s k];exact h.es k⟩,?_⟩
  ·rw[x];rw[eq] at A;exact h.oe o A
  ·rw[x];rcases j.dm d z with z|z
   ·exact h.dm d z
   ·exact z
  ·rw[Sv j.ok,eq];rfl
 |order D k0 k1 j=>
  rw[H D];have a:=h.more;have eq:=j.eq;have x:=j.ev.l;have x:C.ev.length=st.ev.length:=x;have a0:C.sld.length<=st.sld.length+1:=j.sl;have Y:C.debts.length<=st.debts.length+1*121:=j.dl;have F:=h.sl;have G:=h.dl;refine⟨⟨h.q.evs (by rw[eq];rfl) (by rw[eq];rfl) (by rw[eq];rfl) (by rw[eq];rfl) (by rw[x];exact aG _) (λk _=>j.ev.s k),by rw[eq];exact h.r,j.ev.c,j.ev.w,a.ul,by rw[x];exact a.ev,by rw[eq];exact a.ql,by rw[eq];exact a.pr,by rw[eq];exact a.pf,by rw[eq];exact a.nl,by rw[eq];exact a.nn,
   by rw[eq];exact a.bad,by rw[eq];exact a.hl,by rw[eq];show(st.ords++[_]).length<=_;rw[bD];exact kX h.od,λo A=> ?_,J,J,λd z=> ?_,λk=>by rw[j.ev.s k];exact h.es k⟩,?_⟩
  ·rw[x];rw[eq] at A;have A:o∈st.ords++[{i.ord with step:=st.step}]:=A;rcases cR.1 A with A|A
   ·exact h.oe o A
   ·rw[bV.1 A];exact⟨k0,k1⟩
  ·rw[x];rcases j.dm d z with z|z
   ·exact h.dm d z
   ·exact z
  ·rw[Sv j.ok,eq];rfl
 |oth D g=>
  rw[H D];have a:=h.more;refine⟨⟨h.q.same g.sp g.q g.r g.t g.ev,by rw[g.r];exact h.r,by rw[g.ev];exact h.c,by rw[g.ev];exact h.w,a.ul,by rw[g.ev];exact a.ev,by rw[g.q,g.t,g.r];exact a.ql,cO g.p (kX h.pr),cO g.f (kX h.pf),g.n.trans h.nl,g.nn n h.nn,
   cO g.b (kX h.bad),cO g.h (kX h.hl),by rw[g.o];exact a.od,by rw[g.o,g.ev];exact h.oe,by rw[g.s];exact a.sl,cO g.dl a.dl,λd z=>by rw[g.ev];exact h.dm d (g.d d z),by rw[g.ev];exact h.es⟩,?_⟩
  rw[g.r];rfl
theorem GI.sml {s:Stp0} {P:List Pf_q0} {us:List (List Bool)} {n:Nat} {st:Sta_q0} (h:GI s P us n st) (c:n<=16) (a:P.length<=4):Sml st:=by have f:=h.ql;have g:=pD c a;have j:=h.ev;have k:=h.pr;have l:=h.pf;have q:=h.bad;have t:=h.hl;have w:=h.od;have x:=h.sl;have e:=h.dl;constructor<;>omega
structure SOk (s:Stp0) (P:List Pf_q0):Prop where
 p:PsW P
 l:0<P.length/\P.length<=4
 w:0<=s.wait/\s.wait<=1073741824
 pu:s.pup.length<=1000
 gr:s.gr.length<=1000
 grw: ∀x∈s.gr,(Lit.int .i64 x.per).wf=true
 cl:s.cl.length<=1000
theorem GI.gok {s:Stp0} {P:List Pf_q0} {us:List (List Bool)} {n:Nat} {st:Sta_q0} (h:GI s P us n st) (a:SOk s P) (c:n<=16):GOk s P st:=
 ⟨by have:=a.l;omega,h.w,a.gr,a.grw,a.cl,by have:=h.pf;omega⟩
theorem GI.fit {s:Stp0} {P:List Pf_q0} {us:List (List Bool)} {n:Nat} {st:Sta_q0} (h:GI s P us n st) (e:SOk s P) (j:n<=16):st.fit:=by
 have a:=h.sml j e.l.2;have f:=a.ev;have g:=a.q;have z:=a.t;have A:=a.ref;have C:=a.pairs;have D:=a.pf;have E:=a.bad;have F:=a.hld;have G:=a.ord;have H:=a.sld;have K:=a.debts;have L:=h.nl;have M:=e.l;refine⟨J,J,J,J,J,J,J,J,J,J,J,J,λx c=> ?_,λx c=> ?_⟩
 ·have:=h.w.2 x c;have f:=this.cs;have g:=this.fs;omega
 ·have:=h.nn x c;omega
def TkZ (s:Stp0) (P:List Pf_q0) (st:Sta_q0) (i:Inp) (z:(Sta_q0×List Ot)×Sta_q0×AV×Int):Prop:=
 ∃o,TakeR s P st i z.2.1 o/\(z.2.2.1= .rs 14 o.length (Bg o)\/(z.2.2.1=kV/\o=[]))
theorem jv {s:Stp0} {P:List Pf_q0} {st:Sta_q0} {i:Inp} (l:0<P.length) {sp:Sta_q0×List Ot×Int->Prop} (g: ∀y,sp y->y.2.2=0->TakeR s P st i y.1 y.2.1) (j: ∀y,sp y->y.2.2≠0->i.k=9->i.up.length≠P.length) (z:(Sta_q0×List Ot)×Sta_q0×AV×Int)
  (f:(H4 P i=true->z.2=(st,kV,1))/\(H4 P i=false-> ∃y,sp y/\z.1=(y.1,y.2.1)/\z.2=if y.2.2=0 then(y.1,.rs 14 y.2.1.length (Bg y.2.1),0) else(st,kV,y.2.2))):TkZ s P st i z:=by
 cases a:H4 P i with
 |true=>have e:=f.1 a;refine⟨[],?_,.inr ⟨by rw[e],rfl⟩⟩;rw[e];exact .err λn q=>(aE3 a q n l).elim
 |false=>
  obtain⟨y,c,_,e⟩:=f.2 a;by_cases h:y.2.2=0
  ·rw[aE h] at e;refine⟨y.2.1,?_,.inl (by rw[e])⟩;rw[e];exact g y c h
  ·rw[aB h] at e;refine⟨[],?_,.inr ⟨by rw[e],rfl⟩⟩;rw[e];exact .err λn _=>j y c h n
theorem MD (s:Stp0) (P:List Pf_q0) (g:SOk s P) (us:List (List Bool)) (n:Nat) (j:n<=16) (g0:Sta_q0) (o0:List Ot) (st:Sta_q0) (h:GI s P us n st) (i:Inp) (hfs:i.raw.fs.length<2^62) (hup:i.up.length<2^62) (hk9:i.k≠9):
  cM 24 true [gE s P g0 o0] [.p 0 0,.ag st.av,.ag i.av] (TkZ s P st i) (λz=>[gE s P z.1.1 z.1.2]) (λ_=>[]) (λz=> .tup [.ag z.2.1.av,z.2.2.1,.I z.2.2.2]):=by
 have hl:=g.l;have f:=h.sml j hl.2;have H:=h.gok g j;have hf:=h.fit g j;have E:=h.q;have G:0<=st.step/\st.step<=1073741824:=by have:=E.step;have:=h.ul;omega
 have D: ∀x∈st.sent,(Lit.int .i64 x.n).wf=true:=λx C=>by
  have:=E.sent x C;have M:=this.2.2.1;have N:=this.2.2.2.1;show(decide (IntKind.i64.min<=x.n)&&decide (x.n<=IntKind.i64.max))=true;have K:IntKind.i64.min= -9223372036854775808:=jD
  have L:IntKind.i64.max=9223372036854775807:=jD
  rw[K,L,aW,aM,aM];omega
 by_cases hb:H4 P i=true
 ·exact mX
 have hb:H4 P i=false:=by simpa using hb
 have A:=Wg hb;have O:=oc A;have F:i.k=0\/i.k=1\/i.k=2\/i.k=3\/i.k=4\/i.k=5\/i.k=6\/i.k=7\/i.k=8:=J
 have h9: ∀{sp:Sta_q0×List Ot×Int->Prop},∀y,sp y->y.2.2≠0->i.k=9->i.up.length≠P.length:=λ_ _ _ h=>absurd h hk9;rcases F with a|a|a|a|a|a|a|a|a
 ·refine(M1 s P g0 o0 st hf i hfs hup (λh=>oc h) (λy=>y.2.2=0->RawR s P st y.1 y.2.1) (λ_=>by rw[a];exact TK s P g.p J st H f h.c ⟨g.w,G⟩ g.pu i (aAb hb a))).less λz hz=>⟨z,jv hl.1 (λy hy e=> .raw hk9 (hy e)) h9 z hz,rfl,rfl,rfl⟩
 ·refine(M1 s P g0 o0 st hf i hfs hup (λh=>oc h) (λy=>y.2.2=0->Oth st y.1/\y.2.1=[]) (λ_=>by
   rw[a];exact(KL s P st (by have:=f.pairs;omega) (by have:=f.t;omega) i (LZ A (.inl a)) (Su hb).1).less λe _=>⟨(tkF st i e,[],e),λ_=>⟨aAe st _ e,rfl⟩,rfl,rfl,rfl⟩)).less λz hz=>nu
 ·refine(LP s P g0 o0 st hf i hfs hup (λh=>oc h) (λy=>y.2.2=0->Oth st y.1/\y.2.1=[]) (λ_=>by
   rw[a];exact(KM s P st h.nl (λx C=>by have:=h.nn x C;omega) (by have:=f.t;omega) i (LZ A (.inr (.inl a))) (Su hb).1).less λ_ _=>⟨((Wm P st i).1,[],(Wm P st i).2),λ_=>⟨aAf P st i,rfl⟩,rfl,rfl,rfl⟩)).less λz hz=>nu
 ·refine(M1 s P g0 o0 st hf i hfs hup (λh=>oc h) (λy=>y.2.2=0->Oth st y.1/\y.2.1=[]) (λ_=>by
   rw[a];exact(BX s P st (by have:=f.pf;omega) (by have:=g.cl;omega) i).less λ_ _=>⟨((NB s st i).1,[],(NB s st i).2),λ_=>⟨aAd s st i,rfl⟩,rfl,rfl,rfl⟩)).less λz hz=>nu
 ·refine(M1 s P g0 o0 st hf i hfs hup (λh=>oc h) (λy=>y.2.2=0->Oth st y.1/\y.2.1=[]) (λ_=>by
   rw[a];exact(Lt s P st (by have:=f.bad;omega) i).less λ_ _=>⟨((SL st i).1,[],(SL st i).2),λ_=>⟨aAc st i,rfl⟩,rfl,rfl,rfl⟩)).less λz hz=>nu
 ·refine(LQ s P g0 o0 st hf i hfs hup (λh=>oc h) (λy=>y.2.2=0->Oth st y.1/\y.2.1=[]) (λ_=>by
   rw[a];exact(JU s P st (by have:=f.hld;omega) (by have:=f.ord;omega) i).less λ_ _=>⟨((eb st i).1,[],(eb st i).2),λ_=>⟨TM st i,rfl⟩,rfl,rfl,rfl⟩)).less λz hz=>nu
 ·refine(LR s P g0 o0 st hf i hfs hup (λh=>oc h) (λy=>y.2.2=0->DelR 20 {st with holds:=(Sa.Lift st.holds i.n st.step).1} y.1 y.2.1) (λ_=>by
   rw[a];exact LD s P st H f h.c D h.oe i)).less λz hz=>⟨z,jv hl.1 (λy hy e=> .lift _ hk9 (Mm _ _ _) (hy e)) h9 z hz,rfl,rfl,rfl⟩
 ·refine(LS s P g0 o0 st hf i hfs hup (λh=>oc h) (λy=>y.2.2=0->0<=i.ord.ev/\i.ord.ev<st.ev.length/\DelR 1 (CE st i) y.1 y.2.1) (λ_=>by
   rw[a];exact CF s P st H f h.c D i)).less λz hz=>⟨z,jv hl.1 (λy hy e=> .order hk9 (hy e).1 (hy e).2.1 (hy e).2.2) h9 z hz,rfl,rfl,rfl⟩
 ·refine(LO s P g0 o0 st hf i hfs hup (λh=>oc h) (λy=>y.2.2=0->Oth st y.1/\y.2.1=[]) (λ_=>by
   rw[a];exact(KJ s P st (by have:=f.debts;omega) (by have:=f.pairs;omega) h.dm i).less λ_ _=>⟨((CV st i).1,[],(CV st i).2),λ_=>⟨aAg st i,rfl⟩,rfl,rfl,rfl⟩)).less λz hz=>nu
theorem Sw (s:Stp0) (P:List Pf_q0) (z:P.length<2^62) (st:Sta_q0) (l:List Ot) (n:Int) (t:wO st.ev):cM 137 true [gW s P st 1 2,x9 st.sent,sA l] [.p 0 0,.I n] (λ_:Unit=>True) (λ_=>[gW s P st 1 2,x9 st.sent,sA l]) (λ_=>[]) (λ_=> .rs 12 st.ev.length (rE (O4 P st.ev n st.ev.length))):=by
 refine sE Tryz.func137 [.tmp 4] [(999999,[.frz 4 [3]])] ?_;have C:=t.1
 repeat apply jL
 refine⟨[(5,64,12)],Nat,λk=>k<=st.ev.length,λk=>[⟨14,[],.I k⟩,⟨5,[],.so 3⟩],λk=>[⟨3,[],.row 64 12 k (rE (O4 P st.ev n k))⟩],λk=>st.ev.length-k,
  np,?_⟩
 intro k w;have w:k<=st.ev.length:=w;refine .inl ⟨λf=> ?_,λf=> ?_⟩
 ·have f:=pH f;have f:(k:Int)<st.ev.length:=f;have D:(k:Int).toNat=k:=aQ k;have x:=t.at (id:=k) J J
  repeat apply jL
  refine⟨⟨J,J⟩,?_⟩
  refine jb (JK P z st.ev C n k) ?_;have j:=Lq P st.ev n k;have E:k+1<=1000000:=J
  repeat apply jL
  refine jB (!vq P st.ev n k) (λh=> ?_) λh=> ?_
  ·rw[aE h] at j;refine aN (eX ?_);refine⟨_,bx (st.ev.getD (k:Int).toNat dE) (by have:=x.cs;omega) (by have:=x.fs;omega),?_⟩
   repeat apply jL
   refine⟨oJ J,?_⟩;refine⟨k+1,[(3,6)],J,jM,rfl,rfl,rfl,rfl,rfl,⟨nV,rfl⟩,⟨rfl,rfl,rfl,λq hq=> ?_⟩⟩;have hq:q<k+1:=hq;have g:=Fl (O4 P st.ev n k) (lZ (st.ev.getD k dE)) q (by rw[bD,zC];exact hq);rw[zC,<-j] at g;exact g
  ·rw[aB jR] at j
   repeat apply jL
   refine⟨oJ J,?_⟩;refine⟨k+1,[(3,6)],J,jM,rfl,rfl,rfl,rfl,rfl,⟨nV,rfl⟩,⟨rfl,rfl,rfl,λq hq=> ?_⟩⟩;have hq:q<k+1:=hq;have g:=Fl (O4 P st.ev n k) (st.ev.getD k dE) q (by rw[bD,zC];exact hq);rw[zC,<-j] at g;exact g
 ·have f:=iT f;have f:(st.ev.length:Int)<=k:=f;obtain rfl:k=st.ev.length:=J
  exact⟨(),[(0,0),(1,1),(2,2)],trivial,⟨⟨⟨rfl,rfl,rfl,rfl,λq hq=>rfl⟩,trivial⟩,⟨qL,ni,ni,trivial⟩,rfl⟩,rfl,λh=>jC⟩
end Go.Proofs.YtpnjmojpeaegoaaGreatDoor
namespace Go.Proofs.YtpnjmojpeaegoaaGreatDoor
open Go.Eng
def W0 (a b:AV):Prop:= ∀(c:Bd) (n:Nat) (F:Nat->Prop) (w:World) (v:Value),Rep c n F w a v->Rep c n F w b v
def G9:List AV->List AV->Prop
 |[],[]=>True
 |a::r,b::t=>W0 a b/\G9 r t
 |_,_=>False
theorem W0.refl (a:AV):W0 a a:=λ_ _ _ _ _ h=>h
theorem G9.refl: ∀l:List AV,G9 l l
 |[]=>trivial
 |a::r=>⟨.refl a,G9.refl r⟩
theorem G9.get: ∀{l m:List AV},G9 l m->l.length=m.length/\ ∀(j:Nat) (h1:j<l.length) (h2:j<m.length),W0 l[j] m[j]
 |[],[],_=>⟨rfl,λj h1=>absurd h1 (dU j)⟩
 |a::r,b::t,h=>by
  obtain⟨e,g⟩:=G9.get h.2;refine⟨by simp[e],λj h1 h2=> ?_⟩;cases j with
  |zero=>exact h.1
  |succ j=>exact g j j1 j2
 |[],_::_,h=>h.elim
 |_::_,[],h=>h.elim
theorem W0.nil (sz:Nat) (g:Nat->List AV):W0 kV (.rs sz 0 g):=λa n F w v h=>by
 unfold kV at h;cases h with
 |pure _ _ h=>cases h with
  |val=>exact .pure _ _ (.rsnil _ _)
theorem W0.ag {l m:List AV} (h:G9 l m):W0 (.ag l) (.ag m):=λt n F w v q=>by
 cases q with
 |pure _ _ k=>cases k with
  |ag _ f e g=>exact .ag _ f (by rw[<-h.get.1];exact e) λj a c=>h.get.2 j (by rw[h.get.1];exact a) a t n F w _ (.pure _ _ (g j (by rw[h.get.1];exact a) c))
 |ag _ f e g=>exact .ag _ f (by rw[<-h.get.1];exact e) λj a c=>h.get.2 j (by rw[h.get.1];exact a) a t n F w _ (g j (by rw[h.get.1];exact a) c)
theorem tC.cvt {P:Program} {f:FuncId} {al:Bool} {ins:List AO} {args k:List AV} {Y:Type} {g:Y->Prop} {e os:Y->List AO} {r:Y->AV} (h:G9 k args) (c:tC P f al ins args g e os r):tC P f al ins k g e os r:=
 ⟨c.1,λF w E D l n q t x z A=>c.2 F w E D l n q t x (h.get.1.symm.trans z) λj a C=>h.get.2 j (by rw[h.get.1];exact a) a _ _ _ _ _ (A j (by rw[h.get.1];exact a) C)⟩
theorem W0.tup {l m:List AV} (h:G9 l m):W0 (.tup l) (.tup m):=λt n F w v q=>by
 cases q with
 |pure _ _ k=>cases k with
  |tup _ f e g=>exact .tup _ f (by rw[<-h.get.1];exact e) λj a c=>h.get.2 j (by rw[h.get.1];exact a) a t n F w _ (.pure _ _ (g j (by rw[h.get.1];exact a) c))
 |tup _ f e g=>exact .tup _ f (by rw[<-h.get.1];exact e) λj a c=>h.get.2 j (by rw[h.get.1];exact a) a t n F w _ (g j (by rw[h.get.1];exact a) c)
theorem W0.rs {sz n:Nat} {g c:Nat->List AV} (l: ∀k,(c k).length=(g k).length) (h: ∀(k j:Nat) (q:j<(g k).length) (N:j<(c k).length),∀(F:Nat->Prop) (w:World) (v:Value),Rep0 F w (g k)[j] v->Rep0 F w (c k)[j] v):W0 (.rs sz n g) (.rs sz n c):=λO m F w v L=>by
 cases L with
 |pure _ _ C=>
  cases C with
  |rsnil=>exact .pure _ _ (.rsnil _ _)
  |rsz=>exact .pure _ _ (.rsz _ _ _)
  |rs _ _ _ a A x M H G D z t E q K=>exact .pure _ _ (.rs _ _ _ a A x M H G D z (λk f=>by rw[l];exact t k f) E q λk j f e=>h k j (by rw[<-l];exact e) e F w _ (K k j f (by rw[<-l];exact e)))
theorem tC.lessR {P:Program} {f:FuncId} {al:Bool} {ins:List AO} {args:List AV} {Y Z:Type} {j:Y->Prop} {a os:Y->List AO} {r:Y->AV} (h:tC P f al ins args j a os r)
  {spec':Z->Prop} {outs' os':Z->List AO} {r':Z->AV} (g: ∀y,j y-> ∃z,spec' z/\outs' z=a y/\os' z=os y/\W0 (r y) (r' z)):tC P f al ins args spec' outs' os' r':=
 ⟨h.1,λF w M K q t x A C D E=>(h.2 F w M K q t x A C D E).mono λe N ⟨v,L,y,k,G,gv⟩=>by
  obtain⟨z,H,l,n,c⟩:=g y G;refine⟨v,L,z,k,H,?_⟩;rw[l,n];exact {gv with res:=c _ _ _ _ _ gv.res}⟩
end Go.Proofs.YtpnjmojpeaegoaaGreatDoor
namespace Go.Proofs.YtpnjmojpeaegoaaGreatDoor
open Go.Eng Go.Qu
theorem aE4 {n sz:Nat} (h:n<=2000000) (a:sz<=1000:=by decide):n*sz<=140737488355328:=cO (pD h a) jD
def nfI (i:Itm):Itm:={i with fl:=some (i.fl.getD [])}
def aE5 (l:List Itm) (k:Nat):List AV:=(nfI (l.getD k F6)).av
theorem aE6 {o:Option (List Int)} {F:Nat->Prop} {w:World} {v:Value} (h:Rep0 F w (flV o) v):Rep0 F w (flV (some (o.getD []))) v:=by
 cases o with
 |some l=>exact h
 |none=>
  have h:Rep0 F w kV v:=h;unfold kV at h;cases h with
  |val=>exact .rsnil _ _
theorem aAh (l:List Itm):W0 (.rs 11 l.length (H2 l)) (.rs 11 l.length (aE5 l)):= .rs (λk=>rfl) λk j a c F w v h=>by
 have a:j<11:=a;rcases(by omega:j=0\/j=1\/j=2\/j=3\/j=4\/j=5\/j=6\/j=7\/j=8\/j=9\/j=10) with rfl|rfl|rfl|rfl|rfl|rfl|rfl|rfl|rfl|rfl|rfl
 all_goals first|exact h|exact aE6 h
theorem CI {args:List AV} {sp:List Itm->Prop} (c:cM 136 true [] args sp (λ_=>[]) (λy=>[.row 50 11 y.length (H2 y)]) (λ_=> .tup [.so 0,.I 0])):
  cM 136 true [] args sp (λ_=>[]) (λ_=>[]) (λy=> .tup [.rs 11 y.length (aE5 y),.I 0]):=
 tC.lessR (c.frz (r':=λy=> .tup [.rs 11 y.length (H2 y),.I 0]) λ_ _=>(by constructor)) λy a=>⟨y,a,rfl,rfl,.tup ⟨aAh y,.refl _,trivial⟩⟩
theorem ME (s:Stp0) (P:List Pf_q0) (hP:PsW P) (b1:P.length<=1000) (us:List (List Bool)) (st:Sta_q0) (H:GOk s P st) (Q:Sml st) (hQ:QI P s.wait us st) (b4:0<=st.step/\st.step<1073741824) (i:Inp) (b5:i.up.length<=1000):cM 70 true [gX s P st 13,x9 st.sent] [.p 0 0,.ag i.av] (λy:Sta_q0×List Ot×Int=>(y.2.2=0↔i.up.length=P.length)/\(y.2.2=0->TikR P st i.up y.1 y.2.1)) (λy=>[gE s P y.1 y.2.1,.dead]) (λ_=>[]) (λy=> .I y.2.2):=by
 refine sE Tryz.func70 [.tmp 4] [(1000002,[.frc 0 13 [1]]),(1000004,[.frc 0 13 [1]]),(7,[.frz 5 [3],.nlc 0 23 52 14,.mvc 0 13]),(2000010,[.frz 0 [0,2,6]]),(1000015,[.ex 8]),(2000016,[.frz 0 [6]]),(1000020,[.ex 11]),(1000024,[.frc 0 13 [5],.frc 0 23 [4]]),(2000015,[.frz 1 [0]]),(2000020,[.frz 1 [0]])] ?_
 repeat apply jL
 refine jB ((i.up.length:Int) !=(P.length:Int)) (λh=> ?_) λh=> ?_
 ·exact⟨(st,[],1),[(0,0),(1,1)],⟨⟨λe=>absurd e (by show¬(1:Int)=0;decide),λe=>absurd h (by rw[e];simp)⟩,λe=>absurd e (by show¬(1:Int)=0;decide)⟩,⟨nY,⟨⟨rfl,rfl,rfl,xS s P st⟩,nS,trivial⟩,rfl⟩,rfl,λh=>jC⟩
 have a8:i.up.length=P.length:=by
  have:(i.up.length:Int)=P.length:=jH
  omega
 repeat apply jL
 refine⟨λh2=> ?_,λh2=> ?_⟩
 ·have h2:=kK h2;omega
 have hb:=Q.bad;have a9:IntKind.i64.wrap (st.step+1)=st.step+1:=wr J J;have b3:(aHk st).length<=st.bad.length:=cO (Sa.setI_len_q0 _) (ds st st.bad.length)
 repeat apply jL
 refine⟨_,_,We s P {st with step:=IntKind.i64.wrap (st.step+1)} kV (show st.bad.length<=900000 by omega),?_⟩;have a6:eN (gW s P (LK st st.q st.sent) 5 4) (gW s P {st with step:=IntKind.i64.wrap (st.step+1)} 5 4):=by rw[a9];exact eN.refl _
 repeat apply jL
 refine⟨[],Nat×List Wt×List Snt×List Ot,λx=>x.1<=P.length/\Tck P (st.step+1) i.up st.q st.sent x.1 x.2.1 x.2.2.1/\TikI st x.2.1 x.2.2.1 x.2.2.2,λx=>[⟨47,[],.I x.1⟩],λx=>[⟨0,[],gW s P (LK st x.2.1 x.2.2.1) 5 4⟩,⟨4,[],sA x.2.2.2⟩,⟨5,[],x9 x.2.2.1⟩],λx=>P.length-x.1,
  ⟨(0,st.q,st.sent,[]),[],⟨bI _,.nil,⟨rfl,λx S=>(by cases S),bI _⟩⟩,rfl,rfl,rfl,rfl,rfl,nT,⟨a6,nX,eN.refl (x9 st.sent)⟩⟩,?_⟩
 rintro⟨k,q,t,o⟩ ⟨R,D,n⟩;have R:k<=P.length:=R;have D:Tck P (st.step+1) i.up st.q st.sent k q t:=D;have n:TikI st q t o:=n;have hl:q.length+t.length=st.q.length+st.sent.length:=n.l;have hq:=Q.q;have ht:=Q.t;refine .inl ⟨λf=> ?_,λf=> ?_⟩
 ·have f:=pH f;have f:(k:Int)<P.length:=f
  repeat apply jL
  refine⟨⟨J,J⟩,?_⟩;refine⟨⟨J,by show(k:Int)<i.up.length;omega⟩,?_⟩;have C:=hP _ (vM (d:=wV) (show k<P.length by omega));refine aN (aN ?_);refine⟨true,[],rfl,(List Int×List Wt),_,_,_,_,Vd (P.getD k wV) C.2.1 k q J (i.up.getD k false),λy U=> ?_⟩;have cz:y.2.length+y.1.length=q.length:=yB.len U
  repeat apply jL
  refine⟨[],Nat×List Ot,λx=>x.1<=y.1.length/\(∀z∈x.2,z.k≠1)/\x.2.length<=(t.length+x.1)*1000,λx=>[⟨75,[],.I x.1⟩],λx=>[⟨0,[],gW s P (LK st y.2 (ju t y.1 k (st.step+1) x.1)) 5 4⟩,⟨4,[],sA x.2⟩,⟨5,[],x9 (ju t y.1 k (st.step+1) x.1)⟩],λx=>y.1.length-x.1,
   ⟨(0,o),[],⟨bI _,n.ok,by have:=n.ol;show o.length<=(t.length+0)*1000;omega⟩,rfl,rfl,rfl,rfl,rfl,nT,⟨?_,eN.refl (sA o),?_⟩⟩,?_⟩
  ·exact eN.refl _
  ·have K:eN (x9 (ju t y.1 k (st.step+1) 0)) (x9 t):=by rw[LH];exact eN.refl _
   exact K
  rintro⟨j,g⟩ ⟨hj,G,N⟩;have hj:j<=y.1.length:=hj;have G: ∀z∈g,z.k≠1:=G;have N:g.length<=(t.length+j)*1000:=N;refine .inl ⟨λf=> ?_,λf=> ?_⟩
  ·have f:=pH f;have f:(j:Int)<y.1.length:=f
   repeat apply jL
   refine⟨⟨J,J⟩,?_⟩;have a7:=LJ t y.1 k (st.step+1) (j:=j) J;have M:=Fy t y.1 k (st.step+1) (j:=j) J;have b0:=Fy t y.1 k (st.step+1) (j:=j+1) J;have ej:(j:Int).toNat=j:=aQ j;refine⟨oJ jM,?_⟩;refine kZ (x9 (ju t y.1 k (st.step+1) (j+1))) (hY ?_ ?_)
   ·have K:eN (x9 (ju t y.1 k (st.step+1) (j+1))) (.row 54 3 ((ju t y.1 k (st.step+1) j).length+1) (iJ (ju t y.1 k (st.step+1) j).length (db (ju t y.1 k (st.step+1) j)) (kJ 3 (Snt.av ⟨y.1.getD j 0,k,st.step+1⟩)))):=by rw[a7];exact aA9 _ _
    rw[<-ej] at K;exact K
   obtain⟨x,S,dw⟩:=LL U (vM (l:=y.1) (d:=0) (show j<y.1.length by omega));have a3:=(Wv hQ (λp hp=>(hP p hp).2.2) D R).hq x S;have a1:0<=x.e:=by have:=a3.1;unfold Eg PQ at this;simp at this;omega
   have a2:=a3.2.2.1;rw[dw] at a1 a2;have a0:=zC P st.ev k st.ev.length;have a4:(aHk {st with step:=IntKind.i64.wrap (st.step+1)}).length<=st.bad.length:=cO (Sa.setI_len_q0 _) (ds _ _);have cF:=Ml (P.getD k wV) C.1 C.2.1 C.2.2 (O4 P st.ev k st.ev.length) (VQ H.E k) (aHk {st with step:=IntKind.i64.wrap (st.step+1)}) (i1 a4 (show st.bad.length<2^62 by omega)) (y.1.getD j 0) a1 (by rw[a0];exact a2);rw[a0] at cF;have O:=Sw s P H.P (LK st y.2 (ju t y.1 k (st.step+1) (j+1))) g k H.E;refine⟨.br 4 (.st 6 0 (.br 7 (.st 10 2 .leaf) 10 (.st 7 2 .leaf))) 10 (.st 4 2 (.st 6 0 (.st 7 2 .leaf))),V,Unit,λ_=>True,Function.const Unit ?_,?_,λ_ _=>⟨?_,?_⟩⟩
   rotate_left
   ·refine⟨?_,?_⟩
    ·refine⟨⟨J,J⟩,?_⟩;refine⟨?_,?_⟩
     ·refine aN (aN ?_);refine⟨true,[0,8,4],rfl,Unit,_,_,_,_,O,λ_ _=> ?_⟩;refine⟨(),[],trivial,?_,xI ?_ ?_⟩
      rotate_left
      ·show _=id _;rfl
      ·exact mG
      ·rfl
     ·refine aN (aN ?_);refine⟨true,[0,8,4],rfl,Unit,_,_,_,_,O,λ_ _=> ?_⟩;refine⟨(),[],trivial,rfl,?_,?_,rfl⟩<;>(repeat' first|exact rfl|exact trivial|refine⟨?_,?_⟩|intro _ _)
    ·refine aN (aN ?_);refine⟨true,[0,8,4],rfl,Unit,_,_,_,_,O,λ_ _=> ?_⟩;refine⟨⟨J,J⟩,?_⟩;refine⟨(),[],trivial,rfl,?_,?_,rfl⟩<;>(repeat' first|exact rfl|exact trivial|refine⟨?_,?_⟩|intro _ _)
   ·rfl
   refine aN (aN ?_);refine⟨true,[],rfl,(List Itm),_,_,_,_,CI cF,λz W=> ?_⟩;have W:z.length=_:=W;have b6:z.length<=1000:=by rw[W];exact aA8 C.1 _ _ _
   repeat apply jL
   refine⟨[],Nat×List Ot,λx=>x.1<=z.length/\(∀v∈x.2,v.k≠1)/\x.2.length<=g.length+x.1,λx=>[⟨117,[],.I x.1⟩],λx=>[⟨0,[],gW s P (LK st y.2 (ju t y.1 k (st.step+1) (j+1))) 8 4⟩,⟨4,[],sA x.2⟩],λx=>z.length-x.1,
    ⟨(0,g),[],⟨bI _,G,aG _⟩,rfl,rfl,rfl,rfl,rfl,nT,⟨eN.refl _,eN.refl (sA g)⟩⟩,?_⟩
   rintro⟨m,w⟩ ⟨hm,L,Y⟩;have hm:m<=z.length:=hm;have L: ∀v∈w,v.k≠1:=L;have Y:w.length<=g.length+m:=Y;refine .inl ⟨λf=> ?_,λf=> ?_⟩
   ·have f:=pH f;have f:(m:Int)<z.length:=f
    repeat apply jL
    refine⟨⟨J,J⟩,?_⟩;refine⟨aE4 jM,?_⟩;refine kZ (sA (w++[(⟨0,k,y.1.getD j 0,nfI (z.getD m F6)⟩:Ot)])) (hY (Fu _ _) ?_);exact⟨(m+1,w++[(⟨0,k,y.1.getD j 0,nfI (z.getD m F6)⟩:Ot)]),[(4,11)],⟨jM,λv F=>by
     rcases cR.1 F with F|F
     ·exact L v F
     ·rw[bV.1 F];show(0:Int)≠1;decide,by dsimp only;rw[bD,cD];omega⟩,jM,rfl,rfl,rfl,rfl,rfl,nV,⟨eN.refl (gW s P (LK st y.2 (ju t y.1 k (st.step+1) (j+1))) 8 11),eN.refl (sA (w++[(⟨0,k,y.1.getD j 0,nfI (z.getD m F6)⟩:Ot)]))⟩⟩
   have f:=iT f;have f:(z.length:Int)<=m:=f;obtain rfl:m=z.length:=J
   exact⟨(j+1,w),[(5,8)],⟨jM,L,jM⟩,jM,rfl,rfl,rfl,rfl,rfl,nV,⟨eN.refl (gW s P (LK st y.2 (ju t y.1 k (st.step+1) (j+1))) 8 4),eN.refl (sA w),eN.refl (x9 (ju t y.1 k (st.step+1) (j+1)))⟩⟩
  have f:=iT f;have f:(y.1.length:Int)<=j:=f;obtain rfl:j=y.1.length:=J
  have M:=Fy t y.1 k (st.step+1) (j:=y.1.length) J;exact⟨(k+1,y.2,ju t y.1 k (st.step+1) y.1.length,g),[],⟨jM,by dsimp only;rw[TG];exact D.go U,⟨by show y.2.length+(ju t y.1 k (st.step+1) y.1.length).length=_;rw[M];omega,G,by show g.length<=(ju t y.1 k (st.step+1) y.1.length).length*1000;rw[M];exact N⟩⟩,jM,rfl,rfl,rfl,rfl,rfl,nV,⟨eN.refl (gW s P (LK st y.2 (ju t y.1 k (st.step+1) y.1.length)) 5 4),eN.refl (sA g),eN.refl (x9 (ju t y.1 k (st.step+1) y.1.length))⟩⟩
 have f:=iT f;have f:(P.length:Int)<=k:=f;obtain rfl:k=P.length:=J
 have a5:o.length<=(st.q.length+st.sent.length)*1000:=by have h8:o.length<=t.length*1000:=n.ol;omega
 exact⟨(LK st q t,o,0),[(0,0),(1,1)],⟨⟨λ_=>a8,λ_=>rfl⟩,λ_=>⟨D,rfl,n.ok,a5⟩⟩,⟨nY,⟨⟨rfl,rfl,rfl,eN.refl (gE s P (LK st q t) o)⟩,nS,trivial⟩,rfl⟩,rfl,λh=>jC⟩
theorem MF (s:Stp0) (P:List Pf_q0) (a:SOk s P) (us:List (List Bool)) (n:Nat) (f:n<=16) (g0:Sta_q0) (o0:List Ot) (st:Sta_q0) (h:GI s P us n st) (i:Inp) (hfs:i.raw.fs.length<2^62) (hup:i.up.length<2^62):
  cM 24 true [gE s P g0 o0] [.p 0 0,.ag st.av,.ag i.av] (TkZ s P st i) (λz=>[gE s P z.1.1 z.1.2]) (λ_=>[]) (λz=> .tup [.ag z.2.1.av,z.2.2.1,.I z.2.2.2]):=by
 by_cases c:i.k=9
 ·have hl:=a.l;have x:=h.sml f hl.2;have H:=h.gok a f;have hf:=h.fit a f;have j:=h.q;have w:0<=st.step/\st.step<1073741824:=by have:=j.step;have:=h.ul;omega
  by_cases hb:H4 P i=true
  ·exact mX
  have hb:H4 P i=false:=by simpa using hb
  have t:=Wg hb;refine(LN s P g0 o0 st hf i hfs hup (λh=>oc h) (λy=>(y.2.2=0↔i.up.length=P.length)/\(y.2.2=0->TikR P st i.up y.1 y.2.1)) (λ_=>by
   rw[c];exact ME s P a.p J us st H x j w i (by have:=aE2 t c;omega))).less λz hz=>⟨z,jv hl.1 (λy g e=> .tick c t (g.1.1 e) (g.2 e)) (λy g e _ h=>e (g.1.2 h)) z hz,rfl,rfl,rfl⟩
 ·exact MD s P a us n f g0 o0 st h i hfs hup c
theorem TR (s:Stp0) (P:List Pf_q0) (l:SOk s P) (us:List (List Bool)) (n:Nat) (k:n<=16) (c:Sta_q0) (e:List Ot) (st:Sta_q0) (h:GI s P us n st) (i:Inp) (f:i.raw.fs.length<2^62) (g:i.up.length<2^62):
  cM 24 true [gE s P c e] [.p 0 0,.ag st.av,.ag i.av] (λz:(Sta_q0×List Ot)×Sta_q0×List Ot×Int=>TakeR s P st i z.2.1 z.2.2.1) (λz=>[gE s P z.1.1 z.1.2]) (λ_=>[]) (λz=> .tup [.ag z.2.1.av,.rs 14 z.2.2.1.length (Bg z.2.2.1),.I z.2.2.2]):=
 tC.lessR (MF s P l us n k c e st h i f g) λy q=>by
  obtain⟨o,j,a⟩:=q;refine⟨(y.1,y.2.1,o,y.2.2.2),j,rfl,rfl,.tup ⟨.refl _,?_,.refl _,trivial⟩⟩;rcases a with a|⟨a,rfl⟩
  ·rw[a];exact .refl _
  ·rw[a];exact .nil _ _
def Sy (i:Inp):Bool:=((decide ((i.raw.x.size:Int)<=200)&&decide ((i.raw.fs.length:Int)<=6))&&decide ((i.up.length:Int)<=20))
theorem aAi (i:Inp):cC 21 [.ag i.av] [] (.b (Sy i)):=by refine hZ Tryz.func21 [.tmp 2] [] ?_;exact RetIs.b rfl
structure FewOk (s:Stp0) (l:List Inp):Prop where
 n:s.nets.length<=4
 x: ∀j,j<s.nets.length->(s.nets.getD j gB).size<=400
 c:s.cl.length<=6
 g:s.gr.length<=8
 p:s.pup.length<=6
 l14:l.length<=14
 i: ∀j,j<l.length->Sy (l.getD j H3)=true
theorem FewOk.fit {s:Stp0} {l:List Inp} (h:FewOk s l):s.fit:=by have f:=h.n;have q:=h.c;have t:=h.g;have w:=h.p;refine⟨J,J,J,J,λx e=> ?_⟩;obtain⟨j,a,rfl⟩:=cU e;have:=h.x j a;rw[show s.nets.getD j gB=s.nets[j] by simp[List.getD,a]] at this;omega
theorem CJ (s:Stp0) (l:List Inp):cM 5 false [] [.ag s.av,.rs 35 l.length (ZF l),.I 14] (λb:Bool=>b=true->FewOk s l) (λ_=>[]) (λ_=>[]) (λb=> .b b):=by
 refine sE Tryz.func5 [.tmp 6] [] ?_
 repeat apply jL
 refine⟨[],Nat,λk=>(k<=s.nets.length/\k<=5)/\ ∀j,j<k->(s.nets.getD j gB).size<=400,λk=>[⟨7,[],.I k⟩],λ_=>[],λk=>s.nets.length-k,
  ⟨0,[],⟨⟨bI _,bI _⟩,λj hj=>absurd hj (dU j)⟩,rfl,rfl,rfl,rfl,rfl,nT,trivial⟩,?_⟩
 rintro k ⟨⟨t,n⟩,x⟩;have t:k<=s.nets.length:=t;have n:k<=5:=n;refine .inl ⟨λc=> ?_,λc=> ?_⟩
 ·have c:(decide ((k:Int)<s.nets.length)&&decide ((k:Int)<5))=true:=c;rw[aW,aM,aM] at c;have f:(k:Int).toNat=k:=aQ k
  repeat apply jL
  refine⟨⟨J,J⟩,?_⟩
  repeat apply jL
  refine⟨λh=> ?_,λh=> ?_⟩
  ·exact nH
  have h:=sU h;have h: ¬(((s.nets.getD (k:Int).toNat gB).size:Int)>400):=h;rw[f] at h;refine⟨k+1,[],⟨⟨J,J⟩,λj hj=> ?_⟩,jM,rfl,rfl,rfl,rfl,rfl,nV,trivial⟩;by_cases e:j=k
  ·rw[e];omega
  ·exact x j J
 have c:(decide ((k:Int)<s.nets.length)&&decide ((k:Int)<5))=false:=c;rw[iZ,bH,bH] at c
 repeat apply jL
 refine⟨[],Nat,λk=>k<=l.length/\ ∀j,j<k->Sy (l.getD j H3)=true,λk=>[⟨8,[],.I k⟩],λ_=>[],λk=>l.length-k,
  nc,?_⟩
 rintro m ⟨w,q⟩;have w:m<=l.length:=w;refine .inl ⟨λc=> ?_,λg=> ?_⟩
 ·have c:(decide ((m:Int)<l.length)&&decide ((m:Int)<=14))=true:=c;rw[aW,aM,aM] at c;have f:(m:Int).toNat=m:=aQ m
  repeat apply jL
  refine⟨⟨J,J⟩,?_⟩
  repeat apply jL
  refine⟨_,_,aAi (l.getD (m:Int).toNat H3),?_⟩
  repeat apply jL
  refine⟨λh=> ?_,λh=> ?_⟩
  ·exact nH
  have h:(!Sy (l.getD (m:Int).toNat H3))=false:=h;rw[f,hV] at h;refine⟨m+1,[],⟨J,λj hj=> ?_⟩,jM,rfl,rfl,rfl,rfl,rfl,nV,trivial⟩;by_cases e:j=m
  ·rw[e];exact h
  ·exact q j J
 have g:(decide ((m:Int)<l.length)&&decide ((m:Int)<=14))=false:=g;rw[iZ,bH,bH] at g;refine⟨((((decide ((s.nets.length:Int)<=4)&&decide ((s.cl.length:Int)<=6))&&decide ((s.gr.length:Int)<=8))&&decide ((s.pup.length:Int)<=6))&&decide ((l.length:Int)<=14)),[],λh=> ?_,⟨nU,trivial,rfl⟩,rfl,λ_=>⟨rfl,trivial⟩⟩;simp only[aW,aM] at h;obtain⟨⟨⟨⟨z,A⟩,C⟩,D⟩,E⟩:=h;exact⟨J,λj hj=>x j J,J,J,J,J,λj hj=>q j J⟩
def NF (s:Stp0) (i:Inp):Bool:=(i.k==9&&sI i)&&decide ((i.up.length:Int)=s.nets.length)
def wY (s:Stp0) (l:List Inp) (n:Nat):List Bool:=(l.filter (NF s)).map λi=>i.up.getD n false
theorem Fz (s:Stp0) (l:List Inp) (n:Nat):(wY s l n).length<=l.length:=by unfold wY;rw[fC];exact gC _ _
theorem MG (s:Stp0) (l:List Inp) (n:Nat) {k:Nat} (a:k<l.length) (h:NF s (l.getD k H3)=true):wY s (l.take (k+1)) n=wY s (l.take k) n++[(l.getD k H3).up.getD n false]:=by
 have e:l.getD k H3=l[k]:=by simp[List.getD,a]
 rw[e] at h|-;unfold wY;rw[bS a,gS,fJ];simp[h]
theorem TS (s:Stp0) (l:List Inp) (n:Nat) {k:Nat} (a:k<l.length) (h:NF s (l.getD k H3)=false):wY s (l.take (k+1)) n=wY s (l.take k) n:=by
 have e:l.getD k H3=l[k]:=by simp[List.getD,a]
 rw[e] at h;unfold wY;rw[bS a,gS];simp[h]
theorem aAj (l:List Bool) (b:Bool):eN (.row 4 1 (l++[b]).length (Qi (l++[b]))) (.row 4 1 (l.length+1) (iJ l.length (Qi l) (kJ 1 [.b b]))):=⟨rfl,rfl,jS,λq c=>by
 have c:q<(l++[b]).length:=c;rw[bD,cD] at c;unfold iJ Qi;rw[zv];by_cases a:q<l.length
 ·rw[aE a,aE a]
 ·obtain rfl:q=l.length:=J
  rw[aB a,aB a,aE rfl,iG];rfl⟩
theorem MH (s:Stp0) (l:List Inp) (K:l.length<1000) (F: ∀j,j<l.length->Sy (l.getD j H3)=true) (n:Nat) (L:n<s.nets.length):cM 10 false [] [.ag s.av,.rs 35 l.length (ZF l),.I n] (λ_:Unit=>True) (λ_=>[]) (λ_=>[.row 4 1 (wY s l n).length (Qi (wY s l n))]) (λ_=> .so 0):=by
 refine sE Tryz.func10 [.tmp 6] [] ?_
 repeat apply jL
 refine⟨[(7,4,1)],Nat,λk=>k<=l.length,λk=>[⟨8,[],.I k⟩,⟨7,[],.so 1⟩],λk=>[⟨1,[],.row 4 1 (wY s (l.take k) n).length (Qi (wY s (l.take k) n))⟩],λk=>l.length-k,
  np,?_⟩
 intro k C;have C:k<=l.length:=C;refine .inl ⟨λf=> ?_,λf=> ?_⟩
 ·have f:=pH f;have f:(k:Int)<l.length:=f;have g:(k:Int).toNat=k:=aQ k;have t:k<l.length:=J
  have x:=F k t;have G:=Fz s (l.take k) n;have H:(l.take k).length=k:=jO
  repeat apply jL
  refine⟨⟨J,J⟩,?_⟩;have z:(l.getD (k:Int).toNat H3).raw.fs.length<2^62/\(l.getD (k:Int).toNat H3).up.length<2^62:=by rw[g];unfold Sy at x;simp only[aW,aM] at x;omega
  repeat apply jL
  refine⟨[],_,λ_=>aI4 (l.getD (k:Int).toNat H3) z.1 z.2,?_⟩
  repeat apply jL
  refine jB (NF s (l.getD (k:Int).toNat H3)) (λh=> ?_) λh=> ?_
  ·rw[g] at h;have D:=MG s l n t h;have M:((l.getD k H3).up.length:Int)=s.nets.length:=by unfold NF at h;simp only[aW,aM] at h;exact h.2
   refine⟨⟨J,by rw[g];omega⟩,oJ J,?_⟩;refine⟨k+1,[(1,4)],J,jM,rfl,rfl,rfl,rfl,rfl,⟨nV,rfl⟩,?_⟩;have w:eN (.row 4 1 (wY s (l.take (k+1)) n).length (Qi (wY s (l.take (k+1)) n))) (.row 4 1 ((wY s (l.take k) n).length+1) (iJ (wY s (l.take k) n).length (Qi (wY s (l.take k) n)) (kJ 1 [.b ((l.getD (k:Int).toNat H3).up.getD (n:Int).toNat false)]))):=by rw[D];exact aAj _ _
   exact w
  rw[g] at h;have E:=TS s l n t h;refine⟨k+1,[],J,jM,rfl,rfl,rfl,rfl,rfl,⟨nV,rfl⟩,?_⟩;have w:eN (.row 4 1 (wY s (l.take (k+1)) n).length (Qi (wY s (l.take (k+1)) n))) (.row 4 1 (wY s (l.take k) n).length (Qi (wY s (l.take k) n))):=by rw[E];exact eN.refl _
  exact w
 ·have f:=iT f;have f:(l.length:Int)<=k:=f;obtain rfl:k=l.length:=J
  rw[eJ];exact⟨(),[(0,1)],trivial,qM,rfl,λ_=>q6⟩
theorem Sz {s:Stp0} {l:List Inp} (e:FewOk s l) (f:rZ s=true):SOk s (pI s):=by
 unfold rZ Vv at f;rw[aW,dQ,bT,bT,bT,bH,hV,fU] at f;obtain⟨⟨⟨⟨A,_⟩,a⟩,_⟩,z⟩:=f;have K:=(RL a).1;have H:(pI s).length=s.nets.length:=by unfold pI;simp
 have C:=e.n;have D:=e.p;have E:=e.g;have F:=e.c;refine⟨λp q=> ?_,J,J,J,J,λx j=> ?_,J⟩
 ·unfold pI at q;obtain⟨x,j,rfl⟩:=fL.1 q;have h:=z x j;unfold RP at h;rw[aW,cH,cH] at h;have G:=l2 h.2;exact⟨⟨J,J⟩,B3 x,h.2⟩
 ·unfold vg at a;rw[aW,fU] at a;have:=a.2 x j;unfold Aq wi at this;simp at this;show(decide (IntKind.i64.min<=x.per)&&decide (x.per<=IntKind.i64.max))=true;have t:IntKind.i64.min= -9223372036854775808:=jD
  have w:IntKind.i64.max=9223372036854775807:=jD
  rw[t,w,aW,aM,aM];omega
def VS (P:List Pf_q0) (l:List Inp):List (List Bool):=l.foldl (MC P) []
def P5 (O:List (List Ot)):Nat:=(O.map V9).sum
structure AllR (s:Stp0) (l:List Inp) (k:Nat) (st:Sta_q0) (O:List (List Ot)):Prop where
 gi:GI s (pI s) (VS (pI s) (l.take k)) k st
 len:O.length=k
 cnt:P5 O=st.ref.length
 sz: ∀o∈O,o.length<=2000000
theorem TT {s:Stp0} {P:List Pf_q0} {st f:Sta_q0} {i:Inp} {o:List Ot} (a:Sml st) (x:P.length<=4) (h:TakeR s P st i f o):o.length<=2000000:=by
 cases h with
 |err=>exact bI _
 |tick _ _ _ h=>have:=h.ol;have:=a.q;have:=a.t;omega
 |raw _ h=>
  cases h with
  |pup=>exact bI _
  |ev e z q r o j l n w g=>
   unfold xx;rw[fC];have: ∀{k:Nat} {q:List Wt} {r:List Dbt} {o:List Int},Spr P s.wait st.step st.ev.length st.q st.ref k q r o->o.length<=k:=by
    intro k q r o h
    induction h with
    |nil=>exact bI _
    |skip _ c=>omega
    |put _ _ c=>omega
    |ref _ c=>simp;omega
   have:=this g;omega
 |lift L _ _ h=>have:=h.ol;omega
 |order _ _ _ h=>have:=h.ol;omega
 |oth=>exact bI _
theorem aAk (s:Stp0) (P:List Pf_q0) (c:P.length=s.nets.length):GI s P [] 0 (Rn s.nets.length):=by
 refine⟨⟨rfl,λw j=>(by cases j),λn _=>⟨0,bI _,λx a=>(by cases a)⟩,.nil,λx a=>(by cases a),λx a=>(by cases a)⟩,.nil,Vl,⟨by show(0:Nat)<1000000;decide,λe g=>(by cases g)⟩,aG _,aG _,bI _,aG _,aG _,?_,λx a=> ?_,aG _,aG _,aG _,λo h=>(by cases h),aG _,aG _,λd f=>(by cases f),λk=>⟨kR 0,kR 0⟩⟩
 ·unfold Rn;rw[xT,c]
 ·rw[List.eq_of_mem_replicate a];exact aG _
theorem MI {s:Stp0} {l:List Inp} {k:Nat} {st f:Sta_q0} {O:List (List Ot)} {o:List Ot} (q:FewOk s l) (c:SOk s (pI s)) (n:k<l.length) (h:AllR s l k st O) (g:TakeR s (pI s) st (l.getD k H3) f o):AllR s l (k+1) f (O++[o]):=by
 have w:=q.l14;have j:=TQ h.gi (λp t=>(c.p p t).2.2) (by have:=c.l;omega) J g;have e:VS (pI s) (l.take (k+1))=MC (pI s) (VS (pI s) (l.take k)) (l.getD k H3):=by unfold VS;rw[bS n,iQ];simp[List.getD,n]
 refine⟨by rw[e];exact j.1,by rw[bD,h.len];rfl,?_,λx a=> ?_⟩
 ·have:=h.cnt;unfold P5 at this|-;rw[fJ,vC,this,<-j.2];simp
 ·rcases cR.1 a with a|a
  ·exact h.sz x a
  ·rw[bV.1 a];exact TT (h.gi.sml J c.l.2) c.l.2 g
def rOs (L:List (List Ot)) (k:Nat):List AV:=[.rs 14 (L.getD k []).length (Bg (L.getD k []))]
abbrev Wy (L:List (List Ot)):AO:= .row 48 1 L.length (rOs L)
theorem aAl (L:List (List Ot)) (o:List Ot):eN (Wy (L++[o])) (.row 48 1 (L.length+1) (iJ L.length (rOs L) (kJ 1 [.rs 14 o.length (Bg o)]))):=⟨rfl,rfl,jS,λq c=>by
 have c:q<(L++[o]).length:=c;rw[bD,cD] at c;unfold iJ rOs;rw[zv];by_cases a:q<L.length
 ·rw[aE a,aE a]
 ·obtain rfl:q=L.length:=J
  rw[aB a,aB a,aE rfl,iG];rfl⟩
theorem aE7 (s:Stp0):eN (gE s (pI s) (Rn 0) []) (gO s (pI s)):=by
 refine⟨rfl,eV.refl _,eV.refl _,eV.refl _,eV.refl _,eV.refl _,eV.refl _,eV.refl _,eV.refl _,eV.refl _,eV.refl _,eV.refl _,?_⟩
 repeat' first|exact rfl|exact trivial|apply hY
theorem aE8 {a:Int} (h:((0:Int) !=0|| !true||decide (a>50000))=true):a>50000:=jH
theorem TU (s:Stp0) (F:s.fit) (l:List Inp) (f:FewOk s l) (j:rZ s=true):cM 6 true [] [.ag s.av,.rs 35 l.length (ZF l)] (λy:Sta_q0×List (List Ot)=>AllR s l l.length y.1 y.2) (λ_=>[]) (λy=>[Wy y.2]) (λy=> .tup [.ag y.1.av,.so 0,.I 0]):=by
 refine sE Tryz.func6 [.cell 4 43,.tmp 5,.tmp 6] [] ?_;have A:=Sz f j;have P:=f.l14;have N:=f.n;have H:(pI s).length=s.nets.length:=by unfold pI;simp
 refine aN (eX ?_);refine⟨_,JA s F j J,?_⟩;refine aN (aN ?_);refine⟨true,[],rfl,Unit,_,_,_,_,As s F j,λ_ _=> ?_⟩
 repeat apply jL
 repeat apply jL
 refine⟨λh=> ?_,λh=> ?_⟩
 ·have h:=aE8 h;omega
 repeat apply jL
 refine⟨[(11,48,1)],Nat×Sta_q0×(Sta_q0×List Ot)×List (List Ot),λx=>x.1<=l.length/\AllR s l x.1 x.2.1 x.2.2.2,λx=>[⟨41,[],.I x.1⟩,⟨11,[],.so 4⟩],λx=>[⟨2,[],.cells 43 x.2.1.av⟩,⟨3,[],gE s (pI s) x.2.2.1.1 x.2.2.1.2⟩,⟨4,[],Wy x.2.2.2⟩],λx=>l.length-x.1,
  ⟨(0,Rn s.nets.length,(Rn 0,[]),[]),[],⟨bI _,⟨aAk s _ H,rfl,rfl,λx K=>(by cases K)⟩⟩,rfl,rfl,rfl,rfl,rfl,⟨nT,rfl⟩,⟨eN.refl _,aE7 s,nX⟩⟩,?_⟩
 rintro⟨k,st,g,O⟩ ⟨E,e⟩;have E:k<=l.length:=E;have e:AllR s l k st O:=e;refine .inl ⟨λc=> ?_,λc=> ?_⟩
 ·have c:=pH c;have c:(k:Int)<l.length:=c;have w:(k:Int).toNat=k:=aQ k
  repeat apply jL
  refine⟨⟨J,J⟩,?_⟩;have t:=f.i k J;have D:(l.getD (k:Int).toNat H3).raw.fs.length<2^62/\(l.getD (k:Int).toNat H3).up.length<2^62:=by rw[w];unfold Sy at t;simp only[aW,aM] at t;omega
  refine aN (aN ?_);refine⟨true,[3],rfl,((Sta_q0×List Ot)×Sta_q0×List Ot×Int),_,_,_,_,TR s (pI s) A (VS (pI s) (l.take k)) k J g.1 g.2 st e.gi (l.getD (k:Int).toNat H3) D.1 D.2,λz L=> ?_⟩;have C:TakeR s (pI s) st (l.getD (k:Int).toNat H3) z.2.1 z.2.2.1:=L;rw[w] at C;have G:=MI f A J e C;have M:=e.len
  repeat apply jL
  refine⟨oJ jM,?_⟩;exact⟨(k+1,z.2.1,z.1,O++[z.2.2.1]),[(4,8)],⟨jM,G⟩,jM,rfl,rfl,rfl,rfl,rfl,⟨nV,rfl⟩,⟨eN.refl _,eN.refl (gE s (pI s) z.1.1 z.1.2),aAl _ _⟩⟩
 have c:=iT c;have c:(l.length:Int)<=k:=c;obtain rfl:k=l.length:=J
 exact⟨(st,O),[(0,4)],e,⟨nU,⟨⟨rfl,rfl,trivial,eN.refl (Wy O)⟩,trivial⟩,rfl⟩,rfl,λh=>jC⟩
theorem MJ (s:Stp0) (c:s.fit) (h:rZ s=false):cA 22 [.ag s.av] (.tup [.ag st0,.I 1]):=by
 refine MX Tryz.func22 [.cell 2 43,.tmp 3] [] ?_;refine eX (aN (aN ?_));refine⟨true,[],rfl,Unit,_,_,_,_,Lh s c h,λ_ _=> ?_⟩
 exact mE
theorem aAm (s:Stp0) (c:s.fit) (l:List Inp) (h:rZ s=false):cA 6 [.ag s.av,.rs 35 l.length (ZF l)] (.tup [.ag st0,kV,.I 1]):=by
 refine MX Tryz.func6 [.cell 4 43,.tmp 5,.tmp 6] [] ?_;refine aN (eX ?_);refine⟨_,MJ s c h,?_⟩;refine aN (aN ?_);refine⟨true,[],rfl,Unit,_,_,_,_,Lh s c h,λ_ _=> ?_⟩
 exact mE
theorem TV (P:List Pf_q0) (s:Stp0) (g:P.length=s.nets.length) (l:List Inp):VS P l=(l.filter (NF s)).map (·.up):=by
 have h: ∀(l:List Inp) (a:List (List Bool)),l.foldl (MC P) a=a++(l.filter (NF s)).map (·.up):=by
  intro l
  induction l with
  |nil=>intro a;simp
  |cons i r f=>
   intro a;rw[gK,f];unfold MC;by_cases h:NF s i=true
   ·have c:=h;unfold NF at c;simp only[aW,aM,cH] at c;rw[aE ⟨c.1.1,c.1.2,J⟩,oW h];simp
   ·rw[aB λc=>h (by unfold NF;simp only[aW,aM,cH];exact⟨⟨c.1,c.2.1⟩,J⟩),oV h]
 have e:=h l [];rw[vF] at e;exact e
theorem Ga (P:List Pf_q0) (s:Stp0) (a:P.length=s.nets.length) (l:List Inp) (n:Nat):fa (VS P l) n=wY s l n:=by unfold fa wY;rw[TV P s a,pK];rfl
def aAn (s:Stp0) (n:Int):ByteArray:=s.nets.getD n.toNat gB
structure Delv (s:Stp0) (l:List Inp) (st:Sta_q0):Prop where
 sent: ∀i,i<st.sent.length->(0<=(st.sent.getD i oK).e/\(st.sent.getD i oK).e<st.ev.length)/\(0<=(st.sent.getD i oK).n/\(st.sent.getD i oK).n<s.nets.length)/\
  (xF (yE (aAn s (st.sent.getD i oK).n)) (wY s l (st.sent.getD i oK).n.toNat)=true->(st.sent.getD i oK).s<=(st.ev.getD (st.sent.getD i oK).e.toNat dE).st+s.wait)
 q: ∀i,i<st.q.length->(0<=(st.q.getD i dW).n/\(st.q.getD i dW).n<s.nets.length)/\(xF (yE (aAn s (st.q.getD i dW).n)) (wY s l (st.q.getD i dW).n.toNat)=true->st.step<(st.q.getD i dW).d)
 ss: ∀i j,i<j->j<st.sent.length-> ¬((st.sent.getD i oK).e=(st.sent.getD j oK).e/\(st.sent.getD i oK).n=(st.sent.getD j oK).n)
 rs: ∀i j,i<st.ref.length->j<st.sent.length-> ¬((st.ref.getD i pO).e=(st.sent.getD j oK).e/\(st.ref.getD i pO).n=(st.sent.getD j oK).n)
 qs: ∀i j,i<st.q.length->j<st.sent.length-> ¬((st.q.getD i dW).e=(st.sent.getD j oK).e/\(st.q.getD i dW).n=(st.sent.getD j oK).n)
 rq: ∀i j,i<st.ref.length->j<st.q.length-> ¬((st.ref.getD i pO).e=(st.q.getD j dW).e/\(st.ref.getD i pO).n=(st.q.getD j dW).n)
 es: ∀k,0<=(st.ev.getD k dE).st/\(st.ev.getD k dE).st<=1000
theorem aGc {s:Stp0} {l:List Inp} {st:Sta_q0} {O:List (List Ot)} (M:FewOk s l) (W:rZ s=true) (h:AllR s l l.length st O):Delv s l st:=by
 have hS:=Sz M W;have D:(pI s).length=s.nets.length:=by unfold pI;simp
 have C:=h.gi;rw[eJ] at C;have A:=C.q;have hl:=M.l14;have K: ∀n:Int,0<=n->n<s.nets.length->(pI s).getD n.toNat wV=yE (aAn s n):=λn h0 h1=>Ar J;have H:=A.nd;rw[iI,iI] at H;obtain⟨nq,⟨nb,Q,S⟩,L⟩:=H;have P: ∀i,i<st.q.length->((st.q.getD i dW).e,(st.q.getD i dW).n)∈kq st.q:=λi g=>uY (f:=λw:Wt=>(w.e,w.n)) (vM g);have mb: ∀i,i<st.ref.length->((st.ref.getD i pO).e,(st.ref.getD i pO).n)∈kb st.ref:=λi g=>uY (f:=λw:Dbt=>(w.e,w.n)) (vM g);have mt: ∀i,i<st.sent.length->((st.sent.getD i oK).e,(st.sent.getD i oK).n)∈kt st.sent:=λi g=>uY (f:=λw:Snt=>(w.e,w.n)) (vM g);refine⟨λi g=> ?_,λi g=> ?_,λi j R z t=> ?_,λi j g z t=> ?_,λi j g z t=> ?_,λi j g z t=> ?_,λk=> ?_⟩
 ·obtain⟨a,b,c,d,e⟩:=A.sent _ (vM (d:=oK) g);refine⟨⟨a,b⟩,⟨c,J⟩,λU=>e ?_⟩;rw[K _ c J,Ga _ s D];exact(uh U).2
 ·obtain⟨a,b,c,d⟩:=A.q _ (vM (d:=dW) g);have F:=Sq a;refine⟨⟨F.2.2.1,J⟩,λU=> ?_⟩;have N:=uh U;have E:=l2 N.1;have G:=A.inv (st.q.getD i dW).n.toNat J;rw[K _ F.2.2.1 J,Ga _ s D,uX F.2.2.1] at G;have:=G.late E.2.2.2.2.1 E.2.2.2.2.2.2.1 E.2.2.2.2.2.2.2.1 N.2 (λx Y=>(Sq (A.q x Y).1).2.2.2.2.1) (vM g) rfl;rw[A.step,<-wk (VS (pI s) l) (st.q.getD i dW).n.toNat,Ga _ s D];exact this
 ·unfold kt at Q;have:=gN.1 Q i j jO jO R;rw[xE (show i<st.sent.length by omega),xE z] at t;simp[t.1,t.2] at this
 ·exact S _ (mb i g) _ (mt j z) (zN t.1 t.2)
 ·exact L _ (P i g) _ (tL _ (mt j z)) (zN t.1 t.2)
 ·exact L _ (P j z) _ (iE _ (mb i g)) (zN t.1.symm t.2.symm)
 ·have:=C.es k;have:=C.ul;omega
end Go.Proofs.YtpnjmojpeaegoaaGreatDoor
namespace Go.Proofs.YtpnjmojpeaegoaaGreatDoor
open Go.Eng
abbrev MK (n b:Int):AO:= .cells 151 [.I 2,.I n,.I b]
theorem TW:cM 13 true [] [.I 2] (λ_:Unit=>True) (λ_=>[]) (λ_=>[MK 0 0]) (λ_=> .tup [.p 0 0,.I 0]):=by
 refine sE Tryz.func13 [.tmp 2,.tmp 3] [] ?_
 exact mA
theorem Wz (n b:Int):cC 20 [.rp [.I 2,.I n,.I b]] [] (.I (IntKind.i64.wrap (n-b))):=by refine hZ Tryz.func20 [.tmp 2] [] ?_;exact RetIs.i rfl
theorem TX:cM 16 true [MK 0 0] [.p 0 0] (λ_:Unit=>True) (λ_=>[MK 1 0]) (λ_=>[]) (λ_=> .tup [.I 0,.I 0]):=by
 refine sE Tryz.func16 [.tmp 2,.tmp 3] [] ?_
 refine jb (Wz 0 0) ?_
 exact mA
theorem aAo:cM 19 true [MK 1 0] [.p 0 0,.I 1] (λ_:Unit=>True) (λ_=>[MK 1 1]) (λ_=>[]) (λ_=> .I 0):=by
 refine sE Tryz.func19 [.tmp 4] [] ?_
 repeat apply jL
 refine⟨λh=> ?_,λh=> ?_⟩
 ·cases h
 ·exact⟨(),[(0,0)],trivial,⟨nY,⟨qL,trivial⟩,rfl⟩,rfl,λh=>jC⟩
abbrev aE9 (n:Int):AO:= .cells 154 [.I 2,.I n,.mo 1]
abbrev aEa (L:List (Int×Bool)):AO:=Dc (λa:Int=>AV.I a) (λb:Bool=>AV.b b) ((0:Int),false) L
theorem TY:cM 14 true [] [.I 2] (λ_:Unit=>True) (λ_=>[]) (λ_=>[aE9 0,aEa []]) (λ_=> .tup [.p 0 0,.I 0]):=by
 refine sE Tryz.func14 [.tmp 2,.tmp 3] [] ?_
 repeat apply jL
 refine⟨λh=> ?_,λh=> ?_⟩
 ·cases h
 ·exact⟨(),[(0,1),(1,0)],trivial,⟨nU,⟨qL,⟨rfl,rfl,trivial,⟨rfl,rfl,λi c=>absurd c (dU i)⟩⟩,trivial⟩,rfl⟩,rfl,λh=>jC⟩
theorem wm: ∀a b:Int,AV.I a=AV.I b->a=b:=λa b h=>by injection h
theorem ML:cM 17 true [aE9 0,aEa []] [.p 0 0,.I 0] (λ_:Unit=>True) (λ_=>[.dead,.dead]) (λ_=>[.row 3 1 1 (rI [0])]) (λ_=> .tup [.so 2,.I 1]):=by
 refine sE Tryz.func17 [.tmp 4,.tmp 5] [(888888,[.own 3])] ?_
 repeat apply jL
 refine⟨λh=> ?_,λh=> ?_⟩
 ·cases h
 have j:=lJ (L:=[]) (d:=((0:Int),false)) (vf:=λb=>AV.b b) wm 0 true;refine⟨_,_,_,_,_,⟨λ_ _=>rfl,rfl,j⟩,?_⟩;have f:=lK (L:=[((0:Int),true)]) (d:=((0:Int),false)) (vf:=λb=>AV.b b) wm 0 false
 repeat apply jL
 refine⟨_,_,⟨λ_ _=>rfl,rfl,f⟩,?_⟩
 repeat apply jL
 refine⟨λn=> ?_,λn=> ?_⟩
 ·obtain⟨l,e⟩:=D8 (L:=[((0:Int),true)]) (kf:=λa:Int=>AV.I a) (vf:=λb:Bool=>AV.b b) (d:=((0:Int),false)) (born:=λi=>i) (k:=0) rfl;refine⟨_,_,_,_,⟨λ_ _=>rfl,rfl,e⟩,?_⟩;refine⟨oJ J,?_⟩;have g:=lK (L:=([]:List (Int×Bool))) (d:=((0:Int),false)) (vf:=λb=>AV.b b) wm 1 false
  repeat apply jL
  refine⟨_,_,⟨λ_ _=>rfl,rfl,g⟩,?_⟩
  repeat apply jL
  refine⟨λt=> ?_,λt=> ?_⟩
  ·cases t
  ·exact⟨(),[(2,3)],trivial,⟨nU,⟨nS,nS,⟨rfl,rfl,trivial,⟨rfl,rfl,rfl,λq c=>by
    have c:q<1:=c;obtain rfl:q=0:=J
    rfl⟩⟩,trivial⟩,rfl⟩,rfl,λh=>jC⟩
 ·cases n
structure Brg where
 f:Int
 t:Int
 o:Bool
def Brg.av (b:Brg):List AV:=[.I b.f,.I b.t,.b b.o]
def TZ:Brg:=⟨0,0,false⟩
def aAp (l:List Brg) (k:Nat):List AV:=(l.getD k TZ).av
def brL:List Brg:=[⟨0,1,true⟩,⟨1,0,true⟩]
abbrev brV:AV:= .rs 3 2 (aAp brL)
theorem Ta (l:List Brg) (e:l.length<2^62) (a:FuncId) (c:List AV) (p:Brg->Bool) (hp: ∀x∈l,cC a [.ag x.av,.rp c] [] (.b (p x))):cC 177 [.rs 3 l.length (aAp l),.fn a [.rp c]] [] (.I (fx l.length λk=>p (l.getD k TZ))):=by
 refine hZ Tryz.func177 [.tmp 4] [] ?_
 let dq:=TZ
 exact m3
theorem Mr (l:List Brg) (e:l.length<2^62) (a:FuncId) (c:List AV) (p:Brg->Bool) (f: ∀x∈l,cC a [.ag x.av,.rp c] [] (.b (p x))):cC 93 [.rs 3 l.length (aAp l),.fn a [.rp c]] [] (.b (l.any p)):=by refine hZ Tryz.func93 [.tmp 4] [] ?_;exact .inl ⟨[],_,Ta l e a c p f,RetIs.b ((l3 _ _).trans (rL l TZ p))⟩
theorem Tc (b:Brg):cC 94 [.ag b.av,.rp [.I 2]] [] (.b (decide (min b.f b.t<0)||decide (max b.f b.t>=2))):=by refine hZ Tryz.func94 [.tmp 3] [] ?_;exact RetIs.b rfl
theorem CK:cC 53 [brV,.I 2] [] (.b true):=by
 refine hZ Tryz.func53 [.tmp 4] [] ?_
 repeat apply jL
 refine⟨[],_,λ_=>Mr brL jD 94 _ _ (λb _=>Tc b),?_⟩;exact RetIs.b rfl
theorem MM:cM 54 false [] [brV,.val (.slice none 0 0),.I 1,.I 0] (λ_:Unit=>True) (λ_=>[]) (λ_=>[]) (λ_=> .tup [.val (.slice none 0 0),.b false]):=by
 refine sE Tryz.func54 [.tmp 8,.tmp 9] [(888888,[.own 3])] ?_;refine⟨1,λ_=> .I 1,λ_=> .I (-1),λ_=>0,1,ns,?_⟩
 repeat apply jL
 refine⟨λh=> ?_,λh=> ?_⟩
 ·repeat apply jL
  refine⟨⟨jD,jD⟩,jD,?_⟩;refine⟨⟨jD,jD,jD⟩,?_⟩
  repeat apply jL
  refine⟨λf=> ?_,λf=> ?_⟩
  ·cases f
  repeat apply jL
  refine⟨λg=> ?_,λg=> ?_⟩
  ·cases g
  have e:k4 1 (λ_:Nat=>AV.I 1) (λ_=>AV.I (-1)) (.I 0) (.I 0) (.I 0) false:=⟨λh=>jC,λ_=>⟨λi hi c=>(by cases c),eV.refl _⟩⟩
  repeat apply jL
  refine⟨_,_,⟨λ_ _=>rfl,rfl,e⟩,?_⟩
  repeat apply jL
  refine⟨λl=> ?_,λl=> ?_⟩
  ·exact⟨(),[],trivial,⟨nU,trivial,rfl⟩,rfl,λ_=>⟨rfl,trivial⟩⟩
  ·cases l
 ·cases h
theorem UA (g:Nat->List AV):cM 95 true [.row 3 1 1 g] [.so 0] (λ_:Unit=>True) (λ_=>[.row 3 1 1 g]) (λ_=>[]) (λ_=> .tup []):=by
 refine sE Tryz.func95 [] [(888888,[.own 2])] ?_
 repeat apply jL
 refine⟨λh=> ?_,λh=> ?_⟩
 ·cases h
 ·exact⟨(),[(0,0)],trivial,qM,rfl,λh=>jC⟩
def by0:List (Int×Int):=[(0, -1)]
def by1:List (Int×Int):=[(0, -1),(1,0)]
theorem wn (L:List (Int×Int)) (k:Int):k4 L.length (λi=> .I (L.getD i (0,0)).1) (λi=> .I (L.getD i (0,0)).2) (.I k) (.I ((hU L k).getD 0)) (.I 0) (hU L k).isSome:=
 lK (L:=L) (d:=((0:Int),(0:Int))) (vf:=λb:Int=>AV.I b) wm k 0
theorem MN:cM 54 false [] [brV,.rs 1 1 (rI [0]),.I 0,.I 1] (λ_:Unit=>True) (λ_=>[]) (λ_=>[.row 3 1 1 (rI [0])]) (λ_=> .tup [.so 0,.b true]):=by
 refine sE Tryz.func54 [.tmp 8,.tmp 9] [(888888,[.own 4])] ?_;refine⟨1,λi=> .I (by0.getD i (0,0)).1,λi=> .I (by0.getD i (0,0)).2,λi=>i,1,ns,?_⟩
 repeat apply jL
 refine⟨λh=> ?_,λh=> ?_⟩
 ·repeat apply jL
  refine⟨⟨jD,jD⟩,jD,?_⟩;refine⟨⟨jD,jD,jD⟩,?_⟩
  repeat apply jL
  refine⟨λg=> ?_,λg=> ?_⟩
  ·repeat apply jL
   refine⟨⟨jD,jD⟩,?_⟩
   repeat apply jL
   refine⟨⟨jD,jD⟩,?_⟩
   repeat apply jL
   refine⟨_,_,⟨λ_ _=>rfl,rfl,wn by0 1⟩,?_⟩
   repeat apply jL
   refine⟨λl=> ?_,λl=> ?_⟩
   ·refine⟨_,_,_,_,_,⟨λ_ _=>rfl,rfl,lJ (L:=by0) (d:=((0:Int),(0:Int))) (vf:=λb:Int=>AV.I b) wm 1 0⟩,?_⟩;refine⟨oJ jD,?_⟩
    repeat apply jL
    refine⟨λe=> ?_,λe=> ?_⟩
    ·exact absurd e jD
    repeat apply jL
    refine⟨λn=> ?_,λn=> ?_⟩
    ·repeat apply jL
     refine⟨⟨jD,jD⟩,jD,?_⟩;refine⟨⟨jD,jD,jD⟩,?_⟩
     repeat apply jL
     refine⟨λt=> ?_,λt=> ?_⟩
     ·repeat apply jL
      refine⟨⟨jD,jD⟩,?_⟩
      repeat apply jL
      refine⟨⟨jD,jD⟩,?_⟩
      repeat apply jL
      refine⟨_,_,⟨λ_ _=>rfl,rfl,wn by1 1⟩,?_⟩
      repeat apply jL
      refine⟨λw=> ?_,λw=> ?_⟩
      ·exact absurd w jD
      repeat apply jL
      refine⟨λf=> ?_,λf=> ?_⟩
      ·exact absurd f jD
      repeat apply jL
      refine⟨λx=> ?_,λx=> ?_⟩
      ·exact absurd x jD
      repeat apply jL
      refine⟨_,_,⟨λ_ _=>rfl,rfl,wn by1 1⟩,?_⟩
      repeat apply jL
      refine⟨λz=> ?_,λz=> ?_⟩
      ·cases z
      repeat apply jL
      refine⟨λA=> ?_,λA=> ?_⟩
      ·repeat apply jL
       refine⟨_,_,⟨λ_ _=>rfl,rfl,wn by1 1⟩,?_⟩;refine⟨oJ jD,?_⟩
       repeat apply jL
       refine⟨_,_,⟨λ_ _=>rfl,rfl,wn by1 1⟩,?_⟩;refine⟨⟨jD,jD⟩,?_⟩
       repeat apply jL
       refine⟨λk2=> ?_,λk2=> ?_⟩
       ·exact absurd k2 jD
       refine aN (aN ?_);refine⟨true,[7],rfl,Unit,_,_,_,_,UA _,λ_ _=> ?_⟩;exact⟨(),[(0,7)],trivial,⟨nU,⟨⟨rfl,rfl,trivial,⟨rfl,rfl,rfl,λq c=>by
        have c:q<1:=c;obtain rfl:q=0:=J
        rfl⟩⟩,trivial⟩,rfl⟩,rfl,λ_=>q6⟩
      ·exact absurd A jD
     ·cases t
    ·cases n
   ·cases l
  ·cases g
 ·cases h
theorem MO:cM 55 false [] [brV,.rs 1 1 (rI [0]),.I 2] (λ_:List Int=>True) (λ_=>[]) (λy=>[.row 3 1 y.length (rI y)]) (λ_=> .so 0):=by
 refine sE Tryz.func55 [.tmp 6] [(888888,[.own 3])] ?_;refine⟨⟨rfl,jD,jD⟩,?_⟩
 repeat apply jL
 refine⟨λh=> ?_,λh=> ?_⟩
 rotate_left
 ·exact absurd h jD
 repeat apply jL
 refine⟨λe=> ?_,λe=> ?_⟩
 rotate_left
 ·exact absurd e jD
 repeat apply jL
 refine⟨⟨jD,jD⟩,?_⟩
 repeat apply jL
 refine⟨⟨jD,jD⟩,?_⟩;refine⟨⟨jD,jD⟩,jD,⟨jD,jD⟩,jD,⟨jD,jD⟩,jD,?_⟩
 repeat apply jL
 refine⟨λf=> ?_,λf=> ?_⟩
 ·exact absurd f jD
 repeat apply jL
 refine⟨λg=> ?_,λg=> ?_⟩
 rotate_left
 ·exact absurd g jD
 repeat apply jL
 refine⟨λj=> ?_,λj=> ?_⟩
 rotate_left
 ·exact absurd j jD
 repeat apply jL
 refine⟨⟨jD,jD⟩,?_⟩
 repeat apply jL
 refine⟨⟨jD,jD⟩,?_⟩;refine⟨⟨jD,jD⟩,jD,⟨jD,jD⟩,jD,⟨jD,jD⟩,jD,?_⟩
 repeat apply jL
 refine⟨λl=> ?_,λl=> ?_⟩
 ·exact absurd l jD
 repeat apply jL
 refine⟨λn=> ?_,λn=> ?_⟩
 ·exact absurd n jD
 exact⟨[0,1],[(0,0)],trivial,⟨nU,⟨⟨rfl,rfl,trivial,⟨rfl,rfl,rfl,λq c=>by
  have c:q<2:=c;rcases(by omega:q=0\/q=1) with rfl|rfl<;>rfl⟩⟩,trivial⟩,rfl⟩,rfl,λ_=>q6⟩
theorem Td:cM 15 false [] [brV,.I 2] (λ_:List Int=>True) (λ_=>[]) (λy=>[.row 3 1 1 (rI [1]),.row 3 1 y.length (rI y)]) (λ_=> .tup [.so 0,.so 1,.I 0]):=by
 refine sE Tryz.func15 [.tmp 4,.tmp 5,.tmp 6] [(888888,[.own 3]),(1000020,[.ex 4])] ?_
 refine jb CK ?_
 repeat apply jL
 refine⟨λh=> ?_,λh=> ?_⟩
 ·cases h
 repeat apply jL
 refine⟨λf=> ?_,λf=> ?_⟩
 rotate_left
 ·exact absurd f jD
 repeat apply jL
 refine⟨⟨jD,jD⟩,?_⟩
 repeat apply jL
 refine⟨λg=> ?_,λg=> ?_⟩
 rotate_left
 ·exact absurd g jD
 repeat apply jL
 refine⟨λj=> ?_,λj=> ?_⟩
 rotate_left
 ·exact absurd j jD
 repeat apply jL
 refine⟨⟨jD,jD⟩,?_⟩
 repeat apply jL
 refine⟨λl=> ?_,λl=> ?_⟩
 rotate_left
 ·exact absurd l jD
 repeat apply jL
 refine⟨λn=> ?_,λn=> ?_⟩
 ·exact absurd n jD
 repeat apply jL
 refine⟨λt=> ?_,λt=> ?_⟩
 rotate_left
 ·exact absurd t jD
 repeat apply jL
 refine⟨⟨jD,jD⟩,?_⟩
 repeat apply jL
 refine⟨λw=> ?_,λw=> ?_⟩
 ·exact absurd w jD
 refine aN (aN ?_);refine⟨false,[],rfl,Unit,_,_,_,_,MM,λ_ _=> ?_⟩
 repeat apply jL
 refine⟨λx=> ?_,λx=> ?_⟩
 ·cases x
 refine⟨oJ jD,?_⟩;refine kZ (.row 3 1 1 (rI [0])) (hY ⟨rfl,rfl,rfl,λq e=>by
  have e:q<1:=e;obtain rfl:q=0:=J
  rfl⟩ ?_)
 repeat apply jL
 refine⟨λz=> ?_,λz=> ?_⟩
 rotate_left
 ·exact absurd z jD
 repeat apply jL
 refine⟨⟨jD,jD⟩,?_⟩
 repeat apply jL
 refine⟨λA=> ?_,λA=> ?_⟩
 ·exact absurd A jD
 refine aN (aN ?_);refine⟨false,[],rfl,Unit,_,_,_,_,MN,λ_ _=> ?_⟩
 repeat apply jL
 refine⟨λC=> ?_,λC=> ?_⟩
 rotate_left
 ·cases C
 refine⟨oJ jD,?_⟩
 repeat apply jL
 refine⟨λD=> ?_,λD=> ?_⟩
 ·exact absurd D jD
 refine aN (aN ?_);refine⟨false,[],rfl,(List Int),_,_,_,_,MO,λy _=> ?_⟩;exact⟨y,[(0,8),(1,9)],trivial,⟨nU,⟨⟨rfl,rfl,trivial,⟨rfl,rfl,rfl,λq e=>by
  have e:q<1:=e;obtain rfl:q=0:=J
  rfl⟩⟩,ni,trivial⟩,rfl⟩,rfl,λ_=>⟨rfl,λ_ _=>rfl,λ_ _=>rfl⟩⟩
end Go.Proofs.YtpnjmojpeaegoaaGreatDoor
namespace Go.Proofs.YtpnjmojpeaegoaaGreatDoor
open Go.Eng Go.Qu
def pA:Pf_q0:=⟨⟨#[97]⟩,0,0,0,false,0,false,false,40,1,0,0,[],0,0,0,0,false,2,0,1,0⟩
def wA:Wt:=⟨3,0,3,2⟩
def wA1:Wt:=⟨3,0,1,2⟩
theorem MP:pA.fit:=⟨jD,λ_=>by show gB.size<_;decide,jD⟩
theorem Xa {α:Type} {a:α} {l:List α} (h:l.Perm [a]):l=[a]:=List.perm_singleton.1 h
theorem aGd {y:List Wt×Int} (h:bt pA [] wA 0 y):y=([wA],0):=by
 unfold bt at h;rw[aB jD,aB jD] at h;obtain⟨e,c,rfl⟩:=h;unfold A8 at c;rw[aE (by decide+kernel)] at c;obtain⟨s,a,_,h⟩:=c;have a:s.Perm [toJ wA]:=a;have a:=Xa a;subst a;rcases h with ⟨rfl,_⟩|⟨rfl,k,f,h⟩
 ·rfl
 ·have f:k<1:=f;obtain rfl:k=0:=J
  exact absurd (by decide+kernel) h
theorem aJ9 {y:List Int×List Wt} (h:yB pA 0 [wA] true y):y=([],[wA1]):=by unfold yB at h;rw[aB (by decide+kernel)] at h;obtain⟨⟨s,c,_,a,e⟩,_⟩:=h;have c:s.Perm [wA]:=c;have c:=Xa c;subst c;have a:y.2.Perm [wA1]:=a;have a:=Xa a;have e:y.1=[]:=e;cases y;exact zN e a
theorem aAq {y:List Int×List Wt} (h:yB pA 0 [wA1] true y):y=([3],[]):=by unfold yB at h;rw[aB (by decide+kernel)] at h;obtain⟨⟨s,c,_,a,e⟩,_⟩:=h;have c:s.Perm [wA1]:=c;have c:=Xa c;subst c;have a:y.2.Perm []:=a;have a:=a.eq_nil;have e:y.1=[3]:=e;cases y;exact zN e a
def arA:AV:= .ag (pA.cs kV)
theorem VT:W0 arA pA.ar:= .ag ⟨.refl _,.refl _,.refl _,.refl _,.refl _,.refl _,.refl _,.refl _,.refl _,.refl _,.refl _,.refl _,.nil _ _,.refl _,.refl _,.refl _,.refl _,.refl _,.refl _,.refl _,.refl _,.refl _,trivial⟩
theorem UB:cM 11 true [] [arA,kV,.ag wA.av,.I 0] (bt pA [] wA 0) (λ_=>[]) (λ_=>[]) (λy=> .tup [.rs 4 y.1.length (rW y.1),.I y.2]):=
 tC.cvt (args:=[pA.ar,.rs 4 0 (rW []),.ag wA.av,.I 0]) ⟨VT,.nil _ _,G9.refl _⟩ (GW pA MP [] jD wA 0)
theorem Ms (l:List Wt) (a:l.length<1000000):cM 12 true [] [arA,.I 0,.rs 4 l.length (rW l),.b true] (yB pA 0 l true) (λ_=>[]) (λ_=>[]) (λy=> .tup [.rs 1 y.1.length (rI y.1),.rs 4 y.2.length (rW y.2)]):=
 tC.cvt (args:=[pA.ar,.I 0,.rs 4 l.length (rW l),.b true]) ⟨VT,G9.refl _⟩ (Vd pA MP 0 l a true)
theorem aGe {p:Nat->Prop} (a:p 0): ∀q,q<1->p q:=λq c=>by
 obtain rfl:q=0:=J
 exact a
theorem aGf {p:Nat->Prop} (a:p 0) (c:p 1): ∀q,q<2->p q:=λq e=>by
 rcases(by omega:q=0\/q=1) with rfl|rfl
 ·exact a
 ·exact c
def cpA:List Cp_q1:=[⟨0,0,0, -1, -1⟩]
def cpB:Cp_q1:=⟨1,0,1, -1, -1⟩
theorem aGg:u0 cpA cpB 3=0:=by decide+kernel
theorem UC:cC 18 [.rs 5 1 (SF cpA),.ag cpB.av,.I 3] [] (.tup [.I 0,.b true]):=by have h:=Ls cpA jD cpB 3;rw[aGg] at h;exact h
theorem MQ:cC 4 [] [] (.b true):=by
 refine hZ Tryz.func4 [.tmp 0] [] ?_;refine aN (aN ?_);refine⟨true,[],rfl,(List Wt×Int),_,_,_,_,UB,λy e=> ?_⟩;obtain rfl:=aGd e;refine aN (aN ?_);refine⟨true,[],rfl,(List Int×List Wt),_,_,_,_,Ms [wA] jD,λy e=> ?_⟩;obtain rfl:=aJ9 e;refine aN (aN ?_);refine⟨true,[],rfl,(List Int×List Wt),_,_,_,_,Ms [wA1] jD,λy e=> ?_⟩;obtain rfl:=aAq e;refine aN (aN ?_);refine⟨true,[],rfl,Unit,_,_,_,_,TW,λ_ _=> ?_⟩;refine aN (aN ?_);refine⟨true,[],rfl,Unit,_,_,_,_,TY,λ_ _=> ?_⟩;refine aN (aN ?_);refine⟨false,[],rfl,(List Int),_,_,_,_,tC.of_eq (args:=[brV,.I 2]) ⟨⟨rfl,rfl,aGf rfl rfl⟩,eV.refl _⟩ Td,λy _=> ?_⟩
 repeat apply jL
 refine⟨λh=> ?_,λh=> ?_⟩
 ·cases h
 refine aN (aN ?_);refine⟨true,[1],rfl,Unit,_,_,_,_,TX,λ_ _=> ?_⟩;refine aN (aN ?_);refine⟨true,[2,3],rfl,Unit,_,_,_,_,ML,λ_ _=> ?_⟩
 repeat apply jL
 refine⟨_,_,j8.of_eq (args:=[.rs 5 1 (SF cpA),.ag cpB.av,.I 3]) ⟨⟨rfl,rfl,aGe rfl⟩,eV.refl _,eV.refl _⟩ UC,?_⟩
 repeat apply jL
 refine⟨⟨jD,jD⟩,?_⟩;refine aN (eX ⟨⟨nT,trivial⟩,aN (aN ?_)⟩);refine⟨true,[1],rfl,Unit,_,_,_,_,aAo,λ_ _=> ?_⟩
 refine jc (Wz 1 1) ?_;exact RetIs.b rfl
end Go.Proofs.YtpnjmojpeaegoaaGreatDoor
