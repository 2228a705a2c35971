/-
  TopDelivered returns true whatever the input, and the input reads behind the call as it read before, where the three listed tables of Go's library hold what the program's text lays: a part of the proof.
-/
import Derived.Shelf.Slices.Reverse
import Derived.Test.YtpnjmojpeaegoaaGreatDoorN16
set_option linter.unusedSimpArgs false
set_option linter.unusedVariables false
set_option maxRecDepth 100000
set_option maxHeartbeats 0
namespace Go.Proofs.YtpnjmojpeaegoaaGreatDoor.Sb
open Go.Eng
def FJ:Go.Shelf.Ren:=⟨fun|112=>95|n=>n,fun|28=>25|0=>0|3=>3|4=>4|n=>n,fun|n=>n⟩
theorem aCw:Go.Proofs.Lays.n112 Tryz.prog FJ:=by constructor<;>first|kernel_rfl|(intro _;kernel_rfl)
theorem reversesRow:zg Tryz.prog 95 List.reverse:=
 ⟨⟨_,Tryz.func95,V,rfl⟩,λks=>sC,λl c a j W f _ q=>(Any.slices_Reverse_int aCw l c a j W f J).mono λe t h=>⟨h.1,by
  obtain⟨n,g⟩:=h.2;exact⟨n,#[],by rw[Go.Sort.grow_empty];exact g⟩⟩,λp a W=>Any.slices_Reverse_int_empty aCw p a W⟩
theorem aCx (o:List Int) (n:Int): ∀k,k<(o++[n]).length->iJ o.length (nB o) (kJ 1 [.I n]) k=nB (o++[n]) k:=by
 intro k a;unfold iJ nB;rw[E2];by_cases h:k<o.length
 ·rw[aE h,aE h]
 ·rw[aB h,aB h];have:k=o.length:=by simp at a;omega
  subst this;simp[kJ]
theorem zV (o:List Int) (n:Int) {l:List Int} (a:l=o++[n]):eN (.row 3 1 l.length (nB l)) (.row 3 1 (o.length+1) (iJ o.length (nB o) (kJ 1 [.I n]))):=by subst a;exact⟨rfl,rfl,jS,aCx o n⟩
theorem K6 {o l:List Int} (a:l=o):eN (.row 3 1 l.length (nB l)) (.row 3 1 o.length (nB o)):=by subst a;exact eN.refl _
abbrev aCy (L:LI):AO:=Dc (λk:Int=> .I k) (λv:Int=> .I v) (0,0) L
theorem FK (Q:List Int): ∀k,k<(Q.drop 1).length->nB Q (k+(1:Int).toNat)=nB (Q.drop 1) k:=by
 intro k a;unfold nB;have e:(Q.drop 1).getD k 0=Q.getD (k+1) 0:=by simp only[List.getD];rw[eE,rO]
 rw[e];rfl
theorem il {L:LI} {k:Int}:k∈oZ L↔(hU L k).isSome=true:=uV (L:=L)
theorem OZ {L:LI} (h:(oZ L).Nodup) {j:Nat} (a:j<L.length):hU L (jW L j)=some (G3 L j):=by have k:(hU L (jW L j)).isSome=true:=il.1 (sj a);obtain⟨v,c⟩:=oL.1 k;obtain⟨i,e,f,g⟩:=o8 c (0,0);have:i=j:=Ir h e a f;subst this;rw[c,<-g];rfl
theorem Bf.node {l:List Cl_q1} {a b:Int} {L:LI} {p:Nat} {n:Int} (h:Bf l a b L p) (k:lN n l) (f:0<=a/\a<2*n): ∀v∈oZ L,0<=v/\v<2*n:=by
 intro v t;obtain⟨j,g,rfl⟩:=sk t;rcases g9 j with rfl|c
 ·rw[h.head];exact f
 ·obtain⟨q,_,_,e⟩:=h.par j c g;exact tj k _ _ e
theorem Bf.len {l:List Cl_q1} {a b:Int} {L:LI} {p n:Nat} (h:Bf l a b L p) (e:lN n l) (c:0<=a/\a<2*(n:Int)):L.length<=2*n:=by
 have:=vZ (m:=2*n) h.nodup λx f=>by have:=h.node e c x f;omega
 rwa [wL] at this
def UP:Option (List Int)->List AO
 |some p=>[.row 3 1 p.length (nB p)]
 |none=>[]
def UQ:Option (List Int)->AV
 |some _=> .so 0
 |none=> .val (.slice none 0 0)
theorem Dj (l:List Cl_q1) (n:Nat) (N:lN n l) (hn:n<=400) (hl:l.length<=4000) (a b:Int) (M:0<=a/\a<2*(n:Int)):
  cM 277 false [] [gM l,.I a,.I b] (λy:Option (List Int)=>si l a b y) (λ_=>[]) UP UQ:=by
 refine sE Tryz.func277 [.tmp 6] [(1000002,[.sl 20 .u]),(6,[.own 8]),(1000010,[.sl 41 .u])] ?_
 repeat apply jL
 refine⟨1,(λi=> .I (([(a,a)]:LI).getD i (0,0)).1),(λi=> .I (([(a,a)]:LI).getD i (0,0)).2),(λi=>i),1,ns,?_⟩
 repeat apply jL
 refine⟨trivial,?_⟩
 repeat apply jL
 refine⟨[],LI×Nat,λx=>Bf l a b x.1 x.2,λx=>[⟨8,[],.so 1⟩],λx=>[⟨0,[],aCy x.1⟩,⟨1,[],.row 3 1 ((oZ x.1).drop x.2).length (nB ((oZ x.1).drop x.2))⟩],λx=>801-x.2,
  ⟨([(a,a)],0),[],Bf.init l a b,rfl,rfl,rfl,rfl,rfl,rfl,⟨eN.refl _,⟨rfl,rfl,rfl,λj hj=>by
   have:j=0:=by have hj:j<1:=hj;omega
   subst this;rfl⟩⟩⟩,?_⟩
 rintro⟨L,p⟩ C;have C:Bf l a b L p:=C;have a6:=C.len N M;have a5:=C.le;have a7:((oZ L).drop p).length=L.length-p:=by rw[iB,wL]
 refine .inl ⟨λG=> ?_,λG=> ?_⟩
 ·have G:decide ((((oZ L).drop p).length:Int)>0)=true:=G;rw[aM] at G;have S:p<L.length:=J
  have O:((oZ L).drop p).getD (Int.toNat 0) 0=jW L p:=by rw[<-s6 L p S];simp only[List.getD];rw[eE];rfl
  have a2:=FK ((oZ L).drop p);have dt:((oZ L).drop p).drop 1=(oZ L).drop (p+1):=by rw[oE]
  have a3:=C.start S;have a9:=N3 l (jW L p)
  repeat apply jL
  refine⟨⟨by first|omega|(dsimp only;omega),by first|omega|(dsimp only;omega)⟩,by first|omega|(dsimp only;omega),?_⟩
  repeat apply jL
  refine⟨⟨by first|omega|(dsimp only;omega),by first|omega|(dsimp only;omega),by first|omega|(dsimp only;omega)⟩,?_⟩
  have MV:k4 (pW l).length (Xx (pW l)) (Xy (pW l)) (.I (((oZ L).drop p).getD (Int.toNat 0) 0)) (.rs 1 (lA l (jW L p)).length (nB (lA l (jW L p)))) (.val (.slice none 0 0)) (hU (pW l) (jW L p)).isSome:=by rw[O];exact Iw l (jW L p)
  refine⟨_,_,⟨λ_ _=>rfl,rfl,MV⟩,?_⟩
  repeat apply jL
  refine⟨[],LI×Nat,λx=>x.2<=(lA l (jW L p)).length/\BfJ l a b p (jW L p) x.1 x.2,λx=>[⟨33,[],.I x.2⟩,⟨9,[],.I (jW L p)⟩,⟨8,[],.so 2⟩],λx=>[⟨0,[],aCy x.1⟩,⟨2,[],.row 3 1 ((oZ x.1).drop (p+1)).length (nB ((oZ x.1).drop (p+1)))⟩],λx=>(lA l (jW L p)).length-x.2,
   ⟨(L,0),[],⟨bI _,a3⟩,rfl,rfl,rfl,rfl,rfl,⟨nT,⟨rfl,O⟩,rfl⟩,⟨eN.refl _,?_⟩⟩,?_⟩
  ·have hv:eN (.row 3 1 ((oZ L).drop (p+1)).length (nB ((oZ L).drop (p+1)))) (.row 3 1 ((((oZ L).drop p).length:Int)-1).toNat (λk=>nB ((oZ L).drop p) (k+(1:Int).toNat))):=by rw[<-dt];refine⟨rfl,rfl,?_,a2⟩;simp only[iB,wL];omega
   exact hv
  rintro⟨f,k⟩ ⟨hk,g⟩;dsimp only at hk g;have a4:=g.bf.len N M;have W:=wL f;refine .inl ⟨λK=> ?_,λK=> ?_⟩
  ·have K:=pH K;have F:(k:Int).toNat=k:=aQ k;have w:IntKind.i64.wrap ((k:Int)+1)=((k+1:Nat):Int):=wr J J;have E:=g.skip J;have H:=g.add J;rw[<-F] at E H
   repeat apply jL
   refine⟨⟨J,J⟩,?_⟩
   repeat apply jL
   refine jB ((lA l (jW L p)).getD (k:Int).toNat 0==b) (λh2=> ?_) λh2=> ?_
   ·rw[F,cH] at h2;have U:Ed l (jW f p) b:=by rw[g.here,<-h2];exact tQ (l:=lA l (jW L p)) J
    repeat apply jL
    refine⟨trivial,?_⟩
    repeat apply jL
    refine⟨[],List Int×Nat,λx=>Bk l a b f x.1 x.2,λx=>[⟨9,[],.I (jW f x.2)⟩,⟨12,[],.so 3⟩],λx=>[⟨3,[],.row 3 1 x.1.length (nB x.1)⟩],λx=>x.2,
     ⟨([jW f p],p),[],Bk.init g.lt U,rfl,rfl,rfl,rfl,rfl,⟨⟨rfl,g.here.symm⟩,rfl⟩,⟨rfl,rfl,rfl,λj hj=> ?_⟩⟩,?_⟩
    ·obtain rfl:j=0:=by have hj:j<1:=hj;omega
     show [AV.I (jW L p)]=[AV.I (jW f p)];rw[g.here]
    rintro⟨D,j⟩ z;have z:Bk l a b f D j:=z;have a8:D.length<=800:=by refine cO (vZ (m:=2*n) z.nd λx hx=> ?_) J;obtain⟨i,_,hi,rfl⟩:=z.ix x hx;have:=g.bf.node N M _ (sj hi);omega
    refine .inl ⟨λt=> ?_,λt=> ?_⟩
    ·have t:(jW f j !=a)=true:=t;rw[lM] at t;obtain⟨q,Y,a0,a1⟩:=z.next g.bf t;have hg:(hU f (jW f j)).getD 0=G3 f j:=by rw[OZ g.bf.nodup z.lt];rfl
     repeat apply jL
     refine⟨_,_,⟨λ_ _=>rfl,rfl,lK (L:=f) (d:=(0,0)) (vf:=λv:Int=>AV.I v) sD (jW f j) 0⟩,?_⟩;rw[hg];refine⟨oJ jM,?_⟩;exact⟨(D++[G3 f j],q),[(3,5)],a1,Y,rfl,rfl,rfl,rfl,rfl,⟨⟨rfl,a0.symm⟩,rfl⟩,zV _ _ rfl⟩
    ·have t:(jW f j !=a)=false:=t;rw[fY] at t;refine .inr (.inr ⟨false,[3],rfl,Unit,_,_,_,_,Q2 reversesRow (kt:=3) D (nB D) (λ_ _=>rfl) J,λ_ _=> ?_⟩);refine RetM.of (some D.reverse:Option (List Int)) (z.fin t) (RetIs.so rfl ?_ (λ_ _=>rfl) (λ_ _=>rfl));simp
   ·have Q:(lA l (jW L p)).getD k 0≠b:=by rw[F] at h2;simpa using h2
    repeat apply jL
    refine⟨_,_,⟨λ_ _=>rfl,rfl,lK (L:=f) (d:=(0,0)) (vf:=λv:Int=>AV.I v) sD ((lA l (jW L p)).getD (k:Int).toNat 0) 0⟩,?_⟩
    repeat apply jL
    refine jB (!(hU f ((lA l (jW L p)).getD (k:Int).toNat 0)).isSome) (λh3=> ?_) λh3=> ?_
    ·have R:hU f ((lA l (jW L p)).getD (k:Int).toNat 0)=none:=j3
     have H:=H (by rw[F];exact Q) (λhm=>by
      have:=il.1 hm;rw[R] at this;cases this)
     refine⟨_,_,_,_,_,⟨λ_ _=>rfl,rfl,lJ (L:=f) (d:=(0,0)) (vf:=λv:Int=>AV.I v) sD ((lA l (jW L p)).getD (k:Int).toNat 0) (jW L p)⟩,?_⟩;refine⟨oJ (by simp only[iB,wL];omega),?_⟩;have P:=aHy R (jW L p);refine⟨(kE f ((lA l (jW L p)).getD (k:Int).toNat 0) (jW L p),k+1),[(2,4)],⟨jM,by rw[P];exact H⟩,jM,rfl,rfl,rfl,rfl,rfl,⟨⟨rfl,w⟩,nT,rfl⟩,⟨eN.refl _,zV _ _ ?_⟩⟩;show(oZ (kE f ((lA l (jW L p)).getD (k:Int).toNat 0) (jW L p))).drop (p+1)=_;rw[P,Z2,lI (by rw[W];have:=g.lt;omega)]
    ·have E:=E Q (il.2 j3);exact⟨(f,k+1),[],⟨jM,by dsimp only;rw[F] at E;exact E⟩,jM,rfl,rfl,rfl,rfl,rfl,⟨⟨rfl,w⟩,nT,rfl⟩,⟨eN.refl _,K6 rfl⟩⟩
  ·have K:=iT K;obtain rfl:k=(lA l (jW L p)).length:=J
   exact⟨(f,p+1),[(1,2)],g.fin,jM,rfl,rfl,rfl,rfl,rfl,rfl,⟨eN.refl _,K6 rfl⟩⟩
 ·have G:decide ((((oZ L).drop p).length:Int)>0)=false:=G;rw[bH] at G;have e:p=L.length:=J
  subst e;exact RetM.of (none:Option (List Int)) C.none ng
inductive SolK where
 |bad
 |sat (vs:List Bool)
 |uns (c:List Int)
def SolK.os:SolK->List AO
 | .bad=>[]
 | .sat vs=>[.row 4 1 vs.length λk=>[.b (vs.getD k false)]]
 | .uns c=>[.row 3 1 c.length (nB c)]
def SolK.av:SolK->AV
 | .bad=> .tup [.val (.slice none 0 0),.val (.slice none 0 0),.I 1]
 | .sat _=> .tup [.so 0,.val (.slice none 0 0),.I 0]
 | .uns _=> .tup [.val (.slice none 0 0),.so 0,.I 17]
def SolK.y:SolK->SolveY
 | .bad=>⟨[],[],1⟩
 | .sat vs=>⟨vs,[],0⟩
 | .uns c=>⟨[],c,17⟩
def K7 (l:List Cl_q1) (n:Int):SolK->Prop
 | .bad=>aGw l n=false
 | .sat vs=>aGw l n=true/\pM l n.toNat []=some vs
 | .uns c=>aGw l n=true/\pM l n.toNat []=none/\RefP l n c
theorem K7.s {l:List Cl_q1} {n:Int} {k:SolK} (h:K7 l n k):SolveS l n k.y:=by
 cases k with
 |bad=>have h:aGw l n=false:=h;exact⟨λ_=>rfl,λj a=>(by rw[h] at a;cases a),λa=>(by rw[h] at a;cases a)⟩
 |sat j=>obtain⟨a,f⟩:=h;refine⟨λh=>(by rw[a] at h;cases h),λq _ e=> ?_,λ_ e=>(by rw[f] at e;cases e)⟩;rw[f] at e;rw[cK e];rfl
 |uns c=>obtain⟨a,f,g⟩:=h;exact⟨λh=>(by rw[a] at h;cases h),λq _ e=>(by rw[f] at e;cases e),λ_ _=>⟨rfl,rfl,EW.2 g⟩⟩
theorem RetIs.so_v_i {v:Value} {k:IntKind} {c:Int} {e sz n n':Nat} {get a:Nat->List AV} {id nid:Nat} {O:List OE} (hg:fK id O=some ([],.row e sz n' a)) (g:n'=n) (hget: ∀k,k<n->a k=get k) (f: ∀k,k<n->AV.freshs (get k)=true):
  RetIs [.row e sz n get] (.tup [.so 0,.val v,.i k c]) (.tup [.so id,.val v,.i k c]) O nid:=by
 subst g;refine⟨[(0,id)],⟨⟨⟨rfl,rfl,?_⟩,trivial⟩,⟨⟨rfl,rfl,trivial,?_⟩,trivial⟩,rfl⟩,rfl,f⟩
 ·exact rfl
 ·exact mH
theorem RetIs.v_so_i {v:Value} {k:IntKind} {c:Int} {e sz n n':Nat} {get a:Nat->List AV} {id nid:Nat} {O:List OE} (hg:fK id O=some ([],.row e sz n' a)) (g:n'=n) (hget: ∀k,k<n->a k=get k) (f: ∀k,k<n->AV.freshs (get k)=true):
  RetIs [.row e sz n get] (.tup [.val v,.so 0,.i k c]) (.tup [.val v,.so id,.i k c]) O nid:=by
 subst g;refine⟨[(0,id)],⟨⟨⟨rfl,rfl,?_⟩,trivial⟩,⟨⟨rfl,rfl,trivial,?_⟩,trivial⟩,rfl⟩,rfl,f⟩
 ·exact rfl
 ·exact mH
theorem aCz (p q:List Int): ∀j,j<(p++q).length->iJ p.length (nB p) (nB q) j=nB (p++q) j:=by intro j _;unfold iJ nB;rw[sM];split<;>rfl
theorem Je (l:List Cl_q1) (hl:l.length<2^62) (n:Int):
  cM 211 false [] [.rs 2 l.length (lL l),.I n] (K7 l n) (λ_=>[]) SolK.os SolK.av:=by
 refine sE Tryz.func211 [.tmp 4,.tmp 5,.tmp 6] [] ?_
 refine jb (aHz l hl n) ?_
 repeat apply jL
 refine jB (!aGw l n) (λh=> ?_) λh=> ?_
 ·exact RetM.of SolK.bad (show aGw l n=false by simpa using h) ng
 have H:aGw l n=true:=jH
 have w:=s8.1 H;obtain⟨m,rfl⟩:=fM w.lo;have t:lN (m:Nat) l:=w.cl;have G:m<=400:=by have:=w.hi;omega
 have S:lN 400 l:=λc C=>by have:=t c C;omega
 have F:cC 276 [gM l,.I m,.val (.slice none 0 0)] (FH (pM l m [])) (FI (pM l m [])):=
  j8.of_eq (args:=[gM l,.I m,.rs 1 0 (nB [])]) ⟨eV.refl _,eV.refl _,nT⟩ (aI0 l m t G w.len [] jS jS)
 refine jb (Jc l S w.len) ?_;cases e:pM l m [] with
 |some vs=>
  rw[e] at F
  refine jb F ?_;refine⟨λ_=> ?_,λh=>jC⟩;exact RetM.of (SolK.sat vs) ⟨H,by rw[aQ];exact e⟩ (RetIs.so_v_i rfl rfl (λ_ _=>rfl) (λ_ _=>rfl))
 |none=>
  rw[e] at F
  refine jb F ?_;refine⟨λh=>jC,λ_=> ?_⟩;obtain⟨D,a2,P,Q⟩:=Pb t (x3.1 e)
  repeat apply jL
  refine⟨[],Nat,λk=>k<=D,λk=>[⟨28,[],.I k⟩],λ_=>[],λk=>D-k,
   qC,?_⟩
  rintro k x;refine .inl ⟨λC=> ?_,λC=> ?_⟩
  ·have C:=pH C;have w2:IntKind.i64.wrap (2*(k:Int))=2*k:=wr J J;have w3:IntKind.i64.wrap (IntKind.i64.wrap (2*(k:Int))+1)=2*k+1:=by rw[w2];exact wr J J
   have E:si l (2*(k:Int)) (2*(k:Int)+1) none->k+1<=D:=λf=>by
    have x:k<=D:=x;rcases vQ x with h|h
    ·exact h
    ·subst h;obtain⟨p,K⟩:=f.some_of J P;cases K
   refine .inl (.inr (.inr ⟨false,[],rfl,_,_,_,_,_,Dj l m t G w.len (IntKind.i64.wrap (2*(k:Int))) (IntKind.i64.wrap (IntKind.i64.wrap (2*(k:Int))+1)) (by rw[w2];omega),λy f=> ?_⟩));rw[w3,w2] at f;cases y with
   |none=>
    refine .inr (.inr ⟨false,[],rfl,_,_,_,_,_,Dj l m t G w.len (IntKind.i64.wrap (IntKind.i64.wrap (2*(k:Int))+1)) (IntKind.i64.wrap (2*(k:Int))) (by rw[w3];omega),λz g=> ?_⟩);rw[w3,w2] at g;cases z with
    |none=>refine⟨λh=>jC,λ_=> ?_⟩;exact⟨k+1,[],E f,by have:=E f;dsimp only;omega,rfl,rfl,rfl,rfl,rfl,nV,trivial⟩
    |some q=>refine λR L=> ?_;refine⟨λh=>jC,λ_=> ?_⟩;exact⟨k+1,[],E f,by have:=E f;dsimp only;omega,rfl,rfl,rfl,rfl,rfl,nV,trivial⟩
   |some p=>
    refine .inr (.inr ⟨false,[],rfl,_,_,_,_,_,Dj l m t G w.len (IntKind.i64.wrap (IntKind.i64.wrap (2*(k:Int))+1)) (IntKind.i64.wrap (2*(k:Int))) (by rw[w3];omega),λz g=> ?_⟩);rw[w3,w2] at g;cases z with
    |none=>
     have g:si l (2*(k:Int)+1) (2*(k:Int)) none:=g;have O:k+1<=D:=by
      have x:k<=D:=x;rcases vQ x with h|h
      ·exact h
      ·subst h;obtain⟨p,K⟩:=g.some_of J Q;cases K
     refine λN M=> ?_;refine⟨λh=> ?_,λ_=> ?_⟩
     ·have h:((N==false)&&false)=true:=h;simp at h
     exact⟨k+1,[],O,jM,rfl,rfl,rfl,rfl,rfl,nV,trivial⟩
    |some q=>
     have f:PathOk l (2*(k:Int)) (2*(k:Int)+1) p:=f;have g:PathOk l (2*(k:Int)+1) (2*(k:Int)) q:=g;refine λN M=> ?_;have U:N=false:=by
      cases N with
      |false=>rfl
      |true=>have:=M rfl;have:=f.pos;omega
     subst U;refine λR L=> ?_;have W:R=false:=by
      cases R with
      |false=>rfl
      |true=>have:=L rfl;have:=g.pos;omega
     subst W;refine⟨λ_=> ?_,λh=>jC⟩;have a0:=f.len t;have a1:=g.len t;refine⟨oJ J,?_⟩;refine RetM.of (SolK.uns (p++q)) ⟨H,by rw[aQ];exact e,?_⟩ (RetIs.v_so_i rfl jS ?_ (λ_ _=>rfl))
     ·have:=Dh (l:=l) (n:=m) (a:=2*(k:Int)) (p:=p) (q:=q) t (by rw[i4];exact f) (by rw[i4];exact g);exact this
     ·exact λj Y=>aCz p q j Y
  ·have C:=iT C;have C:(m:Int)<=k:=C;have x:k<=D:=x;omega
theorem E5 (l:List Cl_q1) (N:l.length<2^62) (n:Int) (f:List Int) (R:f.length<=100000):
  cC 226 [.rs 2 l.length (lL l),.I n,.rs 1 f.length (nB f)] [] (.b (lY l n f)):=by
 refine hZ Tryz.func226 [.tmp 6] [] ?_
 refine jb (aHz l N n) ?_
 repeat apply jL
 refine jB (!aGw l n) (λh=> ?_) λh=> ?_
 ·refine RetIs.b ?_;unfold lY;rw[show aGw l n=false by simpa using h];rfl
 have H:aGw l n=true:=jH
 have g:=s8.1 H;obtain⟨m,rfl⟩:=fM g.lo;have K:lN (m:Nat) l:=g.cl;have O:m<=400:=by have:=g.hi;omega
 have M:lN 400 l:=λc t=>by have:=K c t;omega
 have step: ∀k,k<f.length->(f.take (k+1)).map wZ=(f.take k).map wZ++[wZ (f.getD k 0)]:=λk D=>by rw[bS D,fJ];simp[List.getD,D]
 have w2:IntKind.i64.wrap (2*(m:Int))=2*m:=wr J J
 repeat apply jL
 refine⟨[(7,3,1)],Nat,λk=>k<=f.length/\ ∀j,j<k->0<=f.getD j 0/\f.getD j 0<2*(m:Int),λk=>[⟨18,[],.I k⟩,⟨7,[],.so 0⟩],λk=>[⟨0,[],.row 3 1 ((f.take k).map wZ).length (nB ((f.take k).map wZ))⟩],λk=>f.length-k,
  ⟨0,[],⟨bI _,λj z=>J⟩,rfl,rfl,rfl,rfl,rfl,⟨nT,rfl⟩,⟨rfl,rfl,rfl,λj z=>by cases z⟩⟩,?_⟩
 rintro k ⟨D,G⟩;refine .inl ⟨λt=> ?_,λt=> ?_⟩
 ·have t:=pH t
  repeat apply jL
  refine⟨⟨J,J⟩,?_⟩;have C:(k:Int).toNat=k:=aQ k;refine .inl ⟨λh2=>RetIs.b ?_,λh2=> ?_⟩
  ·have h2:(decide (f.getD (k:Int).toNat 0<0)||decide (f.getD (k:Int).toNat 0>=IntKind.i64.wrap (2*(m:Int))))=true:=h2;rw[C,w2,eZ,aM,aM] at h2;have e:sr m f=false:=OX 0 (j:=k) J (by rw[iZ,bH,bH];omega);unfold lY;rw[e,tK,pB]
  have h2:(decide (f.getD (k:Int).toNat 0<0)||decide (f.getD (k:Int).toNat 0>=IntKind.i64.wrap (2*(m:Int))))=false:=h2;rw[C,w2,bT,bH,bH] at h2;refine⟨oJ (by simp only[fC,cT];omega),?_⟩;refine⟨k+1,[(0,2)],⟨J,λj z=> ?_⟩,jM,rfl,rfl,rfl,rfl,rfl,⟨nV,rfl⟩,zV _ _ ?_⟩
  ·by_cases h:j<k
   ·exact G j h
   ·obtain rfl:j=k:=J;omega
  ·rw[C,step k J,Z3 J J]
 ·have t:=iT t;have L:f.take k=f:=fR J;have F: ∀x∈f,0<=x/\x<2*(m:Int):=λx E=>by obtain⟨j,z,rfl⟩:=tR E;exact G j J
  have P:sr m f=true:=Pc.2 F;have aj: ∀x∈f.map wZ,0<=x/\x<2*(m:Int):=λx E=>by obtain⟨y,Q,rfl⟩:=fL.1 E;exact Pa (F y Q)
  rw[L];have w:=aI0 l m K O g.len (f.map wZ) aj (by rw[fC];omega);refine .inl ⟨_,_,Jc l M g.len,?_⟩;cases e:pM l m (f.map wZ) with
  |some S=>rw[e] at w;refine .inl ⟨_,_,w,?_⟩;refine RetIs.b ?_;unfold lY;rw[aQ,e];simp
  |none=>rw[e] at w;refine .inl ⟨_,_,w,?_⟩;refine RetIs.b ?_;unfold lY;rw[aQ,e,H,P];rfl
theorem Jf (x:Int) (a:0<=x) (c:x<1000000):cC 273 [.I x] [] (.I (2*x)):=by refine hZ Tryz.func273 [.tmp 2] [] ?_;refine RetIs.i ?_;exact wr J J
theorem Z4 (x:Int) (a:0<=x) (c:x<1000000):cC 207 [.I x] [] (.I (2*x+1)):=by refine hZ Tryz.func207 [.tmp 2] [] ?_;refine RetIs.i ?_;rw[wr (n:=2*x) J J];exact wr J J
theorem RetIs.agC {c d:Cl_q1} {O:List OE} {nid:Nat} (h:d=c):RetIs [] (.ag c.av) (.ag d.av) O nid:=⟨[],⟨⟨⟨rfl,rfl,by subst h;exact eV.refl _⟩,trivial⟩,trivial,rfl⟩,rfl,trivial⟩
theorem Yd {p:Pf_q1} (h:p.kind=0):kP p=⟨2*p.a,2*p.a⟩:=aE h
theorem Ye {p:Pf_q1} (h:p.kind=1):kP p=⟨2*p.a+1,2*p.a+1⟩:=by unfold kP;rw[aB J,aE h]
theorem Yf {p:Pf_q1} (h:p.kind=2):kP p=⟨2*p.a,2*p.b⟩:=by unfold kP;rw[aB J,aB J,aE h]
theorem Yg {p:Pf_q1} (h:p.kind=3):kP p=⟨2*p.a+1,2*p.b+1⟩:=by unfold kP;rw[aB J,aB J,aB J,aE h]
theorem Yh {p:Pf_q1} (c:p.kind≠0) (e:p.kind≠1) (f:p.kind≠2) (g:p.kind≠3):kP p=⟨2*p.a+1,2*p.b⟩:=by unfold kP;rw[aB c,aB e,aB f,aB g]
theorem Yi (p:Pf_q1) (n:0<=p.a/\p.a<1000000) (t:0<=p.b/\p.b<1000000):cC 208 [.ag p.av] [] (.ag (kP p).av):=by
 refine hZ Tryz.func208 [.cell 2 326] [(2000003,[.frz 1 [0]]),(2000005,[.frz 1 [0]]),(2000007,[.frz 1 [0]]),(2000009,[.frz 1 [0]]),(2000010,[.frz 1 [0]])] ?_;have w:=Jf p.a n.1 n.2;have x:=Jf p.b t.1 t.2;have l:=Z4 p.a n.1 n.2;have z:=Z4 p.b t.1 t.2
 repeat apply jL
 refine⟨λe=> ?_,λe=> ?_⟩
 ·have e:(p.kind==0)=true:=e
  refine jb w ?_
  refine jb w ?_;exact RetIs.agC (d:=⟨2*p.a,2*p.a⟩) (Yd (cH.1 e)).symm
 have e:(p.kind==0)=false:=e
 repeat apply jL
 refine⟨λf=> ?_,λf=> ?_⟩
 ·have f:(p.kind==1)=true:=f
  refine jb l ?_
  refine jb l ?_;exact RetIs.agC (d:=⟨2*p.a+1,2*p.a+1⟩) (Ye (cH.1 f)).symm
 have f:(p.kind==1)=false:=f
 repeat apply jL
 refine⟨λg=> ?_,λg=> ?_⟩
 ·have g:(p.kind==2)=true:=g
  refine jb w ?_
  refine jb x ?_;exact RetIs.agC (d:=⟨2*p.a,2*p.b⟩) (Yf (cH.1 g)).symm
 have g:(p.kind==2)=false:=g
 repeat apply jL
 refine⟨λj=> ?_,λj=> ?_⟩
 ·have j:(p.kind==3)=true:=j
  refine jb l ?_
  refine jb z ?_;exact RetIs.agC (d:=⟨2*p.a+1,2*p.b+1⟩) (Yg (cH.1 j)).symm
 have j:(p.kind==3)=false:=j
 refine jb l ?_
 refine jb x ?_;exact RetIs.agC (d:=⟨2*p.a+1,2*p.b⟩) (Yh (cE.1 e) (cE.1 f) (cE.1 g) (cE.1 j)).symm
theorem Pn (n:Nat) (p:Pf_q1):cC 101 [.ag p.av,.rp [.I n]] [] (.b (!WV n p)):=by refine hZ Tryz.func101 [.tmp 3] [] ?_;refine RetIs.b ?_;show((((((decide (p.kind<0)||decide (p.kind>=5))||decide (p.a<0))||decide (p.a>=(n:Int)))||decide (p.b<0))||decide (p.b>=(n:Int)))||(((p.kind==0)||(p.kind==1))&&(p.b !=0)))= !WV n p;rw[hM,dQ,<-uC,Uk];simp only[eZ,aW,aM,cH,lM];omega
instance:DecidableEq Cm:=λa b=>if h:a.acc=b.acc/\a.per=b.per then isTrue (Cm.ext' h.1 h.2) else isFalse (by rintro rfl;exact h ⟨rfl,rfl⟩)
def kfM (c:Cm):AV:= .ag c.av
theorem Up: ∀a b:Cm,kfM a=kfM b->a=b:=by intro a b h;unfold kfM Cm.av at h;simp at h;exact Cm.ext' h.1 h.2
def zq (C:List Cm) (k:Nat):Bool:=WU (C.getD k dCm)&& !G5 C (C.getD k dCm) k
theorem Dk {C:List Cm} {P:List Pf_q1} (h: ¬(C.length<=200/\P.length<=400)):rightCP C P=false:=by rw[lO];intro a;have:=wB.1 a;exact h ⟨this.lc,this.lp⟩
theorem Jg {C:List Cm} {P:List Pf_q1} {k:Nat} (c:k<C.length) (h:zq C k=false):rightCP C P=false:=by rw[lO];intro a;unfold rightCP at a;rw[aW,aW] at a;have:=fU.1 a.1.2 k (fO.2 c);unfold zq at h;rw[this] at h;cases h
theorem Dl {C:List Cm} {P:List Pf_q1} (a:C.length<=200) (c:P.length<=400) (h: ∀k,k<C.length->zq C k=true):rightCP C P=P.all (WV C.length):=by unfold rightCP;rw[gH a,gH c,show((List.range C.length).all λk=>WU (C.getD k dCm)&& !G5 C (C.getD k dCm) k)=true from fU.2 λk e=>h k (fO.1 e)];rfl
theorem Po (C:List Cm) (c:Cm) (k:Nat):G5 C c (k+1)=(G5 C c k||EY (C.getD k dCm) c):=by unfold G5;rw[iN,sO];simp
theorem Jh (c:Cm):((((decide (c.acc<0)||decide (c.acc>=2000))||decide (c.per<0))||decide (c.per>=2000)):Bool)= !WU c:=by unfold WU;rw[hM];simp only[eZ,aM,dQ,iZ,bH];omega
theorem ClaimRight_fn (C:List Cm) (P:List Pf_q1) (G:C.length<2^62) (D:P.length<2^62):cC 59 [.rs 2 C.length (rowsM C),.rs 3 P.length (rowsP P)] [] (.b (rightCP C P)):=by
 refine hZ Tryz.func59 [.tmp 4] [] ?_
 repeat apply jL
 refine⟨λh=>RetIs.b ?_,λh=> ?_⟩
 ·have h:(decide ((C.length:Int)>200)||decide ((P.length:Int)>400))=true:=h;simp only[eZ,aM] at h;exact(Dk J).symm
 have h:(decide ((C.length:Int)>200)||decide ((P.length:Int)>400))=false:=h;simp only[bT,bH] at h
 repeat apply jL
 refine⟨[],Nat×List (Cm×Bool),λx=>x.1<=C.length/\(∀j,j<x.1->zq C j=true)/\ ∀c,hU x.2 c=if G5 C c x.1=true then some true else none,λx=>[⟨21,[],.I x.1⟩],λx=>[⟨1,[],Dc kfM (λb:Bool=>AV.b b) (dCm,false) x.2⟩],λx=>C.length-x.1,
  ⟨(0,[]),[],⟨bI _,λj n=>absurd n (dU j),λc=>rfl⟩,rfl,rfl,rfl,rfl,rfl,nT,qI⟩,?_⟩
 rintro⟨k,L⟩ ⟨hk,q,t⟩;dsimp only at hk q t;refine .inl ⟨λf=> ?_,λf=> ?_⟩
 ·have f:=pH f;have f:(k:Int)<C.length:=f;have l:(k:Int).toNat=k:=aQ k
  repeat apply jL
  refine⟨⟨jM,jM⟩,?_⟩;have F:=lK (L:=L) (d:=(dCm,false)) (vf:=λv:Bool=>AV.b v) Up (C.getD (k:Int).toNat dCm) false;have w:(hU L (C.getD (k:Int).toNat dCm)).getD false=G5 C (C.getD k dCm) k:=by rw[t,l];cases G5 C (C.getD k dCm) k<;>rfl
  repeat apply jL
  refine⟨_,_,⟨λ_=>⟨λ_ _=>rfl,rfl,F⟩,?_⟩⟩;refine⟨λe=>RetIs.b ?_,λe=> ?_⟩
  ·have e:(((((decide ((C.getD (k:Int).toNat dCm).acc<0)||decide ((C.getD (k:Int).toNat dCm).acc>=2000))||decide ((C.getD (k:Int).toNat dCm).per<0))||decide ((C.getD (k:Int).toNat dCm).per>=2000)))||(hU L (C.getD (k:Int).toNat dCm)).getD false)=true:=e;rw[w,Jh,l] at e;refine(Jg (k:=k) J ?_).symm;unfold zq;cases E:WU (C.getD k dCm) with
   |false=>rfl
   |true=>rw[E] at e;rw[show G5 C (C.getD k dCm) k=true from e];rfl
  ·have e:(((((decide ((C.getD (k:Int).toNat dCm).acc<0)||decide ((C.getD (k:Int).toNat dCm).acc>=2000))||decide ((C.getD (k:Int).toNat dCm).per<0))||decide ((C.getD (k:Int).toNat dCm).per>=2000)))||(hU L (C.getD (k:Int).toNat dCm)).getD false)=false:=e;rw[w,Jh,l,bT,hV] at e;refine⟨_,_,_,_,_,⟨λ_ _=>rfl,rfl,lJ (L:=L) (d:=(dCm,false)) (vf:=λv:Bool=>AV.b v) Up (C.getD (k:Int).toNat dCm) true⟩,?_⟩;have A:=eN.refl (Dc kfM (λb:Bool=>AV.b b) (dCm,false) (kE L (C.getD (k:Int).toNat dCm) true));refine⟨(k+1,kE L (C.getD (k:Int).toNat dCm) true),[],⟨jM,λj n=> ?_,λc=> ?_⟩,jM,rfl,rfl,rfl,rfl,rfl,nV,A⟩
   ·have n:j<k+1:=n;by_cases z:j=k
    ·subst z;unfold zq;rw[e.1,e.2];rfl
    ·exact q j J
   ·show hU (kE L (C.getD (k:Int).toNat dCm) true) c=if G5 C c (k+1)=true then some true else none;rw[rK,t,l,Po];by_cases g:c=C.getD k dCm
    ·rw[aE g,su.2 g.symm,p3,aE rfl]
    ·rw[aB g,show EY (C.getD k dCm) c=false by rw[lO];exact λh=>g (su.1 h).symm,Bool.or_false]
 ·have f:=iT f;have f:(C.length:Int)<=k:=f;obtain rfl:k=C.length:=J
  repeat apply jL
  refine⟨[],_,xj P D 101 [.I C.length] (λp=> !WV C.length p) (λx _=>Pn C.length x),?_⟩;refine RetIs.b ?_;rw[Dl J J q];rw[hM,dQ,fH,fU];exact forall_congr' λx=>forall_congr' λ_=>jS
theorem Pp (o:List Cl_q1) (c:Cl_q1) (q:Nat):(o++[c]).getD q dC=if q<o.length then o.getD q dC else if q=o.length then c else dC:=by
 simp only[List.getD];by_cases h:q<o.length
 ·rw[aE h,fB h]
 ·rw[aB h,gJ J];by_cases a:q=o.length
  ·rw[aE a,a];simp
  ·rw[aB a,eY jO];rfl
theorem aD0 (o:List Cl_q1) (c:Cl_q1): ∀q,q<(o++[c]).length->iJ o.length (lL o) (kJ 2 c.av) q=lL (o++[c]) q:=by
 intro q a;unfold iJ lL;rw[Pp];by_cases h:q<o.length
 ·rw[aE h,aE h]
 ·rw[aB h,aB h];have:q=o.length:=by simp at a;omega
  subst this;rw[iG,aE rfl];rfl
theorem im (o:List Cl_q1) (c:Cl_q1) {l:List Cl_q1} (a:l=o++[c]):eN (.row 326 2 l.length (lL l)) (.row 326 2 (o.length+1) (iJ o.length (lL o) (kJ 2 c.av))):=by subst a;exact⟨rfl,rfl,jS,aD0 o c⟩
theorem RetIs.so_i {k:IntKind} {c:Int} {e sz n n':Nat} {get a:Nat->List AV} {id nid:Nat} {O:List OE} (hg:fK id O=some ([],.row e sz n' a)) (g:n'=n) (hget: ∀k,k<n->a k=get k) (f: ∀k,k<n->AV.freshs (get k)=true):
  RetIs [.row e sz n get] (.tup [.so 0,.i k c]) (.tup [.so id,.i k c]) O nid:=by
 subst g;refine⟨[(0,id)],⟨⟨⟨rfl,rfl,?_⟩,trivial⟩,⟨⟨rfl,rfl,trivial,?_⟩,trivial⟩,rfl⟩,rfl,f⟩
 ·exact rfl
 ·exact mH
def okCO (y:List Cl_q1×Int):List AO:=if y.2=0 then [.row 326 2 y.1.length (lL y.1)] else []
def okCR (y:List Cl_q1×Int):AV:= .tup [if y.2=0 then .so 0 else .val (.slice none 0 0),.I y.2]
theorem Dm {C:List Cm} {P:List Pf_q1} (h:rightCP C P=false):clausesY C P=([],1):=by unfold clausesY;rw[h];rfl
theorem Dn {C:List Cm} {P:List Pf_q1} (h:rightCP C P=true) (a:4000<(fP C P).length):clausesY C P=([],6):=by unfold clausesY;rw[h,aE rfl,aE a]
theorem ky {C:List Cm} {P:List Pf_q1} (h:rightCP C P=true) (a:(fP C P).length<=4000):clausesY C P=(fP C P,0):=by unfold clausesY;rw[h,aE rfl,aB J]
theorem Pq {C:List Cm} {k m:Nat} (h:(C.getD k dCm).acc=(C.getD m dCm).acc):pV C k (m+1)=pV C k m++[⟨2*(m:Int)+1,2*(k:Int)+1⟩]:=by rw[K3,aE h]
theorem Ps {C:List Cm} {k m:Nat} (h:(C.getD k dCm).acc≠(C.getD m dCm).acc):pV C k (m+1)=pV C k m:=by rw[K3,aB h,lE]
theorem tm {C:List Cm} {k m:Nat} (f:C.length<=200) (g:k<=C.length) (h:m<=200):(pN C k++pV C k m).length<=40400:=by have a:=zl C 200 k J;have c:=U0 C k m;have e:k*200<=200*200:=bU _ J;rw[bD];omega
theorem Dp {C:List Cm} {P:List Pf_q1} {q:Nat} (c:C.length<=200) (e:P.length<=400):(pN C C.length++(P.take q).map kP).length<=40900:=by have a:=tm (m:=0) c (aG _) J;simp only[bD,fC,cT] at a|-;omega
theorem xl (P:List Pf_q1) {q:Nat} (h:q<P.length):(P.take (q+1)).map kP=(P.take q).map kP++[kP (P.getD q Uj)]:=by rw[bS h,fJ];simp[List.getD,h]
theorem FL {C:List Cm} {P:List Pf_q1} (h:RightCP C P) {q:Nat} (c:q<P.length):(0<=(P.getD q Uj).a/\(P.getD q Uj).a<1000000)/\(0<=(P.getD q Uj).b/\(P.getD q Uj).b<1000000):=by have e:=h.pf _ (yA Uj c);have f:=h.lc;omega
theorem Clauses_fn (C:List Cm) (P:List Pf_q1) (R:C.length<2^62) (S:P.length<2^62):cC 122 [.rs 2 C.length (rowsM C),.rs 3 P.length (rowsP P)] (okCO (clausesY C P)) (okCR (clausesY C P)):=by
 refine hZ Tryz.func122 [.tmp 4,.tmp 5] [] ?_
 refine jb (ClaimRight_fn C P R S) ?_
 repeat apply jL
 refine jB (!rightCP C P) (λh=> ?_) λh=> ?_
 ·rw[Dm (show rightCP C P=false by simpa using h)];exact⟨ng⟩
 have n:rightCP C P=true:=jH
 have w:=wB.1 n;have D:=w.lc;have N:=w.lp
 repeat apply jL
 refine⟨[(6,326,2)],Nat,λk=>k<=C.length,λk=>[⟨19,[],.I k⟩,⟨6,[],.so 0⟩],λk=>[⟨0,[],.row 326 2 (pN C k).length (lL (pN C k))⟩],λk=>C.length-k,
  q7,?_⟩
 intro k x;have x:k<=C.length:=x;refine .inl ⟨λf=> ?_,λf=> ?_⟩
 ·have f:=pH f;have f:(k:Int)<C.length:=f;have H:(k:Int).toNat=k:=aQ k
  repeat apply jL
  refine⟨⟨J,J⟩,?_⟩
  repeat apply jL
  refine⟨⟨J,J,J⟩,?_⟩
  repeat apply jL
  refine⟨[],Nat,λm=>m<=k,λm=>[⟨28,[],.I m⟩,⟨6,[],.so 0⟩],λm=>[⟨0,[],.row 326 2 (pN C k++pV C k m).length (lL (pN C k++pV C k m))⟩],λm=>k-m,
   ⟨0,[],bI _,rfl,rfl,rfl,rfl,rfl,⟨nT,rfl⟩,?_⟩,?_⟩
  ·have l:eN (.row 326 2 (pN C k++pV C k 0).length (lL (pN C k++pV C k 0))) (.row 326 2 (pN C k).length (lL (pN C k))):=by rw[show pV C k 0=[] from rfl,lE];exact eN.refl _
   exact l
  intro m L;have L:m<=k:=L;have F:=tm (m:=m) D x J;refine .inl ⟨λg=> ?_,λg=> ?_⟩
  ·have g:=pH g;have g:(m:Int)<(((k:Int)-0).toNat:Int):=g;have E:m<k:=J
   have K:Int.toNat 0+(m:Int).toNat=m:=by rw[aQ];exact dR m
   repeat apply jL
   refine⟨⟨J,J⟩,?_⟩
   repeat apply jL
   refine jB ((C.getD (k:Int).toNat dCm).acc==(C.getD (Int.toNat 0+(m:Int).toNat) dCm).acc) (λt=> ?_) λt=> ?_
   ·rw[H,K,cH] at t
    repeat apply jL
    refine⟨[],_,Z4 (m:Int) J J,?_⟩
    repeat apply jL
    refine⟨[],_,Z4 (k:Int) J J,?_⟩;refine⟨oJ J,?_⟩;refine⟨m+1,[(0,4)],E,jM,rfl,rfl,rfl,rfl,rfl,⟨nV,rfl⟩,?_⟩;exact im _ ⟨2*(m:Int)+1,2*(k:Int)+1⟩ (by rw[Pq t,gD])
   ·rw[H,K,cE] at t;refine⟨m+1,[],E,jM,rfl,rfl,rfl,rfl,rfl,⟨nV,rfl⟩,?_⟩;have l:eN (.row 326 2 (pN C k++pV C k (m+1)).length (lL (pN C k++pV C k (m+1)))) (.row 326 2 (pN C k++pV C k m).length (lL (pN C k++pV C k m))):=by rw[Ps t];exact eN.refl _
    exact l
  ·have g:=iT g;have g:(((k:Int)-0).toNat:Int)<=m:=g;obtain rfl:m=k:=J
   refine⟨m+1,[],jM,jM,rfl,rfl,rfl,rfl,rfl,⟨nV,rfl⟩,?_⟩;have l:eN (.row 326 2 (pN C (m+1)).length (lL (pN C (m+1)))) (.row 326 2 (pN C m++pV C m m).length (lL (pN C m++pV C m m))):=by rw[sw];exact eN.refl _
   exact l
 have f:=iT f;have f:(C.length:Int)<=k:=f;obtain rfl:k=C.length:=J
 repeat apply jL
 refine⟨[],Nat,λq=>q<=P.length,λq=>[⟨50,[],.I q⟩,⟨6,[],.so 0⟩],λq=>[⟨0,[],.row 326 2 (pN C C.length++(P.take q).map kP).length (lL (pN C C.length++(P.take q).map kP))⟩],λq=>P.length-q,
  ⟨0,[],bI _,rfl,rfl,rfl,rfl,rfl,⟨nT,rfl⟩,?_⟩,?_⟩
 ·have l:eN (.row 326 2 (pN C C.length++(P.take 0).map kP).length (lL (pN C C.length++(P.take 0).map kP))) (.row 326 2 (pN C C.length).length (lL (pN C C.length))):=by rw[show(P.take 0).map kP=[] by simp,lE];exact eN.refl _
  exact l
 intro q M;have M:q<=P.length:=M;have F:=Dp (q:=q) D N;refine .inl ⟨λf=> ?_,λf=> ?_⟩
 ·have f:=pH f;have f:(q:Int)<P.length:=f;have eq:(q:Int).toNat=q:=aQ q;have G:=FL w (q:=(q:Int).toNat) J
  repeat apply jL
  refine⟨⟨J,J⟩,?_⟩
  repeat apply jL
  refine⟨[],_,Yi (P.getD (q:Int).toNat Uj) G.1 G.2,?_⟩;refine⟨oJ J,?_⟩;refine⟨q+1,[(0,3)],jM,jM,rfl,rfl,rfl,rfl,rfl,⟨nV,rfl⟩,?_⟩;exact im _ (kP (P.getD (q:Int).toNat Uj)) (by rw[xl P J,eq,gD])
 ·have f:=iT f;have f:(P.length:Int)<=q:=f;have O:P.take q=P:=fR J;have z:pN C C.length++(P.take q).map kP=fP C P:=by rw[O];rfl
  have U:(fP C P).length<=40900:=by rw[<-z];exact F
  rw[z]
  repeat apply jL
  refine jB (decide (((fP C P).length:Int)>4000)) (λQ=> ?_) λQ=> ?_
  ·rw[aM] at Q;rw[Dn n J];exact⟨ng⟩
  ·rw[bH] at Q;rw[ky n J];exact RetIs.so_i rfl rfl (λ_ _=>rfl) (λ_ _=>rfl)
instance:DecidableEq Cl_q1:=λx y=>if h:x.a=y.a/\x.b=y.b then isTrue (by cases x;cases y;simp at h;rw[h.1,h.2]) else isFalse (by rintro rfl;exact h ⟨rfl,rfl⟩)
theorem aD1 (f:Nat->List AV) (o:List Cl_q1): ∀q,q<o.length->iJ 0 f (lL o) q=lL o q:=by intro q _;unfold iJ;rw[aB J,rQ]
theorem Yj (l:List Cl_q1) (a:l.length<=1000000):cC 210 [.rs 2 l.length (lL l)] [.row 326 2 l.length (lL l)] (.so 0):=by
 refine hZ Tryz.func210 [.tmp 2] [(999999,[.nl 2 326 2])] ?_;refine .inl λc hc=>⟨λh=> ?_,λh=>⟨oJ J,?_⟩⟩
 ·exact mP
 ·exact RetIs.so rfl (dR _) (λk hk=>aD1 _ l k hk) (λ_ _=>rfl)
theorem aD2 (f:Nat->List AV) (o:List Int): ∀q,q<o.length->iJ 0 f (nB o) q=nB o q:=by intro q _;unfold iJ;rw[aB J,rQ]
theorem Yk (l:List Int) (a:l.length<=1000000):cC 140 [.rs 1 l.length (nB l)] [.row 3 1 l.length (nB l)] (.so 0):=by
 refine hZ Tryz.func140 [.tmp 2] [(999999,[.nl 2 3 1])] ?_;refine .inl λc hc=>⟨λh=> ?_,λh=>⟨oJ J,?_⟩⟩
 ·exact mP
 ·exact RetIs.so rfl (dR _) (λk hk=>aD2 _ l k hk) (λ_ _=>rfl)
def iY (x:Int) (S:List Int):List Int:=S.filter λk=>decide (k≠x)
theorem E6 (x:Int) (S:List Int) {k:Nat} (h:k<S.length):iY x (S.take (k+1))=if S.getD k 0=x then iY x (S.take k) else iY x (S.take k)++[S.getD k 0]:=by
 unfold iY;rw[bS h,gS];have e:S.getD k 0=S[k]:=by simp[List.getD,h]
 rw[<-e];by_cases a:S.getD k 0=x
 ·rw[aE a,oV (by simpa using a)];simp
 ·rw[aB a,oW (by simpa using a)];simp
theorem Pt (x:Int) (S:List Int):(iY x S).length<=S.length:=gC _ _
theorem Z5 (x i:Int):cC 213 [.I x,.rp [.I i]] [] (.b (x==i)):=by refine hZ Tryz.func213 [.tmp 3] [] ?_;exact RetIs.b rfl
theorem Pu (l:List Int) (n:l.length<2^62) (c:FuncId) (e:List AV) (p:Int->Bool) (g: ∀x∈l,cC c [.I x,.rp e] [] (.b (p x))):
  cC 278 [.rs 1 l.length (nB l),.fn c [.rp e]] [] (.I (aH6 p l)):=by
 refine hZ Tryz.func278 [.tmp 4] [] ?_;refine .inl ⟨[],Nat,λk=>k<=l.length/\ ∀j,j<k->p (l.getD j 0)=false,λk=>[⟨8,[],.I k⟩],λ_=>[],λk=>l.length-k,
  na,?_⟩
 intro k f;obtain⟨f,hno⟩:=f;refine .inl ⟨λa=> ?_,λa=> ?_⟩
 ·have a:=pH a;refine .inl ⟨J,.inl ⟨[],_,g (l.getD k 0) (yA 0 J),⟨λh=> ?_,λh=> ?_⟩⟩⟩
  ·refine RetIs.i ?_;exact(aH7 0 p l k J hno h).symm
  ·exact mF
 ·have a:=iT a;refine RetIs.i ?_;exact(aHb 0 p l λj hj=>hno j J).symm
theorem FM {S:List Int} {x:Int} (h:x∈S): ∃k,k<S.length/\S.getD k 0=x/\(∀j,j<k->S.getD j 0≠x)/\aH6 (λy=>y==x) S=k:=by
 have n: ∀m,m<=S.length->(∀j,j<m->S.getD j 0≠x)\/ ∃k,k<m/\S.getD k 0=x/\ ∀j,j<k->S.getD j 0≠x:=by
  intro m
  induction m with
  |zero=>exact λ_=> .inl λj c=>J
  |succ m q=>
   intro t;rcases q J with a|⟨k,a,h2,f⟩
   ·by_cases g:S.getD m 0=x
    ·exact .inr ⟨m,J,g,a⟩
    ·refine .inl λj c=> ?_;by_cases l:j=m
     ·rw[l];exact g
     ·exact a j J
   ·exact .inr ⟨k,J,h2,f⟩
 rcases n S.length (aG _) with a|⟨k,a,h2,f⟩
 ·obtain⟨j,c,e⟩:=tR h;exact absurd e (a j c)
 ·exact⟨k,a,h2,f,aH7 0 _ S k a (λj c=>by simpa using f j c) j2⟩
theorem Dq {S:List Int} {x:Int}: ∀{k:Nat},k<=S.length->(∀j,j<k->S.getD j 0≠x)->iY x (S.take k)=S.take k:=by
 intro k f h;unfold iY;rw[lC];intro y c;obtain⟨j,a,e⟩:=tR c;rw[cT] at a;have:S.getD j 0=y:=by rw[<-e];simp only[List.getD];rw[oN J]
 rw[<-this];simpa using h j J
def wC (x:Int) (S:List Int) (j q:Nat):Int:=if q<(iY x (S.take j)).length then(iY x (S.take j)).getD q 0 else S.getD q 0
theorem xm (S:List Int) (R:S.length<=1000000) (x:Int) (M:x∈S):
  cM 212 false [.row 3 1 S.length (nB S)] [.so 0,.fn 213 [.rp [.I x]]] (λ_:Unit=>True) (λ_=>[.dead]) (λ_=>[.row 3 1 (iY x S).length (nB (iY x S))]) (λ_=> .so 1):=by
 refine sE Tryz.func212 [.tmp 4] [(999999,[.own 4])] ?_;obtain⟨f,F,G,D,H⟩:=FM M
 repeat apply jL
 refine⟨[],_,Pu S J 213 [.I x] (λy=>y==x) (λy _=>Z5 y x),?_⟩;rw[H]
 repeat apply jL
 refine⟨λh=> ?_,λ_=> ?_⟩
 ·have h:((f:Int)== -1)=true:=h;rw[cH] at h;omega
 have w0:iY x (S.take f)=S.take f:=Dq J D;have w1:iY x (S.take (f+1))=S.take f:=by rw[E6 x S F,aE G,w0]
 have C:(S.take f).length=f:=by rw[cT];omega
 repeat apply jL
 refine⟨[],Nat,λj=>f<j/\j<=S.length,λj=>[⟨6,[],.I j⟩,⟨5,[],.I (iY x (S.take j)).length⟩],λj=>[⟨0,[],.row 3 1 S.length λq=>[.I (wC x S j q)]⟩],λj=>S.length-j,
  ⟨f+1,[],⟨J,J⟩,rfl,rfl,rfl,rfl,rfl,⟨nV,⟨rfl,?_⟩⟩,⟨rfl,rfl,rfl,λq n=> ?_⟩⟩,?_⟩
 ·rw[w1,C]
 ·show [AV.I (S.getD q 0)]=[AV.I (wC x S (f+1) q)];unfold wC;rw[w1,C];split
  ·rename_i E;have:(S.take f).getD q 0=S.getD q 0:=by simp only[List.getD];rw[oN E]
   rw[this]
  ·rfl
 rintro j ⟨O,P⟩;have Q:(iY x (S.take j)).length<j:=by
  have: ∀d,f+1+d<=S.length->(iY x (S.take (f+1+d))).length<f+1+d:=by
   intro d
   induction d with
   |zero=>intro _;rw[iL,w1,C];omega
   |succ d N=>
    intro U;have:=N J;rw[show f+1+(d+1)=(f+1+d)+1 by omega,E6 x S J];split
    ·omega
    ·rw[bD];simp;omega
  have:=this (j-(f+1)) J
  rwa [show f+1+(j-(f+1))=j by omega] at this
 refine .inl ⟨λg=> ?_,λg=> ?_⟩
 ·have g:=pH g;have g:(j:Int)<S.length:=g;have L:(j:Int).toNat=j:=aQ j;have t:wC x S j (j:Int).toNat=S.getD j 0:=by unfold wC;rw[L,aB J]
  have l:=E6 x S (k:=j) J
  repeat apply jL
  refine⟨⟨J,J⟩,J,?_⟩
  repeat apply jL
  refine⟨[],_,Z5 (wC x S j (j:Int).toNat) x,?_⟩
  repeat apply jL
  refine jB (!(wC x S j (j:Int).toNat==x)) (λz=> ?_) λz=> ?_
  ·rw[t,dQ,cE] at z;rw[aB z] at l;refine⟨⟨J,J⟩,J,?_⟩;refine⟨j+1,[],⟨J,J⟩,jM,rfl,rfl,rfl,rfl,rfl,⟨nV,⟨rfl,?_⟩⟩,⟨rfl,rfl,rfl,λq n=> ?_⟩⟩
   ·rw[l,bD,wr J J];rfl
   ·show(if q=((iY x (S.take j)).length:Int).toNat then Go.Eng.over_q0 0 [AV.I (wC x S j (j:Int).toNat)] [AV.I (wC x S j q)] else [AV.I (wC x S j q)])=[AV.I (wC x S (j+1) q)];rw[aQ,t];unfold wC;rw[l,E2,bD,cD];by_cases h1:q=(iY x (S.take j)).length
    ·have K:(if q<(iY x (S.take j)).length+1 then(if q<(iY x (S.take j)).length then(iY x (S.take j)).getD q 0 else if q=(iY x (S.take j)).length then S.getD j 0 else 0) else S.getD q 0)=S.getD j 0:=(by rw[aE (show q<(iY x (S.take j)).length+1 by omega),aB (show¬q<(iY x (S.take j)).length by omega),aE h1]);rw[K,aE h1];rfl
    ·rw[aB h1];by_cases h2:q<(iY x (S.take j)).length
     ·rw[aE h2,aE (show q<(iY x (S.take j)).length+1 by omega),aE h2]
     ·rw[aB h2,aB (show¬q<(iY x (S.take j)).length+1 by omega)]
  ·rw[t,hV,cH] at z;rw[aE z] at l;refine⟨j+1,[],⟨J,J⟩,jM,rfl,rfl,rfl,rfl,rfl,⟨nV,⟨rfl,by rw[l]⟩⟩,⟨rfl,rfl,rfl,λq n=> ?_⟩⟩;show [AV.I (wC x S j q)]=[AV.I (wC x S (j+1) q)];unfold wC;rw[l]
 ·have g:=iT g;have g:(S.length:Int)<=j:=g;obtain rfl:j=S.length:=J
  have w:S.take S.length=S:=eJ
  repeat apply jL
  refine⟨⟨J,J,J⟩,?_⟩
  repeat apply jL
  refine⟨⟨J,J,J⟩,?_⟩;refine⟨⟨(),[(1,1)],trivial,⟨nU,⟨nS,⟨rfl,rfl,trivial,⟨rfl,rfl,?_,λq n=> ?_⟩⟩,trivial⟩,rfl⟩,rfl,λ_=>⟨rfl,trivial,λ_ _=>rfl⟩⟩⟩
  ·rw[w];omega
  ·have n:q<(iY x S).length:=n;show(if((iY x (S.take S.length)).length:Int).toNat<=q/\q<((iY x (S.take S.length)).length:Int).toNat+((S.length:Int)-(iY x (S.take S.length)).length).toNat then _ else [AV.I (wC x S S.length q)])=[AV.I ((iY x S).getD q 0)];rw[aB (by rw[w];omega)];unfold wC;rw[w,aE n]
theorem K7.of_sat {l:List Cl_q1} {n:Int} {y:SolK} {a:List Bool} (h:K7 l n y) (f:aGw l n=true) (e:pM l n.toNat []=some a):y= .sat a:=by
 cases y with
 |bad=>have h:aGw l n=false:=h;rw[f] at h;cases h
 |sat g=>obtain⟨_,h⟩:=h;rw[e] at h;rw[cK h]
 |uns c=>obtain⟨_,h,_⟩:=h;rw[e] at h;cases h
theorem K7.of_uns {l:List Cl_q1} {n:Int} {y:SolK} (h:K7 l n y) (a:aGw l n=true) (e:pM l n.toNat []=none): ∃c,y= .uns c/\RefP l n c:=by
 cases y with
 |bad=>have h:aGw l n=false:=h;rw[a] at h;cases h
 |sat f=>obtain⟨_,h⟩:=h;rw[e] at h;cases h
 |uns c=>exact⟨c,rfl,h.2.2⟩
def O9 (L:List Cl_q1) (b:Nat) (S:List Int):List Cl_q1:=L.take b++S.map λi=>L.getD (b+i.toNat) dC
theorem FN (L:List Cl_q1) (b:Nat) (S:List Int) (a:b<=L.length):(O9 L b S).length=b+S.length:=by unfold O9;rw[bD,cT,fC];omega
theorem Yl (L:List Cl_q1) (b:Nat) (S:List Int) {k:Nat} (h:k<S.length):O9 L b (S.take (k+1))=O9 L b (S.take k)++[L.getD (b+(S.getD k 0).toNat) dC]:=by unfold O9;rw[bS h,fJ,gD];simp[List.getD,h]
theorem Pv {n:Int} {L:List Cl_q1} (h:lN n L) (b:Nat) {S:List Int} (e: ∀i∈S,0<=i/\b+i.toNat<L.length):lN n (O9 L b S):=by
 intro c a;rcases cR.1 a with a|a
 ·exact h c (Cp a)
 ·obtain⟨i,f,rfl⟩:=fL.1 a;exact h _ (yA dC (e i f).2)
def WY (L:List Cl_q1) (n b:Nat) (S:List Int):Bool:=(pM (O9 L b S) n []).isNone
theorem Dr (L:List Cl_q1) (C:List Cm) (b:Nat) (S:List Int) (g:RightP L C.length) (G:b<=L.length) (t: ∀i∈S,0<=i/\b+i.toNat<L.length) (N:b+S.length<=4000):
  cC 209 [.rs 1 S.length (nB S),.rp [.rs 2 L.length (lL L)],.rp [.I b],.rp [.rs 2 C.length (rowsM C)]] [] (.b (WY L C.length b S)):=by
 refine hZ Tryz.func209 [.tmp 5] [(2,[.sl 15 .u])] ?_;have K:=g.len;have M:(L.take b).length=b:=by rw[cT];omega
 repeat apply jL
 refine⟨⟨J,J,J⟩,?_⟩;have E:cC 210 [.rs 2 ((b:Int)-0).toNat (λq=>lL L (Int.toNat 0+q))] [.row 326 2 (L.take b).length (lL (L.take b))] (.so 0):=by refine j8.of_eq (args:=[.rs 2 (L.take b).length (lL (L.take b))]) ⟨rfl,J,λq z=> ?_⟩ (Yj (L.take b) J);have z:q<(L.take b).length:=z;show lL L (0+q)=lL (L.take b) q;unfold lL;rw[dR];simp only[List.getD];rw[oN J]
 refine jb E ?_
 repeat apply jL
 refine⟨trivial,?_⟩
 repeat apply jL
 refine⟨[],Nat,λk=>k<=S.length,λk=>[⟨18,[],.I k⟩,⟨6,[],.so 0⟩],λk=>[⟨0,[],.row 326 2 (O9 L b (S.take k)).length (lL (O9 L b (S.take k)))⟩],λk=>S.length-k,
  ⟨0,[],bI _,rfl,rfl,rfl,rfl,rfl,⟨nT,rfl⟩,?_⟩,?_⟩
 ·have D:eN (.row 326 2 (O9 L b (S.take 0)).length (lL (O9 L b (S.take 0)))) (.row 326 2 (L.take b).length (lL (L.take b))):=by rw[show O9 L b (S.take 0)=L.take b by simp[O9]];exact eN.refl _
  exact D
 intro k x;have x:k<=S.length:=x;have l:=FN L b (S.take k) G;rw[cT] at l;refine .inl ⟨λf=> ?_,λf=> ?_⟩
 ·have f:=pH f;have f:(k:Int)<S.length:=f;have n:(k:Int).toNat=k:=aQ k;have H:=t (S.getD (k:Int).toNat 0) (tQ J);have w:IntKind.i64.wrap ((b:Int)+S.getD (k:Int).toNat 0)=b+S.getD (k:Int).toNat 0:=wr J J
  repeat apply jL
  refine⟨⟨J,J⟩,?_⟩
  repeat apply jL
  refine⟨⟨by rw[w];omega,by rw[w];omega⟩,oJ J,?_⟩;refine⟨k+1,[(0,2)],jM,jM,rfl,rfl,rfl,rfl,rfl,⟨nV,rfl⟩,?_⟩;refine im _ (L.getD (IntKind.i64.wrap ((b:Int)+S.getD (k:Int).toNat 0)).toNat dC) ?_;rw[Yl L b S J,w,n];rw[n] at H;rw[show((b:Int)+S.getD k 0).toNat=b+(S.getD k 0).toNat by omega]
 ·have f:=iT f;have f:(S.length:Int)<=k:=f;have F:S.take k=S:=fR J;rw[F] at l|-;have j:RightP (O9 L b S) C.length:=⟨g.lo,g.hi,J,Pv g.cl b t⟩;refine .inr (.inr ⟨false,[],rfl,_,_,_,_,_,Je (O9 L b S) J C.length,λy A=> ?_⟩);unfold WY;cases e:pM (O9 L b S) C.length [] with
  |some O=>obtain rfl:=K7.of_sat A (s8.2 j) e;exact RetIs.b rfl
  |none=>obtain⟨c,rfl,_⟩:=K7.of_uns A (s8.2 j) e;exact RetIs.b rfl
def zr (C:List Cm):Nat:=(pN C C.length).length
def Z6 (C:List Cm) (P:List Pf_q1) (S:List Int):Bool:=WY (fP C P) C.length (zr C) S
theorem Ds (C:List Cm) (P:List Pf_q1):(fP C P).length=zr C+P.length:=by unfold fP zr;rw[bD,fC]
def conflictY (C:List Cm) (P:List Pf_q1):Option (List Int):=if E4 C P=true/\Z6 C P (A6 P.length)=true then some (E1 (Z6 C P) P.length (A6 P.length)) else none
theorem FP (n:Nat):(A6 n).length=n:=by simp[A6]
theorem Ym (n:Nat):A6 (n+1)=A6 n++[(n:Int)]:=by unfold A6;rw[iN,fJ];rfl
theorem Conflict_fn (C:List Cm) (P:List Pf_q1) (W:C.length<2^62) (Y:P.length<2^62):cC 123 [.rs 2 C.length (rowsM C),.rs 3 P.length (rowsP P)] (UP (conflictY C P)) (UQ (conflictY C P)):=by
 refine hZ Tryz.func123 [.tmp 4] [(14,[.sl 38 .u])] ?_;have g:=Clauses_fn C P W Y;by_cases l:E4 C P=true
 ·obtain⟨H,K⟩:=i5.1 l;rw[ky (wB.2 H) K] at g;have g:cC 122 [.rs 2 C.length (rowsM C),.rs 3 P.length (rowsP P)] [.row 326 2 (fP C P).length (lL (fP C P))] (.tup [.so 0,.I 0]):=g;have O:=K4 H K;have a1:=Ds C P;have a2:=H.lp;have Q: ∀S:List Int,(∀x∈S,0<=x/\x<P.length)-> ∀i∈S,0<=i/\zr C+i.toNat<(fP C P).length:=λS h i hi=>by have:=h i hi;omega
  refine jb g ?_
  repeat apply jL
  refine⟨λh=>jC,λ_=> ?_⟩;have wb:IntKind.i64.wrap (((fP C P).length:Int)-P.length)=(zr C:Int):=by rw[wr J J];omega
  repeat apply jL
  refine⟨[(9,3,1)],Nat,λk=>k<=P.length,λk=>[⟨29,[],.I k⟩,⟨9,[],.so 4⟩],λk=>[⟨4,[],.row 3 1 (A6 k).length (nB (A6 k))⟩],λk=>P.length-k,
   q7,?_⟩
  intro k E;have E:k<=P.length:=E;have a0:=FP k;refine .inl ⟨λf=> ?_,λf=> ?_⟩
  ·have f:=pH f;have f:(k:Int)<P.length:=f
   repeat apply jL
   refine⟨oJ J,?_⟩;refine⟨k+1,[(4,6)],jM,jM,rfl,rfl,rfl,rfl,rfl,⟨nV,rfl⟩,zV _ _ (Ym k)⟩
  have f:=iT f;have f:(P.length:Int)<=k:=f;obtain rfl:k=P.length:=J
  have M: ∀S:List Int,(∀x∈S,0<=x/\x<P.length)->S.length<=P.length->cC 209 [.rs 1 S.length (nB S),.rp [.rs 2 (fP C P).length (lL (fP C P))],.rp [.I (IntKind.i64.wrap (((fP C P).length:Int)-P.length))],.rp [.rs 2 C.length (rowsM C)]] [] (.b (Z6 C P S)):=λS h1 h2=>by rw[wb];exact Dr (fP C P) C (zr C) S O J (Q S h1) J
  repeat apply jL
  refine⟨[],_,M (A6 P.length) (λx n=>sy.1 n) J,?_⟩
  repeat apply jL
  refine jB (!Z6 C P (A6 P.length)) (λh=> ?_) λh=> ?_
  ·have e:conflictY C P=none:=aB (λhh=>by rw[hh.2] at h;cases h);rw[e];exact⟨ng⟩
  have hu:Z6 C P (A6 P.length)=true:=jH
  have e:conflictY C P=some (E1 (Z6 C P) P.length (A6 P.length)):=aE ⟨l,hu⟩;rw[e]
  repeat apply jL
  refine⟨trivial,?_⟩
  repeat apply jL
  have N:(∀y:Int,0<=y->y<(P.length:Nat)->y∈A6 P.length)/\(∀y∈A6 P.length,0<=y/\y<P.length)/\(A6 P.length).length<=P.length:=⟨λy h1 h2=>sy.2 ⟨h1,h2⟩,λy h=>sy.1 h,J⟩;refine⟨[],Nat×List Int,λx=>x.1<=P.length/\E1 (Z6 C P) x.1 x.2=E1 (Z6 C P) P.length (A6 P.length)/\(∀y:Int,0<=y->y<(x.1:Nat)->y∈x.2)/\(∀y∈x.2,0<=y/\y<P.length)/\x.2.length<=P.length,λx=>[⟨9,[],.so 4⟩,⟨11,[],.p 5 0⟩],λx=>[⟨4,[],.row 3 1 x.2.length (nB x.2)⟩,⟨5,[],.cells 3 [.I ((x.1:Int)-1)]⟩],λx=>x.1,
   ⟨(P.length,A6 P.length),[],⟨aG _,rfl,N⟩,rfl,rfl,rfl,rfl,rfl,nT,⟨eN.refl _,⟨rfl,?_⟩⟩⟩,?_⟩
  ·exact nV
  rintro⟨m,left⟩ ⟨hm,t,z,w,L⟩;dsimp only at hm t z w L;refine .inl ⟨λf=> ?_,λf=> ?_⟩
  ·have f:decide ((m:Int)-1>=0)=true:=f;rw[aM] at f;obtain⟨i,rfl⟩: ∃i,m=i+1:=⟨m-1,J⟩;have U:((i+1:Nat):Int)-1=i:=J
   have R:((i+1:Nat):Int)-1∈left:=z _ J J
   repeat apply jL
   refine⟨_,_,Yk left J,?_⟩;refine .inr (.inr ⟨false,[6],rfl,Unit,_,_,_,_,xm left J (((i+1:Nat):Int)-1) R,λ_ _=> ?_⟩);have a3:=Pt (((i+1:Nat):Int)-1) left
   repeat apply jL
   refine⟨[],_,M (iY (((i+1:Nat):Int)-1) left) (λx n=>w x (eC.1 n).1) J,?_⟩;have D:Pe (Z6 C P) left (i:Nat)=if Z6 C P (iY (((i+1:Nat):Int)-1) left) then iY (((i+1:Nat):Int)-1) left else left:=by rw[U];rfl
   repeat apply jL
   refine jB (Z6 C P (iY (((i+1:Nat):Int)-1) left)) (λG=> ?_) λG=> ?_
   ·rw[aE G] at D;refine⟨(i,iY (((i+1:Nat):Int)-1) left),[(4,7),(5,8)],⟨jM,?_,λy h1 h2=> ?_,λx n=>w x (eC.1 n).1,jM⟩,jM,rfl,rfl,rfl,rfl,rfl,nT,⟨eN.refl _,⟨rfl,?_⟩⟩⟩
    ·rw[<-t,<-D];rfl
    ·dsimp only at h2;exact eC.2 ⟨z y h1 J,jO⟩
    ·refine⟨rfl,?_⟩;rw[wr J J];omega
   ·rw[G] at D;refine⟨(i,left),[(5,8)],⟨jM,?_,λy h1 h2=> ?_,w,L⟩,jM,rfl,rfl,rfl,rfl,rfl,nT,⟨eN.refl _,⟨rfl,?_⟩⟩⟩
    ·rw[<-t];show E1 (Z6 C P) i left=E1 (Z6 C P) i (Pe (Z6 C P) left (i:Nat));rw[D];rfl
    ·dsimp only at h2;exact z y h1 J
    ·refine⟨rfl,?_⟩;rw[wr J J];omega
  ·have f:decide ((m:Int)-1>=0)=false:=f;rw[bH] at f;obtain rfl:m=0:=J
   rw[<-t];exact RetIs.so rfl rfl (λ_ _=>rfl) (λ_ _=>rfl)
 ·have l:E4 C P=false:=by simpa using l
  have e:conflictY C P=none:=aB (λhh=>by rw[hh.1] at l;cases l);rw[e];have h2: ∃k:Int,k≠0/\clausesY C P=([],k):=by
   unfold clausesY;cases hr:rightCP C P with
   |false=>exact⟨1,jD,rfl⟩
   |true=>
    by_cases G:4000<(fP C P).length
    ·exact⟨6,jD,by rw[aE rfl,aE G]⟩
    ·rw[i5.2 ⟨wB.1 hr,J⟩] at l;cases l
  obtain⟨k,F,E⟩:=h2;rw[E] at g;have g:cC 122 [.rs 2 C.length (rowsM C),.rs 3 P.length (rowsP P)] [] (.tup [.val (.slice none 0 0),.I k]):=by unfold okCO okCR at g;rw[aB F,aB F] at g;exact g
  refine jb g ?_
  repeat apply jL
  refine⟨λ_=> ?_,λh=> ?_⟩
  ·exact mQ
  ·have h:(k !=0)=false:=h;rw[fY] at h;exact absurd h F
end Go.Proofs.YtpnjmojpeaegoaaGreatDoor.Sb
namespace Go.Proofs.YtpnjmojpeaegoaaGreatDoor
open Go.Eng
def Ji (c:Int):Bool:=decide (c>=97)&&decide (c<=122)
def zW (c:Int):Bool:=decide (c>=48)&&decide (c<=57)
def Z7 (c:Int):Bool:=(c==32||c==9)||c==10
def io (c:Int):Bool:=Ji c||zW c
theorem N5 (c:Int):cC 150 [.i .u8 c] [] (.b (Ji c)):=by refine hZ Tryz.func150 [.tmp 2] [] ?_;exact RetIs.b rfl
theorem K8 (c:Int):cC 152 [.i .u8 c] [] (.b (zW c)):=by refine hZ Tryz.func152 [.tmp 2] [] ?_;exact RetIs.b rfl
theorem FQ (c:Int):cC 74 [.i .u8 c] [] (.b (Z7 c)):=by refine hZ Tryz.func74 [.tmp 2] [] ?_;exact RetIs.b rfl
theorem WZ (c:Int):cC 151 [.i .u8 c] [] (.b (io c)):=by
 refine hZ Tryz.func151 [.tmp 2] [] ?_
 refine jb (N5 c) ?_
 refine jc (K8 c) ?_;exact RetIs.b rfl
theorem PA (c:Int):cC 154 [.i .u8 c] [] (.b (io c)):=by
 refine hZ Tryz.func154 [.tmp 2] [] ?_
 refine jb (N5 c) ?_
 refine jc (K8 c) ?_;exact RetIs.b rfl
def Uq (p:Int->Bool) (x:ByteArray):Nat->Nat->Nat
 |0,k=>k
 |n+1,k=>if k<x.size/\p (z8 x k 0)=true then Uq p x n (k+1) else k
def G6 (p:Int->Bool) (x:ByteArray):Nat:=Uq p x x.size 0
theorem FR (p:Int->Bool) (x:ByteArray): ∀n k,k<=x.size->Uq p x n k<=x.size
 |0,k,h=>h
 |n+1,k,h=>by
  unfold Uq;split
  ·rename_i a;exact FR p x n (k+1) a.1
  ·exact h
theorem tn (p:Int->Bool) (x:ByteArray): ∀n k,x.size<=n+k-> ¬(Uq p x n k<x.size/\p (z8 x (Uq p x n k) 0)=true)
 |0,k,h=>λc=>by have:=c.1;unfold Uq at this;omega
 |n+1,k,h=>by
  unfold Uq;split
  ·exact tn p x n (k+1) J
  ·rename_i a;exact a
theorem Dt (p:Int->Bool) (x:ByteArray): ∀n k j,k<=j->j<Uq p x n k->p (z8 x j 0)=true
 |0,k,j,c,a=>by unfold Uq at a;omega
 |n+1,k,j,c,a=>by
  unfold Uq at a;split at a
  ·rename_i f;by_cases e:j=k
   ·rw[e];exact f.2
   ·exact Dt p x n (k+1) j J a
  ·omega
theorem ip (p:Int->Bool) (x:ByteArray):G6 p x<=x.size:=FR p x _ _ (bI _)
theorem XA {p:Int->Bool} {x:ByteArray} {k:Nat} (f: ∀j,j<k->p (z8 x j 0)=true) (l:k<=x.size) (g: ¬(k<x.size/\p (z8 x k 0)=true)):G6 p x=k:=by
 have a:=tn p x x.size 0 J;have b:=Dt p x x.size 0;have c:=ip p x;have e:G6 p x=Uq p x x.size 0:=rfl;rw[<-e] at a b;rcases kL (G6 p x) k with h|h|h
 ·exact absurd ⟨J,f _ h⟩ a
 ·exact h
 ·exact absurd ⟨J,b k (bI _) h⟩ g
theorem Z8 (f:FuncId) (p:Int->Bool) (t: ∀c,cC f [.i .u8 c] [] (.b (p c))) (x:ByteArray) (z:x.size<9223372036854775807):cC 73 [.s x,.fn f []] [] (.I (G6 p x)):=by
 refine hZ Tryz.func73 [.tmp 4] [] ?_
 repeat apply jL
 refine⟨[],Nat,λk=>k<=x.size/\ ∀j,j<k->p (z8 x j 0)=true,λk=>[⟨5,[],.I k⟩],λ_=>[],λk=>x.size-k,
  nc,?_⟩
 rintro k ⟨l,g⟩;have l:k<=x.size:=l;have g: ∀j,j<k->p (z8 x j 0)=true:=g;have n:((k:Nat):Int).toNat=k:=aQ k
 repeat apply jL
 refine⟨λw=> ?_,?_⟩
 ·have h:decide ((k:Int)<x.size)=true:=w.1;rw[aM] at h;exact⟨J,h⟩
 refine jc (t _) ?_;refine jB (decide ((k:Int)<x.size)&&p (z8 x ((k:Nat):Int).toNat 0)) (λh=> ?_) λh=> ?_
 ·rw[aW,aM,n] at h;refine⟨k+1,[],⟨J,λj hj=> ?_⟩,jM,rfl,rfl,rfl,rfl,rfl,nV,trivial⟩;by_cases e:j=k
  ·rw[e];exact h.2
  ·exact g j J
 ·rw[n] at h;refine RetIs.i ?_;rw[XA g l];rintro⟨h1,h2⟩;rw[h2,gH J] at h;cases h
def gB:ByteArray:=⟨#[]⟩
def tx0:ByteArray:=⟨#[48]⟩
def txS:ByteArray:=⟨#[59]⟩
theorem Jj {x:ByteArray} (h:fG x gB=false):0<x.size:=by
 by_cases c:x.size=0
 ·have:x=gB:=ByteArray.ext (C0 (by
   have a:x.data.toList.length=0:=(by simpa using c);rw[wP.1 a];rfl))
  rw[this,kU.2 rfl] at h;cases h
 ·omega
def zK (x:ByteArray):Bool:= !((fG x gB|| !Ji (z8 x 0 0))||decide ((x.size:Int)>20))&&((G6 io x:Int)==(x.size:Int))
theorem Du (x:ByteArray) (e:x.size<9223372036854775807):cC 80 [.s x] [] (.b (zK x)):=by
 refine hZ Tryz.func80 [.tmp 2] [] ?_
 repeat apply jL
 refine⟨λf=> ?_,?_⟩
 ·have h:fG x gB=false:=f.1;have:=Jj h;exact⟨J,J⟩
 refine jc (N5 _) ?_;refine⟨λh=>RetIs.b ?_,λh=> ?_⟩
 ·have h:((fG x gB|| !Ji (z8 x 0 0))||decide ((x.size:Int)>20))=true:=h;unfold zK;rw[h];rfl
 ·have h:((fG x gB|| !Ji (z8 x 0 0))||decide ((x.size:Int)>20))=false:=h
  repeat apply jL
  refine⟨_,_,Z8 154 io PA x e,RetIs.b ?_⟩;unfold zK;rw[h];rfl
def Z9 (x:ByteArray):Nat->Int
 |0=>0
 |k+1=>10*Z9 x k+(z8 x k 0-48)
def XB (x:ByteArray):Bool:=((fG x gB||((G6 zW x:Int) !=(x.size:Int)))||(z8 x 0 0==48&& !fG x tx0))||decide ((x.size:Int)>13)
def Dv (x:ByteArray):Int×Bool:=if XB x=true then(0,false) else if Z9 x x.size>1099511627776 then(0,false) else(Z9 x x.size,true)
theorem Ur {x:ByteArray} (h: ∀j,j<x.size->zW (z8 x j 0)=true): ∀k,k<=x.size->0<=Z9 x k/\Z9 x k<10^k
 |0,_=>⟨kR 0,by show(0:Int)<10^0;decide⟩
 |k+1,l=>by obtain⟨f,g⟩:=Ur h k J;have a:=h k J;unfold zW at a;rw[aW,aM,aM] at a;have e:Z9 x (k+1)=10*Z9 x k+(z8 x k 0-48):=rfl;have c:(10:Int)^(k+1)=10^k*10:=Int.pow_succ ..;rw[e,c];omega
theorem aD3 {k:Nat} (h:k<=13):(10:Int)^k<=10000000000000:=by
 have:(10:Nat)^k<=10^13:=yI jD h;have e:(10:Int)^k=((10^k:Nat):Int):=jS
 rw[e];omega
theorem Yn (x:ByteArray) (F:x.size<9223372036854775807):cC 153 [.s x] [] (.tup [.I (Dv x).1,.b (Dv x).2]):=by
 refine hZ Tryz.func153 [.tmp 2,.tmp 3] [] ?_
 refine jc (Z8 152 zW K8 x F) ?_;refine⟨λL=> ?_,?_⟩
 ·have h:(fG x gB||((G6 zW x:Int) !=(x.size:Int)))=false:=L.1;rw[bT] at h;have:=Jj h.1;exact⟨J,J⟩
 refine jB (XB x) (λh=> ?_) λh=> ?_
 ·unfold Dv;rw[aE h];exact ng
 have f:=h;unfold XB at f;rw[bT,bT,bT] at f;obtain⟨⟨⟨H,w⟩,_⟩,z⟩:=f;have G:x.size<=13:=by have: ¬((x.size:Int)>13):=sU z;omega
 have l: ∀j,j<x.size->zW (z8 x j 0)=true:=by
  have e:G6 zW x=x.size:=by have:(G6 zW x:Int)=(x.size:Int):=(by simpa using w);omega
  intro j E;exact Dt zW x x.size 0 j (bI _) (by rw[show Uq zW x x.size 0=G6 zW x from rfl,e];exact E)
 repeat apply jL
 refine⟨[],Nat,λk=>k<=x.size,λk=>[⟨31,[],.I k⟩,⟨4,[],.I (Z9 x k)⟩],λ_=>[],λk=>x.size-k,
  qP,?_⟩
 intro k g;have g:k<=x.size:=g;have D:((k:Nat):Int).toNat=k:=aQ k;have K:=Ur l k g;have M:=aD3 (k:=k) J;refine .inl ⟨λf=> ?_,λf=> ?_⟩
 ·have f:=pH f;have f:(k:Int)<x.size:=f;have t:=l k J;unfold zW at t;rw[aW,aM,aM] at t
  repeat apply jL
  refine⟨⟨J,J⟩,?_⟩;refine⟨k+1,[],(by show k+1<=x.size;omega),jM,rfl,rfl,rfl,rfl,rfl,⟨nV,⟨rfl,?_⟩⟩,trivial⟩;show IntKind.i64.wrap (IntKind.i64.wrap (10*Z9 x k)+IntKind.i64.wrap (IntKind.u8.wrap (z8 x ((k:Nat):Int).toNat 0-48)))=Z9 x (k+1);have e:IntKind.u8.wrap (z8 x k 0-48)=z8 x k 0-48:=by have C:IntKind.u8.wrap (z8 x k 0-48)=(z8 x k 0-48)% 2^8:=rfl;rw[C];omega
  rw[D,e,wr (n:=10*Z9 x k) J J,wr (n:=z8 x k 0-48) J J,wr J J];rfl
 ·have f:=iT f;have f:(x.size:Int)<=(k:Nat):=f;have e:k=x.size:=J
  subst e;have N:Z9 x x.size=Z9 x x.size:=rfl
  repeat apply jL
  refine jB (decide (Z9 x x.size>1099511627776)) (λh2=> ?_) λh2=> ?_
  ·unfold Dv;rw[aB jR,aE (kK h2)];exact ng
  ·unfold Dv;rw[aB jR,aB (sU h2)];exact ng
structure Tok where
 k:Int
 x:ByteArray
 n:Int
 p:Int
def Tok.av (t:Tok):List AV:=[.I t.k,.s t.x,.I t.n,.I t.p]
def U3:Tok:=⟨0,gB,0,0⟩
def tV (x:ByteArray):Tok×Int:=
 if Ji (z8 x 0 0)=true then(if zK (x.extract 0 (G6 io x))=true then(⟨0,x.extract 0 (G6 io x),0,0⟩,0) else(U3,11))
 else if zW (z8 x 0 0)=true then
  (if(Dv (x.extract 0 (G6 zW x))).2=true then(⟨1,x.extract 0 (G6 zW x),(Dv (x.extract 0 (G6 zW x))).1,0⟩,0) else(U3,3))
 else if z8 x 0 0=59 then(⟨2,txS,0,0⟩,0) else(U3,10)
theorem PB (x:ByteArray) (l:x.size<9223372036854775807) (t:0<x.size):cC 75 [.s x] [] (.tup [.ag (tV x).1.av,.I (tV x).2]):=by
 have j: ∀n,(x.extract 0 n).size<9223372036854775807:=λn=>by rw[jZ];omega
 have g: ∀p,G6 p x<=x.size:=λp=>ip p x;refine hZ Tryz.func75 [.cell 2 132,.tmp 3] [] ?_
 repeat apply jL
 refine⟨⟨J,J⟩,?_⟩
 refine jb (N5 _) ?_
 repeat apply jL
 refine⟨λh=> ?_,λh=> ?_⟩
 ·have h:Ji (z8 x 0 0)=true:=h
  refine jb (Z8 151 io WZ x l) ?_;have:=g io;refine⟨⟨J,J,J⟩,?_⟩
  refine jb (Du (x.extract 0 (G6 io x)) (j _)) ?_;refine jB (!zK (x.extract 0 (G6 io x))) (λh2=> ?_) λh2=> ?_
  ·have e:tV x=(U3,11):=by unfold tV;rw[aE h,aB (by rw[dQ] at h2;rw[h2];decide)]
   rw[e];exact ng
  ·have e:tV x=(⟨0,x.extract 0 (G6 io x),0,0⟩,0):=by unfold tV;rw[aE h,aE j2]
   rw[e];exact ng
 have h:Ji (z8 x 0 0)=false:=h
 repeat apply jL
 refine⟨⟨J,J⟩,?_⟩
 refine jb (K8 _) ?_
 repeat apply jL
 refine⟨λf=> ?_,λf=> ?_⟩
 ·have f:zW (z8 x 0 0)=true:=f
  refine jb (Z8 152 zW K8 x l) ?_;have:=g zW;refine⟨⟨J,J,J⟩,?_⟩
  refine jb (Yn (x.extract 0 (G6 zW x)) (j _)) ?_
  repeat apply jL
  refine jB (!(Dv (x.extract 0 (G6 zW x))).2) (λh2=> ?_) λh2=> ?_
  ·have e:tV x=(U3,3):=by unfold tV;rw[aB jR,aE f,aB (by rw[dQ] at h2;rw[h2];decide)]
   rw[e];exact ng
  ·have e:tV x=(⟨1,x.extract 0 (G6 zW x),(Dv (x.extract 0 (G6 zW x))).1,0⟩,0):=by unfold tV;rw[aB jR,aE f,aE j2]
   rw[e];exact ng
 have f:zW (z8 x 0 0)=false:=f
 repeat apply jL
 refine⟨⟨J,J⟩,?_⟩
 repeat apply jL
 refine jB (z8 x 0 0==59) (λh2=> ?_) λh2=> ?_
 ·have e:tV x=(⟨2,txS,0,0⟩,0):=by unfold tV;rw[aB jR,aB (by rw[f];decide),aE j2]
  rw[e];exact ng
 ·have e:tV x=(U3,10):=by unfold tV;rw[aB jR,aB (by rw[f];decide),aB j2]
  rw[e];exact ng
theorem xE {α:Type} {l:List α} {d:α} {k:Nat} (h:k<l.length):l.getD k d=l[k]:=by simp[List.getD,h]
theorem m0 {α:Type} (l:List α) (a d:α) (k:Nat):(l++[a]).getD k d=if k<l.length then l.getD k d else if k=l.length then a else d:=by
 by_cases h:k<l.length
 ·rw[aE h,xE h,xE jO];simp[h]
 ·rw[aB h];by_cases e:k=l.length
  ·rw[aE e,e];simp
  ·rw[aB e];have:(l++[a]).length<=k:=jO
   rw[List.getD,eY this];rfl
theorem Jk {α:Type} (e:TypeId) (sz:Nat) (f:α->List AV) (d:α) (c: ∀a,(f a).length=sz) (l:List α) (a:α):
  eN (.row e sz (l++[a]).length (λk=>f ((l++[a]).getD k d))) (.row e sz (l.length+1) (iJ l.length (λk=>f (l.getD k d)) (kJ sz (f a)))):=by
 refine⟨rfl,rfl,jS,λk g=> ?_⟩;dsimp only;unfold iJ;rw[m0];by_cases h:k<l.length
 ·rw[aE h,aE h]
 ·have:k=l.length:=by rw[bD,cD] at g;omega
  subst this;rw[aB h,aE rfl,aB h,iG];unfold kJ;simp[<-c a]
def UR (l:List Tok) (k:Nat):List AV:=(l.getD k U3).av
def tail (x:ByteArray) (n:Nat):ByteArray:=x.extract n x.size
theorem o9 (x:ByteArray) (n:Nat):(tail x n).size=x.size-n:=by unfold tail;rw[jZ];omega
def Tok.pl (t:Tok) (p:Int):Tok:=⟨t.k,t.x,t.n,p⟩
def y7 (x:ByteArray):Nat->Nat->List Tok->List Tok×Int×Int
 |0,at_,c=>(c,at_,0)
 |n+1,at_,c=>
  let a:=at_+G6 Z7 (tail x at_)
  if a=x.size then(c++[⟨3,gB,0,a⟩],0,0)
  else if(tV (tail x a)).2≠0 then([],a,(tV (tail x a)).2)
  else y7 x n (a+(tV (tail x a)).1.x.size) (c++[(tV (tail x a)).1.pl a])
def vA (x:ByteArray):List Tok×Int×Int:=if x.size>2000 then([],0,6) else y7 x (x.size+1) 0 []
theorem tp {x:ByteArray} (j:0<x.size) (h:(tV x).2=0):0<(tV x).1.x.size/\(tV x).1.x.size<=x.size:=by
 have g: ∀p,p (z8 x 0 0)=true->0<(x.extract 0 (G6 p x)).size/\(x.extract 0 (G6 p x)).size<=x.size:=λp l=>by
  have c:=ip p x;have a:0<G6 p x:=by
   by_cases e:G6 p x=0
   ·have:=tn p x x.size 0 J;rw[show Uq p x x.size 0=G6 p x from rfl,e] at this;exact absurd ⟨j,l⟩ this
   ·omega
  rw[jZ];omega
 unfold tV at h|-;split
 ·rename_i c;rw[aE c] at h;split
  ·exact g io (by unfold io;rw[c];rfl)
  ·rename_i a;rw[aB a] at h;exact absurd h jD
 ·rename_i c;rw[aB c] at h;split
  ·rename_i a;rw[aE a] at h;split
   ·exact g zW a
   ·rename_i f;rw[aB f] at h;exact absurd h jD
  ·rename_i a;rw[aB a] at h;split
   ·exact⟨by show 0<txS.size;decide,by show txS.size<=x.size;have:txS.size=1:=rfl;omega⟩
   ·rename_i f;rw[aB f] at h;exact absurd h jD
theorem DF (l:List Tok) (a:Tok):eN (.row 132 4 (l++[a]).length (UR (l++[a]))) (.row 132 4 (l.length+1) (iJ l.length (UR l) (kJ 4 a.av))):=Jk 132 4 Tok.av U3 (λ_=>rfl) l a
def Yo (x:ByteArray):List AO:=if(vA x).2.2=0 then [.row 132 4 (vA x).1.length (UR (vA x).1)] else []
def Yp (x:ByteArray):AV:= .tup [if(vA x).2.2=0 then .so 0 else .val (.slice none 0 0),.I (vA x).2.1,.I (vA x).2.2]
theorem FT (x:ByteArray) (R:x.size<9223372036854775807):cC 25 [.s x] (Yo x) (Yp x):=by
 refine hZ Tryz.func25 [.tmp 2,.tmp 3,.tmp 4] [(1000003,[.nl 5 132 4])] ?_
 repeat apply jL
 refine jB (decide ((x.size:Int)>2000)) (λh=> ?_) λh=> ?_
 ·rw[aM] at h;have e:vA x=([],0,6):=by unfold vA;rw[aE J]
  unfold Yo Yp;rw[e,aB jD,aB jD];exact ng
 rw[bH] at h;have K:vA x=y7 x (x.size+1) 0 []:=by unfold vA;rw[aB J]
 repeat apply jL
 refine⟨[],Nat×Nat×List Tok,λp=>p.2.1<=x.size/\x.size+1<=p.1+p.2.1/\p.2.2.length<=p.2.1/\vA x=y7 x p.1 p.2.1 p.2.2,λp=>[⟨6,[],.I p.2.1⟩,⟨5,[],.so 0⟩],λp=>[⟨0,[],.row 132 4 p.2.2.length (UR p.2.2)⟩],λp=>x.size-p.2.1,
  ⟨(x.size+1,0,[]),[],⟨bI _,aG _,aG _,K⟩,rfl,rfl,rfl,rfl,rfl,⟨nT,rfl⟩,qA⟩,?_⟩
 rintro⟨n,f,j⟩ ⟨G,H,F,w⟩;have G:f<=x.size:=G;have H:x.size+1<=n+f:=H;have F:j.length<=f:=F;have w:vA x=y7 x n f j:=w;obtain⟨n,rfl⟩: ∃m,n=m+1:=⟨n-1,J⟩;have Q:=o9 x f;have O:=ip Z7 (tail x f)
 repeat apply jL
 refine⟨⟨J,J,J⟩,?_⟩
 repeat apply jL
 refine⟨_,_,Z8 74 Z7 FQ (tail x f) J,?_⟩;obtain⟨a,C⟩: ∃a,a=f+G6 Z7 (tail x f):=⟨_,rfl⟩;have g:IntKind.i64.wrap ((f:Int)+(G6 Z7 (tail x f):Nat))=(a:Int):=by rw[wr J J];omega
 repeat apply jL
 refine jB (IntKind.i64.wrap ((f:Int)+(G6 Z7 (tail x f):Nat))==(x.size:Int)) (λh2=> ?_) λh2=> ?_
 ·rw[g,cH] at h2;have e:vA x=(j++[⟨3,gB,0,a⟩],0,0):=by rw[w];unfold y7;dsimp only;rw[<-C,aE J]
  repeat apply jL
  refine⟨oJ J,?_⟩;have l:=DF j ⟨3,gB,0,a⟩;rw[<-g] at e l;unfold Yo Yp;rw[e];exact⟨[(0,2)],⟨nR,⟨⟨rfl,rfl,trivial,l⟩,trivial⟩,rfl⟩,rfl,λk hk=>rfl⟩
 rw[g,cE] at h2;have P:=o9 x a;have N:a<x.size:=J
 repeat apply jL
 refine⟨⟨by rw[g];omega,by rw[g];omega,J⟩,?_⟩
 repeat apply jL
 have D:=PB (tail x a) J J;have E:x.extract (IntKind.i64.wrap ((f:Int)+(G6 Z7 (tail x f):Nat))).toNat x.size=tail x a:=by rw[g,aQ];rfl
 rw[<-E] at D;obtain⟨q,z⟩: ∃q,q=tV (tail x a):=⟨_,rfl⟩;rw[E,<-z,<-E] at D;refine⟨_,_,D,?_⟩
 repeat apply jL
 refine jB (q.2 !=0) (λt=> ?_) λt=> ?_
 ·rw[lM] at t;have e:vA x=([],(a:Int),q.2):=by rw[w];unfold y7;dsimp only;rw[<-C,aB J,<-z,aE t]
  unfold Yo Yp;rw[e];dsimp only;rw[aB t,aB t,<-g];exact ng
 ·rw[fY] at t;obtain⟨L,M⟩:=tp (x:=tail x a) J (by rw[<-z];exact t);rw[<-z] at L M;have e:vA x=y7 x n (a+q.1.x.size) (j++[q.1.pl a]):=by
   rw[w]
   conv=>lhs;unfold y7
   dsimp only;rw[<-C,aB J,<-z,aB J]
  repeat apply jL
  refine⟨oJ J,?_⟩;have l:=DF j (q.1.pl a);refine⟨(n,a+q.1.x.size,j++[q.1.pl a]),[(0,3)],⟨jM,jM,jO,e⟩,jM,rfl,rfl,rfl,rfl,rfl,⟨⟨rfl,?_⟩,rfl⟩,?_⟩
  ·show IntKind.i64.wrap (IntKind.i64.wrap ((f:Int)+(G6 Z7 (tail x f):Nat))+(q.1.x.size:Nat))=((a+q.1.x.size:Nat):Int);rw[g,wr J J];omega
  ·dsimp only;rw[<-g] at l|-;exact l
def rB (l:List ByteArray) (k:Nat):List AV:=[.s (l.getD k gB)]
def ixF (l:List ByteArray) (x:ByteArray):Nat->Nat->Int
 |0,_=> -1
 |n+1,k=>if fG x (l.getD k gB)=true then k else ixF l x n (k+1)
def aHm (l:List ByteArray) (x:ByteArray):Int:=ixF l x l.length 0
theorem PC (l:List ByteArray) (g:l.length<2^62) (x:ByteArray):cC 77 [.rs 1 l.length (rB l),.s x] [] (.I (aHm l x)):=by
 refine hZ Tryz.func77 [.tmp 4] [] ?_;refine .inl ⟨[],Nat,λk=>k<=l.length/\aHm l x=ixF l x (l.length-k) k,λk=>[⟨8,[],.I k⟩],λ_=>[],λk=>l.length-k,
  ⟨0,[],⟨bI _,rfl⟩,rfl,rfl,rfl,rfl,rfl,nT,trivial⟩,?_⟩
 rintro k ⟨f,a⟩;refine .inl ⟨λe=> ?_,λe=> ?_⟩
 ·have e:=pH e;have c:l.length-k=(l.length-(k+1))+1:=J
  rw[c] at a;unfold ixF at a;refine .inl ⟨J,⟨λh=> ?_,λh=> ?_⟩⟩
  ·have h:fG x (l.getD k gB)=true:=h;rw[aE h] at a;exact RetIs.i a.symm
  ·have h:fG x (l.getD k gB)=false:=h;rw[aB jR] at a;exact⟨k+1,[],⟨J,a⟩,jM,rfl,rfl,rfl,rfl,rfl,nV,trivial⟩
 ·have e:=iT e;have c:l.length-k=0:=J
  rw[c] at a;exact RetIs.i a.symm
structure RS where
 ts:List Tok
 pos:Int
 err:Int
def RS.o (s:RS):AO:= .cells 123 [.rs 4 s.ts.length (UR s.ts),.I s.pos,.I s.err]
def RS.hd (s:RS):Tok:=s.ts.getD 0 U3
def i6 (s:RS) (e:Int):RS:=if s.err=0 then⟨s.ts,s.hd.p,e⟩ else s
theorem aGt (s:RS) (f:0<s.ts.length) (e:Int):cM 36 true [s.o] [.p 0 0,.I e] (λ_:Unit=>True) (λ_=>[(i6 s e).o]) (λ_=>[]) (λ_=> .tup []):=by
 refine sE Tryz.func36 [] [] ?_
 repeat apply jL
 refine jB (s.err==0) (λh=> ?_) λh=> ?_
 ·rw[cH] at h;refine⟨J,?_⟩;unfold i6;rw[aE h];exact ny
 ·rw[cE] at h;unfold i6;rw[aB h];exact ny
def RS.tl (s:RS):RS:=⟨s.ts.tail,s.pos,s.err⟩
theorem FU (s:RS):eV (.rs 4 s.tl.ts.length (UR s.tl.ts)) (.rs 4 ((s.ts.length:Int)-1).toNat (λq=>UR s.ts (Int.toNat 1+q))):=by refine⟨rfl,by show _=s.ts.tail.length;rw[xL];omega,λk a=> ?_⟩;show(s.ts.getD (1+k) U3).av=(s.ts.tail.getD k U3).av;rw[rO,List.getD,List.getD,i2]
def skC (s:RS):Bool:=s.err !=0||(s.hd.k !=0&&s.hd.k !=2)
def Mv (s:RS) (l:List ByteArray):Int:=if skC s=true then-1 else aHm l s.hd.x
def Mw (s:RS) (l:List ByteArray):RS:=if Mv s l>=0 then s.tl else s
theorem Us (l:List ByteArray) (c:l.length<2^62) (x:ByteArray) {get:Nat->List AV} (a: ∀k,k<l.length->get k=rB l k):cC 77 [.rs 1 l.length get,.s x] [] (.I (aHm l x)):=
 j8.of_eq (args:=[.rs 1 l.length (rB l),.s x]) ⟨⟨rfl,rfl,a⟩,eV.refl _⟩ (PC l c x)
theorem Ut (s:RS) (j:0<s.ts.length) (n:s.ts.length<9223372036854775807) (l:List ByteArray) (g:l.length<2^62) {get:Nat->List AV} (f: ∀k,k<l.length->get k=rB l k):cM 29 true [s.o,.row 9 1 l.length get] [.p 0 0,.so 1] (λ_:Unit=>True) (λ_=>[(Mw s l).o,.dead]) (λ_=>[]) (λ_=> .I (Mv s l)):=by
 refine sE Tryz.func29 [.tmp 4] [] ?_
 repeat apply jL
 refine⟨J,?_⟩
 repeat apply jL
 refine jB (skC s) (λh=> ?_) λh=> ?_
 ·have e:Mv s l= -1:=by unfold Mv;rw[aE h]
  unfold Mw;rw[e,aB jD];exact qH
 ·have e:Mv s l=aHm l s.hd.x:=by unfold Mv;rw[aB jR]
  refine jb (Us l g s.hd.x f) ?_
  repeat apply jL
  refine jB (decide (aHm l s.hd.x>=0)) (λh2=> ?_) λh2=> ?_
  ·rw[aM] at h2
   repeat apply jL
   refine⟨⟨J,J,J⟩,?_⟩;unfold Mw;rw[e,aE h2]
   repeat apply jL
   exact⟨(),[],trivial,⟨nR,⟨⟨rfl,rfl,rfl,⟨rfl,FU s,vX.refl _⟩⟩,nS,trivial⟩,rfl⟩,rfl,λh=>jC⟩
  ·rw[bH] at h2;unfold Mw;rw[e,aB h2];exact qH
def Yq (s:RS) (k:Int):Bool:=s.err !=0||s.hd.k !=k
def FV (s:RS) (k:Int):RS:=if Yq s k=true then i6 s 12 else s
def Gc (s:RS) (k:Int):Tok:=if Yq s k=true then U3 else s.hd
theorem Uu (s:RS) (f:0<s.ts.length) (k:Int):cM 76 true [s.o] [.p 0 0,.I k] (λ_:Unit=>True) (λ_=>[(FV s k).o]) (λ_=>[]) (λ_=> .tup [.ag (Gc s k).av,.b (!Yq s k)]):=by
 refine sE Tryz.func76 [.cell 4 132,.tmp 5] [] ?_
 repeat apply jL
 refine⟨J,?_⟩
 repeat apply jL
 refine jB (Yq s k) (λh=> ?_) λh=> ?_
 ·unfold FV Gc;rw[h,aE rfl,aE rfl];refine aN (aN ?_);refine⟨true,[0],rfl,Unit,_,_,_,_,aGt s f 12,λ_ _=> ?_⟩
  repeat apply jL
  exact ny
 ·unfold FV Gc;rw[h,aB jD,aB jD];exact ny
def xn (s:RS):RS:=if Yq s 0=true then i6 s 12 else s.tl
theorem Dw (s:RS) (f:0<s.ts.length) (g:s.ts.length<9223372036854775807):cM 27 true [s.o] [.p 0 0] (λ_:Unit=>True) (λ_=>[(xn s).o]) (λ_=>[]) (λ_=> .s (Gc s 0).x):=by
 refine sE Tryz.func27 [.tmp 2] [] ?_;refine aN (aN ?_);refine⟨true,[0],rfl,Unit,_,_,_,_,Uu s f 0,λ_ _=> ?_⟩
 repeat apply jL
 refine jB (!Yq s 0) (λh=> ?_) λh=> ?_
 ·rw[dQ] at h;have e:FV s 0=s:=by unfold FV;rw[h,aB jD]
  rw[e];unfold xn;rw[h,aB jD]
  repeat apply jL
  refine⟨⟨J,J,J⟩,?_⟩
  repeat apply jL
  exact⟨(),[],trivial,⟨nR,⟨⟨rfl,rfl,rfl,⟨rfl,FU s,vX.refl _⟩⟩,trivial⟩,rfl⟩,rfl,λh=>jC⟩
 ·rw[hV] at h;have e:xn s=FV s 0:=by unfold xn FV;rw[h,aE rfl,aE rfl]
  rw[e];exact ny
def nuC (s:RS) (m:Int):Bool:=decide (s.hd.n<m)||decide (s.hd.n>1073741824)
def Gd (s:RS) (m:Int):RS:=if Yq s 1=true then i6 s 12 else if nuC s m=true then i6 s 3 else s.tl
def wq (s:RS) (m:Int):Int:=if Yq s 1=true then 0 else if nuC s m=true then 0 else s.hd.n
theorem yV (s:RS) (j:0<s.ts.length) (q:s.ts.length<9223372036854775807) (m:Int):cM 30 true [s.o] [.p 0 0,.I m] (λ_:Unit=>True) (λ_=>[(Gd s m).o]) (λ_=>[]) (λ_=> .I (wq s m)):=by
 refine sE Tryz.func30 [.tmp 4] [] ?_;refine aN (aN ?_);refine⟨true,[0],rfl,Unit,_,_,_,_,Uu s j 1,λ_ _=> ?_⟩
 repeat apply jL
 refine jB (!!Yq s 1) (λh=> ?_) λh=> ?_
 ·rw[r4] at h;have e:Gd s m=FV s 1:=by unfold Gd FV;rw[h,aE rfl,aE rfl]
  have f:wq s m=0:=by unfold wq;rw[h,aE rfl]
  rw[e,f];exact ny
 rw[r4] at h;have e:FV s 1=s:=by unfold FV;rw[h,aB jD]
 have l:Gc s 1=s.hd:=by unfold Gc;rw[h,aB jD]
 rw[e,l];have f:Gd s m=if nuC s m=true then i6 s 3 else s.tl:=by unfold Gd;rw[h];rfl
 have g:wq s m=if nuC s m=true then 0 else s.hd.n:=by unfold wq;rw[h];rfl
 repeat apply jL
 refine jB (nuC s m) (λh2=> ?_) λh2=> ?_
 ·rw[h2,aE rfl] at f g;rw[f,g];refine aN (aN ?_);refine⟨true,[0],rfl,Unit,_,_,_,_,aGt s j 3,λ_ _=> ?_⟩
  repeat apply jL
  exact ny
 ·rw[h2,aB jD] at f g;rw[f,g]
  repeat apply jL
  refine⟨⟨J,J,J⟩,?_⟩
  repeat apply jL
  exact⟨(),[],trivial,⟨nR,⟨⟨rfl,rfl,rfl,⟨rfl,FU s,vX.refl _⟩⟩,trivial⟩,rfl⟩,rfl,λh=>jC⟩
def P0 (s:RS) (l:List ByteArray):RS:=if Mv s l<0 then i6 s 12 else Mw s l
def waI (s:RS) (l:List ByteArray):Int:=max (Mv s l) 0
theorem pm (s:RS) (f:0<s.ts.length) (n:s.ts.length<9223372036854775807) (l:List ByteArray) (j:l.length<2^62) {get:Nat->List AV} (g: ∀k,k<l.length->get k=rB l k):cM 26 true [s.o,.row 9 1 l.length get] [.p 0 0,.so 1] (λ_:Unit=>True) (λ_=>[(P0 s l).o,.dead]) (λ_=>[]) (λ_=> .I (waI s l)):=by
 refine sE Tryz.func26 [.tmp 4] [] ?_;refine aN (aN ?_);refine⟨true,[0,1],rfl,Unit,_,_,_,_,Ut s f n l j g,λ_ _=> ?_⟩
 repeat apply jL
 refine jB (decide (Mv s l<0)) (λh=> ?_) λh=> ?_
 ·rw[aM] at h;have e:Mw s l=s:=by unfold Mw;rw[aB J]
  rw[e];unfold P0;rw[aE h];refine aN (aN ?_);refine⟨true,[0],rfl,Unit,_,_,_,_,aGt s f 12,λ_ _=> ?_⟩
  repeat apply jL
  exact qH
 ·rw[bH] at h;unfold P0;rw[aB h]
  repeat apply jL
  exact qH
theorem tC.of_eq {P:Program} {f:FuncId} {al:Bool} {ins:List AO} {args k:List AV} {Y:Type} {g:Y->Prop} {e os:Y->List AO} {r:Y->AV} (h:vX args k) (c:tC P f al ins args g e os r):tC P f al ins k g e os r:=
 ⟨c.1,λF w E D l n q t x z A=>c.2 F w E D l n q t x (h.get.1.trans z) λj a C=>(h.get.2 j a (by rw[<-h.get.1];exact a)).rep (A j (by rw[<-h.get.1];exact a) C)⟩
def zX:List ByteArray:=[⟨#[110,111]⟩,⟨#[121,101,115]⟩]
theorem pk:cC 28 [] [.row 9 1 2 (rB zX)] (.so 0):=by
 refine hZ Tryz.func28 [.tmp 0] [] ?_
 repeat apply jL
 refine RetIs.so rfl rfl (λk c=> ?_) (λk _=>rfl)
 match k,c with
 |0,_=>rfl
 |1,_=>rfl
 |k+2,h=>exact absurd h J
def bc:List ByteArray:=[⟨#[110,111]⟩,⟨#[109,97,114,107]⟩,⟨#[121,101,115]⟩]
theorem Pw:cC 32 [] [.row 9 1 3 (rB bc)] (.so 0):=by
 refine hZ Tryz.func32 [.tmp 0] [] ?_
 exact m8
def be:List ByteArray:=[⟨#[110,111,110,101]⟩,⟨#[102,108,97,116]⟩,⟨#[116,114,101,101]⟩]
theorem Px:cC 33 [] [.row 9 1 3 (rB be)] (.so 0):=by
 refine hZ Tryz.func33 [.tmp 0] [] ?_
 exact m8
def Dx:List ByteArray:=[⟨#[105,110,118,105,116,101]⟩,⟨#[108,105,110,107]⟩,⟨#[114,111,108,101]⟩]
theorem FW:cC 78 [] [.row 9 1 3 (rB Dx)] (.so 0):=by
 refine hZ Tryz.func78 [.tmp 0] [] ?_
 exact m8
def N6:List ByteArray:=[⟨#[110,111,110,101]⟩,⟨#[115,101,110,116]⟩,⟨#[104,101,108,100]⟩,⟨#[115,104,111,119,110]⟩,⟨#[114,101,97,100]⟩]
theorem Jl:cC 79 [] [.row 9 1 5 (rB N6)] (.so 0):=by
 refine hZ Tryz.func79 [.tmp 0] [] ?_
 repeat apply jL
 refine RetIs.so rfl rfl (λk c=> ?_) (λk _=>rfl)
 match k,c with
 |0,_=>rfl
 |1,_=>rfl
 |2,_=>rfl
 |3,_=>rfl
 |4,_=>rfl
 |k+5,h=>exact absurd h J
def RS.ok (s:RS):Prop:=0<s.ts.length/\s.ts.length<4611686018427387904/\(s.ts.getD (s.ts.length-1) U3).k=3
theorem RS.tl_ok {s:RS} (h:s.ok) (c:s.hd.k≠3):s.tl.ok:=by
 obtain⟨f,g,a⟩:=h;have e:s.tl.ts.length=s.ts.length-1:=xL ..;have j:s.ts.length≠1:=λe=>c (by rw[e] at a;exact a);refine⟨J,J,?_⟩;rw[e];show(s.ts.tail.getD _ U3).k=3;rw[List.getD,i2,<-List.getD,<-a]
 congr 2
 omega
theorem K9 {s:RS} (h:s.ok) (e:Int):(i6 s e).ok:=by unfold i6;split<;>exact h
theorem US {s:RS} {k:Int} (h:Yq s k=false):s.err=0/\s.hd.k=k:=by unfold Yq at h;rw[bT,fY,fY] at h;exact h
theorem L1 {s:RS} (h:s.ok) (l:List ByteArray):(Mw s l).ok:=by
 unfold Mw;split
 ·rename_i a;refine RS.tl_ok h λe=> ?_;unfold Mv at a;split at a
  ·omega
  ·rename_i c;exact c (by unfold skC;rw[e];cases s.err !=0<;>rfl)
 ·exact h
theorem tq {s:RS} (h:s.ok):(xn s).ok:=by
 unfold xn;split
 ·exact K9 h 12
 ·rename_i h1;exact RS.tl_ok h (by rw[(US j1).2];decide)
theorem xQ {s:RS} (h:s.ok) (m:Int):(Gd s m).ok:=by
 unfold Gd;split
 ·exact K9 h 12
 ·rename_i h1;split
  ·exact K9 h 3
  ·exact RS.tl_ok h (by rw[(US j1).2];decide)
theorem lP {s:RS} (h:s.ok) (l:List ByteArray):(P0 s l).ok:=by
 unfold P0;split
 ·exact K9 h 12
 ·exact L1 h l
theorem FY {get:Nat->List AV} {w:ByteArray} (h:get 0=[.s w]): ∀k,k<[w].length->get k=rB [w] k:=λk a=>by
 have:k=0:=by simpa using a
 rw[this,h];rfl
theorem uL {s:RS} (h:s.ok) {get:Nat->List AV} {w:ByteArray} (a:get 0=[.s w]):cM 26 true [s.o,.row 9 1 1 get] [.p 0 0,.so 1] (λ_:Unit=>True) (λ_=>[(P0 s [w]).o,.dead]) (λ_=>[]) (λ_=> .I (waI s [w])):=
 pm s h.1 (by have:=h.2.1;omega) [w] (by show(1:Nat)<2^62;decide) (FY a)
theorem Dy {s:RS} (h:s.ok) {get:Nat->List AV} {w:ByteArray} (a:get 0=[.s w]):cM 29 true [s.o,.row 9 1 1 get] [.p 0 0,.so 1] (λ_:Unit=>True) (λ_=>[(Mw s [w]).o,.dead]) (λ_=>[]) (λ_=> .I (Mv s [w])):=
 Ut s h.1 (by have:=h.2.1;omega) [w] (by show(1:Nat)<2^62;decide) (FY a)
def PD:ByteArray:=⟨#[59]⟩
def FZ (s:RS) (w:ByteArray) (l:List ByteArray):RS:=P0 (P0 (P0 s [w]) l) [PD]
def PE (s:RS) (w:ByteArray) (l:List ByteArray):Int:=waI (P0 s [w]) l
theorem t3 {s:RS} (h:s.ok) (w:ByteArray) (l:List ByteArray):(FZ s w l).ok:=lP (lP (lP h _) _) _
theorem x5 {s:RS} (h:s.ok) (w:ByteArray) (l:List ByteArray) (f:l.length<2^62) {get:Nat->List AV} (e: ∀k,k<l.length->get k=rB l k):cM 31 true [s.o,.row 9 1 l.length get] [.p 0 0,.s w,.so 1] (λ_:Unit=>True) (λ_=>[(FZ s w l).o,.dead]) (λ_=>[]) (λ_=> .I (PE s w l)):=by
 refine sE Tryz.func31 [.tmp 6] [] ?_;refine aN (aN ?_);refine⟨true,[0,2],rfl,Unit,_,_,_,_,uL h rfl,λ_ _=> ?_⟩;refine aN (aN ?_);have c:=lP h [w];refine⟨true,[0,1],rfl,Unit,_,_,_,_,pm (P0 s [w]) c.1 (by have:=c.2.1;omega) l f e,λ_ _=> ?_⟩;refine aN (aN ?_);refine⟨true,[0,3],rfl,Unit,_,_,_,_,uL (lP c l) rfl,λ_ _=> ?_⟩
 repeat apply jL
 exact qH
structure Pf_q0 where
 name:ByteArray
 edit:Int
 wi:Int
 del:Int
 react:Bool
 thr:Int
 quo:Bool
 men:Bool
 size:Int
 parts:Int
 files:Int
 bytes:Int
 types:List ByteArray
 join:Int
 hist:Int
 rem:Int
 level:Int
 batch:Bool
 rate:Int
 down:Int
 win:Int
 keep:Int
def Pf_q0.cs (p:Pf_q0) (t:AV):List AV:=[.s p.name,.I p.edit,.I p.wi,.I p.del,.b p.react,.I p.thr,.b p.quo,.b p.men,.I p.size,.I p.parts,.I p.files,.I p.bytes,t,.I p.join,.I p.hist,.I p.rem,.I p.level,.b p.batch,.I p.rate,.I p.down,.I p.win,.I p.keep]
def Pf_q0.o (p:Pf_q0) (k:Nat):AO:= .cells 56 (p.cs (.so k))
def Pf_q0.ro (p:Pf_q0):AO:= .row 9 1 p.types.length (rB p.types)
def kV:AV:= .val (.slice none 0 0)
def XC:ByteArray:=⟨#[102,105,108,101,115]⟩
def aFf:ByteArray:=⟨#[98,121,116,101,115]⟩
def aFg:ByteArray:=⟨#[116,121,112,101,115]⟩
def Yr:Nat->RS->List ByteArray->RS×List ByteArray
 |0,s,l=>(s,l)
 |n+1,s,l=>if(s.err==0&&s.hd.k==0)=true then(if l.length=20 then(i6 s 6,l) else Yr n (xn s) (l++[(Gc s 0).x])) else(P0 s [PD],l)
def PF (s:RS):RS:=Mw s [XC]
def fi3 (s:RS):RS:=P0 (Gd (PF s) 1) [aFf]
def CN (s:RS):RS:=P0 (Gd (fi3 s) 0) [aFg]
def PG (s:RS):RS×List ByteArray:=Yr (xn (CN s)).ts.length (xn (CN s)) [(Gc (CN s) 0).x]
def Py (s:RS) (p:Pf_q0):RS×Pf_q0:=if Mv s [XC]<0 then(PF s,p) else((PG s).1,{p with files:=wq (PF s) 1,bytes:=wq (fi3 s) 0,types:=(PG s).2})
theorem GA {s:RS} (h:s.ok) (p:Pf_q0) (F:p.types=[]):cM 34 true [s.o,.cells 56 (p.cs kV)] [.p 0 0,.p 1 0] (λ_:Unit=>True) (λ_=>[(Py s p).1.o,(Py s p).2.o 2]) (λ_=>[(Py s p).2.ro]) (λ_=> .tup []):=by
 refine sE Tryz.func34 [] [(2000005,[.frz 1 [1]]),(2000009,[.frz 1 [1]]),(1000005,[.mvc 1 12]),(1000009,[.mvc 1 12]),(999999,[.nlc 1 12 9 1])] ?_;refine eX (aN (aN ?_));refine⟨true,[0,2],rfl,Unit,_,_,_,_,Dy h rfl,λ_ _=> ?_⟩
 repeat apply jL
 refine jB (decide (Mv s [XC]<0)) (λh1=> ?_) λh1=> ?_
 ·rw[aM] at h1;have e:Py s p=(PF s,p):=by unfold Py;rw[aE h1]
  rw[e];refine⟨(),[(2,3)],trivial,⟨nR,⟨nZ,nZ,⟨rfl,rfl,trivial,?_⟩,trivial⟩,rfl⟩,rfl,λh=>jC⟩;exact⟨rfl,rfl,by show 0=p.types.length;rw[F];rfl,λk t=>absurd t (by show¬k<p.types.length;rw[F];exact dU k)⟩
 rw[bH] at h1;have e:Py s p=((PG s).1,{p with files:=wq (PF s) 1,bytes:=wq (fi3 s) 0,types:=(PG s).2}):=by unfold Py;rw[aB h1]
 rw[e];have w:(PF s).ok:=L1 h _;refine aN (aN ?_);refine⟨true,[0],rfl,Unit,_,_,_,_,yV (PF s) w.1 (by have:=w.2.1;omega) 1,λ_ _=> ?_⟩;refine aN (aN ?_);have k2:=xQ w 1;refine⟨true,[0,3],rfl,Unit,_,_,_,_,uL k2 rfl,λ_ _=> ?_⟩;have k3:(fi3 s).ok:=lP k2 _;refine aN (aN ?_);refine⟨true,[0],rfl,Unit,_,_,_,_,yV (fi3 s) k3.1 (by have:=k3.2.1;omega) 0,λ_ _=> ?_⟩;have G:=xQ k3 0;refine aN (aN ?_);refine⟨true,[0,4],rfl,Unit,_,_,_,_,uL G rfl,λ_ _=> ?_⟩;have z:(CN s).ok:=lP G _;refine aN (aN ?_);refine⟨true,[0],rfl,Unit,_,_,_,_,Dw (CN s) z.1 (by have:=z.2.1;omega),λ_ _=> ?_⟩;have M:=tq z;refine⟨jD,?_⟩
 repeat apply jL
 refine⟨[],Nat×RS×List ByteArray,λx=>x.2.1.ok/\x.2.1.ts.length<=x.1/\1<=x.2.2.length/\x.2.2.length<=20/\PG s=Yr x.1 x.2.1 x.2.2,λ_=>[],λx=>[⟨0,[],x.2.1.o⟩,⟨1,[],.cells 56 (({p with files:=wq (PF s) 1,bytes:=wq (fi3 s) 0}:Pf_q0).cs (.so 7))⟩,⟨7,[],.row 9 1 x.2.2.length (rB x.2.2)⟩],λx=>x.2.1.ts.length,
  ⟨((xn (CN s)).ts.length,xn (CN s),[(Gc (CN s) 0).x]),[],⟨M,aG _,aG _,by show(1:Nat)<=20;decide,rfl⟩,rfl,rfl,rfl,rfl,rfl,trivial,?_⟩,?_⟩
 ·exact⟨qK,qK,⟨rfl,rfl,rfl,λk t=>by
   have:k=0:=(by simpa using t);subst this;rfl⟩⟩
 rintro⟨n,s',l⟩ ⟨f,C,D,E,q⟩;have f:s'.ok:=f;have C:s'.ts.length<=n:=C;have q:PG s=Yr n s' l:=q;have D:1<=l.length:=D;have E:l.length<=20:=E;obtain⟨n,rfl⟩: ∃m,n=m+1:=⟨n-1,by have:=f.1;omega⟩
 repeat apply jL
 refine⟨λ_=>by have:=f.1;omega,?_⟩
 repeat apply jL
 refine⟨λg=> ?_,λg=> ?_⟩
 ·have g:(s'.err==0&&s'.hd.k==0)=true:=g
  repeat apply jL
  refine jB ((l.length:Int)==20) (λh2=> ?_) λh2=> ?_
  ·rw[cH] at h2;refine aN (aN ?_);refine⟨true,[0],rfl,Unit,_,_,_,_,aGt s' f.1 6,λ_ _=> ?_⟩;have j:PG s=(i6 s' 6,l):=by rw[q,Yr,aE g,aE J]
   rw[j];refine⟨(),[(2,7)],trivial,⟨nR,⟨nZ,nZ,ni,trivial⟩,rfl⟩,rfl,λh=>jC⟩
  ·rw[cE] at h2;have t:Yq s' 0=false:=by unfold Yq;rw[aW,cH,cH] at g;rw[g.1,g.2];rfl
   have L:xn s'=s'.tl:=by unfold xn;rw[t];rfl
   have O:(xn s').ts.length=s'.ts.length-1:=by rw[L];exact xL ..
   have j:PG s=Yr n (xn s') (l++[(Gc s' 0).x]):=(by rw[q,Yr,aE g,aB J]);obtain⟨H,N,_⟩:0<s'.ts.length/\s'.ts.length<4611686018427387904/\True:=⟨f.1,f.2.1,trivial⟩;have K:=Jk 9 1 (λx=>[.s x]) gB (λ_=>rfl) l (Gc s' 0).x;refine aN (aN ?_);refine⟨true,[0],rfl,Unit,_,_,_,_,Dw s' H J,λ_ _=> ?_⟩;refine⟨oJ J,?_⟩
   repeat apply jL
   refine⟨(n,xn s',l++[(Gc s' 0).x]),[(7,10)],⟨tq f,jM,jS,jO,j⟩,jM,rfl,rfl,rfl,rfl,rfl,trivial,⟨qK,qK,K⟩⟩
 ·have g:(s'.err==0&&s'.hd.k==0)=false:=g;have j:PG s=(P0 s' [PD],l):=by rw[q,Yr,aB (by rw[g];decide)]
  refine aN (aN ?_);refine⟨true,[0,8],rfl,Unit,_,_,_,_,uL f rfl,λ_ _=> ?_⟩;rw[j];exact⟨(),[(2,7)],trivial,⟨nR,⟨nZ,nZ,ni,trivial⟩,rfl⟩,rfl,λh=>jC⟩
def XD:ByteArray:=⟨#[106,111,105,110]⟩
def XE:ByteArray:=⟨#[104,105,115,116,111,114,121]⟩
def XF:ByteArray:=⟨#[115,105,110,99,101]⟩
def XG:ByteArray:=⟨#[97,108,108]⟩
def XH:ByteArray:=⟨#[114,101,109,111,118,101]⟩
def XI:ByteArray:=⟨#[110,111,119]⟩
def XJ:ByteArray:=⟨#[107,101,121]⟩
def aFh:ByteArray:=⟨#[114,101,99,101,105,112,116,115]⟩
def aD4:ByteArray:=⟨#[98,97,116,99,104]⟩
def aFi:ByteArray:=⟨#[114,97,116,101]⟩
def aFj:ByteArray:=⟨#[100,111,119,110]⟩
def wOf:ByteArray:=⟨#[111,102]⟩
def aD5:ByteArray:=⟨#[107,101,101,112]⟩
def re1 (s:RS):RS:=FZ s XD Dx
def re2 (s:RS):RS:=FZ (re1 s) XE [XF,XG]
def re3 (s:RS):RS:=FZ (re2 s) XH [XI,XJ]
def re4 (s:RS):RS:=P0 (re3 s) [aFh]
def re5 (s:RS):RS:=P0 (re4 s) N6
def re6 (s:RS):RS:=Mw (re5 s) [aD4]
def re7 (s:RS):RS:=P0 (re6 s) [PD]
def re8 (s:RS):RS:=P0 (re7 s) [aFi]
def re9 (s:RS):RS:=Gd (re8 s) 0
def PH (s:RS):RS:=P0 (re9 s) [aFj]
def aD6 (s:RS):RS:=Gd (PH s) 0
def PI (s:RS):RS:=P0 (aD6 s) [wOf]
def XK (s:RS):RS:=Gd (PI s) 0
def XL (s:RS):RS:=P0 (XK s) [PD]
def xo (s:RS):RS:=Mw (XL s) [aD5]
def aD7 (s:RS):RS:=Gd (xo s) 1
def aD8 (s:RS):RS:=P0 (aD7 s) [PD]
def reK (s:RS):Bool:=Mv (XL s) [aD5]==0
def PJ (s:RS):RS:=if reK s=true then aD8 s else xo s
def XM (s:RS) (p:Pf_q0):Pf_q0:={p with join:=PE s XD Dx,hist:=PE (re1 s) XE [XF,XG],rem:=PE (re2 s) XH [XI,XJ],level:=waI (re4 s) N6,batch:=Mv (re5 s) [aD4]==0,rate:=wq (re8 s) 0,down:=wq (PH s) 0,win:=wq (PI s) 0,keep:=if reK s=true then wq (xo s) 1 else p.keep}
theorem GB {get:Nat->List AV} {v w:ByteArray} (h:get 0=[.s v]) (a:get 1=[.s w]): ∀k,k<[v,w].length->get k=rB [v,w] k
 |0,_=>h
 |1,_=>a
 |k+2,c=>absurd c (by show¬k+2<2;omega)
theorem PK {s:RS} (h:s.ok) (p:Pf_q0):cM 35 true [s.o,p.o 2,p.ro] [.p 0 0,.p 1 0] (λ_:Unit=>True) (λ_=>[(PJ s).o,(XM s p).o 2,p.ro]) (λ_=>[]) (λ_=> .tup []):=by
 have C:(re1 s).ok:=t3 h _ _;have k2:(re2 s).ok:=t3 C _ _;have k3:(re3 s).ok:=t3 k2 _ _;have q:(re4 s).ok:=lP k3 _;have D:(re5 s).ok:=lP q _;have E:(re6 s).ok:=L1 D _;have F:(re7 s).ok:=lP E _;have t:(re8 s).ok:=lP F _;have G:(re9 s).ok:=xQ t _;have a:(PH s).ok:=lP G _;have w:(aD6 s).ok:=xQ a _;have f:(PI s).ok:=lP w _;have x:(XK s).ok:=xQ f _;have z:(XL s).ok:=lP x _;have g:(xo s).ok:=L1 z _;have H:(aD7 s).ok:=xQ g _;refine sE Tryz.func35 [] [] ?_;refine eX ⟨_,_,FW,?_⟩;refine aN (aN ?_);refine⟨true,[0,3],rfl,Unit,_,_,_,_,x5 h XD Dx jD (λ_ _=>rfl),λ_ _=> ?_⟩;refine aN (aN ?_);refine⟨true,[0,4],rfl,Unit,_,_,_,_,x5 C XE [XF,XG] jD (GB rfl rfl),λ_ _=> ?_⟩;refine aN (aN ?_);refine⟨true,[0,5],rfl,Unit,_,_,_,_,x5 k2 XH [XI,XJ] jD (GB rfl rfl),λ_ _=> ?_⟩;refine aN (aN ?_);refine⟨true,[0,6],rfl,Unit,_,_,_,_,uL k3 rfl,λ_ _=> ?_⟩;refine eX ⟨_,_,Jl,?_⟩;refine aN (aN ?_);refine⟨true,[0,7],rfl,Unit,_,_,_,_,pm (re4 s) q.1 (by have:=q.2.1;omega) N6 jD (λ_ _=>rfl),λ_ _=> ?_⟩;refine aN (aN ?_);refine⟨true,[0,8],rfl,Unit,_,_,_,_,Dy D rfl,λ_ _=> ?_⟩;refine aN (aN ?_);refine⟨true,[0,9],rfl,Unit,_,_,_,_,uL E rfl,λ_ _=> ?_⟩;refine aN (aN ?_);refine⟨true,[0,10],rfl,Unit,_,_,_,_,uL F rfl,λ_ _=> ?_⟩;refine aN (aN ?_);refine⟨true,[0],rfl,Unit,_,_,_,_,yV (re8 s) t.1 (by have:=t.2.1;omega) 0,λ_ _=> ?_⟩;refine aN (aN ?_);refine⟨true,[0,11],rfl,Unit,_,_,_,_,uL G rfl,λ_ _=> ?_⟩;refine aN (aN ?_);refine⟨true,[0],rfl,Unit,_,_,_,_,yV (PH s) a.1 (by have:=a.2.1;omega) 0,λ_ _=> ?_⟩;refine aN (aN ?_);refine⟨true,[0,12],rfl,Unit,_,_,_,_,uL w rfl,λ_ _=> ?_⟩;refine aN (aN ?_);refine⟨true,[0],rfl,Unit,_,_,_,_,yV (PI s) f.1 (by have:=f.2.1;omega) 0,λ_ _=> ?_⟩;refine aN (aN ?_);refine⟨true,[0,13],rfl,Unit,_,_,_,_,uL x rfl,λ_ _=> ?_⟩;refine aN (aN ?_);refine⟨true,[0,14],rfl,Unit,_,_,_,_,Dy z rfl,λ_ _=> ?_⟩;refine jB (reK s) (λn=> ?_) λn=> ?_
 ·have j:PJ s=aD8 s:=by unfold PJ;rw[aE n]
  have l:(if reK s=true then wq (xo s) 1 else p.keep)=wq (xo s) 1:=aE n;refine aN (aN ?_);refine⟨true,[0],rfl,Unit,_,_,_,_,yV (xo s) g.1 (by have:=g.2.1;omega) 1,λ_ _=> ?_⟩;refine aN (aN ?_);refine⟨true,[0,15],rfl,Unit,_,_,_,_,uL H rfl,λ_ _=> ?_⟩;unfold XM;rw[j,l];exact⟨(),[],trivial,⟨nR,⟨nZ,nZ,ni,trivial⟩,rfl⟩,rfl,λh=>jC⟩
 ·have j:PJ s=xo s:=by unfold PJ;rw[aB (by rw[n];decide)]
  have l:(if reK s=true then wq (xo s) 1 else p.keep)=p.keep:=aB (by rw[n];decide);unfold XM;rw[j,l];exact⟨(),[],trivial,⟨nR,⟨nZ,nZ,ni,trivial⟩,rfl⟩,rfl,λh=>jC⟩
theorem zt (x:ByteArray) (n at_:Nat) (c:List Tok) {a:Nat} (e:a=at_+G6 Z7 (tail x at_)) {q:Tok×Int} (f:q=tV (tail x a)):
  y7 x (n+1) at_ c=if a=x.size then(c++[⟨3,gB,0,a⟩],0,0) else if q.2≠0 then([],(a:Int),q.2) else y7 x n (a+q.1.x.size) (c++[q.1.pl a]):=by
 conv=>lhs;unfold y7
 dsimp only;rw[<-e,<-f]
theorem Uv (x:ByteArray): ∀(n at_:Nat) (c:List Tok),at_<=x.size->x.size+1<=n+at_->(y7 x n at_ c).2.2=0->
  0<(y7 x n at_ c).1.length/\(y7 x n at_ c).1.length<=c.length+n/\((y7 x n at_ c).1.getD ((y7 x n at_ c).1.length-1) U3).k=3
 |0,at_,c,l,h,_=>absurd h J
 |n+1,at_,c,l,h,e=>by
  have A:=ip Z7 (tail x at_);have D:=o9 x at_;obtain⟨a,t⟩: ∃a,a=at_+G6 Z7 (tail x at_):=⟨_,rfl⟩;obtain⟨q,g⟩: ∃q,q=tV (tail x a):=⟨_,rfl⟩;rw[zt x n at_ c t g] at e|-;have C:=o9 x a;by_cases j:a=x.size
  ·rw[aE j];refine⟨jS,jS,?_⟩;rw[bD,cD,sR,m0,aB (oB _),aE rfl]
  ·rw[aB j] at e|-;by_cases f:q.2≠0
   ·rw[aE f] at e;exact absurd e f
   ·rw[aB f] at e|-;obtain⟨w,z⟩:=tp (x:=tail x a) J (by rw[<-g];simpa using f);rw[<-g] at w z;have:=Uv x n _ _ J J e;rw[bD,cD] at this;exact⟨this.1,J,this.2.2⟩
def pa0 (x:ByteArray):RS:=⟨(vA x).1,0,0⟩
theorem XN {x:ByteArray} (h:(vA x).2.2=0):(pa0 x).ok:=by
 unfold vA at h;split at h
 ·exact absurd h jD
 ·rename_i a;have e:(vA x).1=(y7 x (x.size+1) 0 []).1:=by unfold vA;rw[aB a]
  have:=Uv x (x.size+1) 0 [] (bI _) J h;unfold RS.ok pa0;rw[e];refine⟨this.1,?_,this.2.2⟩;have c:=this.2.1;rw[pQ,dR] at c;show(y7 x (x.size+1) 0 []).1.length<4611686018427387904;omega
def aFk:ByteArray:=⟨#[110,101,116,119,111,114,107]⟩
def aFl:ByteArray:=⟨#[101,100,105,116]⟩
def aD9:ByteArray:=⟨#[119,105,116,104,105,110]⟩
def XO:ByteArray:=⟨#[100,101,108,101,116,101]⟩
def XP:ByteArray:=⟨#[114,101,97,99,116]⟩
def XQ:ByteArray:=⟨#[116,104,114,101,97,100]⟩
def XR:ByteArray:=⟨#[113,117,111,116,101]⟩
def XS:ByteArray:=⟨#[109,101,110,116,105,111,110]⟩
def aFm:ByteArray:=⟨#[115,105,122,101]⟩
def aFn:ByteArray:=⟨#[112,97,114,116,115]⟩
def pa1 (x:ByteArray):RS:=P0 (pa0 x) [aFk]
def pa2 (x:ByteArray):RS:=xn (pa1 x)
def pa3 (x:ByteArray):RS:=P0 (pa2 x) [PD]
def pa4 (x:ByteArray):RS:=P0 (pa3 x) [aFl]
def pa5 (x:ByteArray):RS:=P0 (pa4 x) zX
def XT (x:ByteArray):RS:=Mw (pa5 x) [aD9]
def pa7 (x:ByteArray):RS:=Gd (XT x) 1
def paY (x:ByteArray):Bool:=waI (pa4 x) zX==1
def paW (x:ByteArray):Bool:=Mv (pa5 x) [aD9]==0
def CO (x:ByteArray):RS:=if paY x=true then(if paW x=true then pa7 x else XT x) else pa5 x
def pa9 (x:ByteArray):RS:=P0 (CO x) [PD]
def XU (x:ByteArray):RS:=FZ (pa9 x) XO bc
def XV (x:ByteArray):RS:=FZ (XU x) XP zX
def XW (x:ByteArray):RS:=FZ (XV x) XQ be
def XX (x:ByteArray):RS:=FZ (XW x) XR zX
def aDa (x:ByteArray):RS:=FZ (XX x) XS zX
def PL (x:ByteArray):RS:=P0 (aDa x) [aFm]
def aDb (x:ByteArray):RS:=Gd (PL x) 0
def PM (x:ByteArray):RS:=P0 (aDb x) [aFn]
def aDc (x:ByteArray):RS:=Gd (PM x) 0
def GC (x:ByteArray):RS:=P0 (aDc x) [PD]
def Jm (x:ByteArray):Int:=if paY x=true then 2 else 0
def Jn (x:ByteArray):Int:=if paY x=true then(if paW x=true then wq (XT x) 1 else 0) else 0
def wV:Pf_q0:=⟨gB,0,0,0,false,0,false,false,0,0,0,0,[],0,0,0,0,false,0,0,0,0⟩
def paP (x:ByteArray):Pf_q0:=⟨(Gc (pa1 x) 0).x,Jm x,Jn x,PE (pa9 x) XO bc,PE (XU x) XP zX==1,PE (XV x) XQ be,PE (XW x) XR zX==1,PE (XX x) XS zX==1,wq (PL x) 0,wq (PM x) 0,0,0,[],0,0,0,0,false,0,0,0,0⟩
def Uw (x:ByteArray):RS×Pf_q0:=Py (GC x) (paP x)
def Jo (x:ByteArray):RS:=PJ (Uw x).1
def yE (x:ByteArray):Pf_q0:=XM (Uw x).1 (Uw x).2
def paC (x:ByteArray):Bool:=(Jo x).err==0&&(Jo x).hd.k !=3
def iq (x:ByteArray):RS:=if paC x=true then i6 (Jo x) 12 else Jo x
def o5 (x:ByteArray):Int×Int:=if(vA x).2.2≠0 then(vA x).2 else if(iq x).err≠0 then((iq x).pos,(iq x).err) else(0,0)
def Dz (x:ByteArray):List AO:=if(o5 x).2=0 then [(yE x).ro] else []
def Ea (x:ByteArray):AV:= .tup [.ag (if(o5 x).2=0 then(yE x).cs (.so 0) else wV.cs kV),.I (o5 x).1,.I (o5 x).2]
theorem UT: ∀(n:Nat) (s:RS) (l:List ByteArray),s.ok->(Yr n s l).1.ok
 |0,_,_,h=>h
 |n+1,s,l,h=>by
  unfold Yr;split
  ·split
   ·exact K9 h 6
   ·exact UT n _ _ (tq h)
  ·exact lP h _
theorem XY {s:RS} (h:s.ok) (p:Pf_q0):(Py s p).1.ok:=by
 have a:(PF s).ok:=L1 h _;unfold Py;split
 ·exact a
 ·exact UT _ _ _ (tq (lP (xQ (lP (xQ a 1) _) 0) _))
theorem XZ {s:RS} (h:s.ok):(PJ s).ok:=by
 have c:(XK s).ok:=xQ (lP (xQ (lP (xQ (lP (lP (L1 (lP (lP (t3 (t3 (t3 h _ _) _ _) _ _) _) _) _) _) _) 0) _) 0) _) 0;have a:(xo s).ok:=L1 (lP c _) _;unfold PJ;split
 ·exact lP (xQ a 1) _
 ·exact a
theorem YA {x:ByteArray} (a:x.size<9223372036854775807) (h:(vA x).2.2=0):cC 25 [.s x] [.row 132 4 (vA x).1.length (UR (vA x).1)] (.tup [.so 0,.I (vA x).2.1,.I (vA x).2.2]):=by have:=FT x a;unfold Yo Yp at this;rw[aE h,aE h] at this;exact this
theorem YB {x:ByteArray} (a:x.size<9223372036854775807) (h:(vA x).2.2≠0):cC 25 [.s x] [] (.tup [kV,.I (vA x).2.1,.I (vA x).2.2]):=by have:=FT x a;unfold Yo Yp at this;rw[aB h,aB h] at this;exact this
theorem Jp (x:ByteArray) (S:x.size<9223372036854775807):cC 7 [.s x] (Dz x) (Ea x):=by
 refine hZ Tryz.func7 [.cell 2 56,.tmp 3,.tmp 4] [(4,[.frz 5 [1]]),(2000030,[.frz 0 [2]])] ?_;by_cases f:(vA x).2.2=0
 ·refine jb (YA S f) ?_
  repeat apply jL
  refine⟨λh=> ?_,λ_=> ?_⟩
  ·have h:((vA x).2.2 !=0)=true:=h;rw[f] at h;cases h
  have U:=XN f;have D:(pa1 x).ok:=lP U _;have k2:(pa2 x).ok:=tq D;have k3:(pa3 x).ok:=lP k2 _;have E:(pa4 x).ok:=lP k3 _;have F:(pa5 x).ok:=lP E _;have w:(XT x).ok:=L1 F _;have k7:(pa7 x).ok:=xQ w 1;have W:(CO x).ok:=by
   unfold CO;split
   ·split
    ·exact k7
    ·exact w
   ·exact F
  refine aN (aN ?_);refine⟨true,[2,4],rfl,Unit,_,_,_,_,uL U rfl,λ_ _=> ?_⟩;refine aN (aN ?_);refine⟨true,[2],rfl,Unit,_,_,_,_,Dw (pa1 x) D.1 (by have:=D.2.1;omega),λ_ _=> ?_⟩;refine aN (aN ?_);refine⟨true,[2,5],rfl,Unit,_,_,_,_,uL k2 rfl,λ_ _=> ?_⟩;refine aN (aN ?_);refine⟨true,[2,6],rfl,Unit,_,_,_,_,uL k3 rfl,λ_ _=> ?_⟩;refine aN ⟨[],Unit,λ_=>True,λ_=>[],λ_=>[⟨2,[],(CO x).o⟩,⟨3,[],.cells 56 (({wV with name:=(Gc (pa1 x) 0).x,edit:=Jm x,wi:=Jn x}:Pf_q0).cs kV)⟩],?_,λ_ _=> ?_⟩
  ·refine eX ⟨_,_,pk,?_⟩;refine aN (aN ?_);refine⟨true,[2,7],rfl,Unit,_,_,_,_,pm (pa4 x) E.1 (by have:=E.2.1;omega) zX jD (λ_ _=>rfl),λ_ _=> ?_⟩;refine jB (paY x) (λh=> ?_) λh=> ?_
   ·refine aN (aN ?_);refine⟨true,[2,8],rfl,Unit,_,_,_,_,Dy F rfl,λ_ _=> ?_⟩;refine jB (paW x) (λh2=> ?_) λh2=> ?_
    ·have g:CO x=pa7 x:=by unfold CO;rw[aE h,aE h2]
     have n:Jm x=2:=by unfold Jm;rw[aE h]
     have t:Jn x=wq (XT x) 1:=by unfold Jn;rw[aE h,aE h2]
     refine aN (aN ?_);refine⟨true,[2],rfl,Unit,_,_,_,_,yV (XT x) w.1 (by have:=w.2.1;omega) 1,λ_ _=> ?_⟩;rw[g,n,t];exact⟨(),[],trivial,rfl,rfl,rfl,rfl,rfl,trivial,⟨qK,qK⟩⟩
    ·have g:CO x=XT x:=by unfold CO;rw[aE h,aB jK]
     have n:Jm x=2:=by unfold Jm;rw[aE h]
     have t:Jn x=0:=by unfold Jn;rw[aE h,aB jK]
     rw[g,n,t];exact⟨(),[],trivial,rfl,rfl,rfl,rfl,rfl,trivial,⟨qK,qK⟩⟩
   ·have g:CO x=pa5 x:=by unfold CO;rw[aB jR]
    have n:Jm x=0:=by unfold Jm;rw[aB jR]
    have t:Jn x=0:=by unfold Jn;rw[aB jR]
    rw[g,n,t];exact⟨(),[],trivial,rfl,rfl,rfl,rfl,rfl,trivial,⟨qK,qK⟩⟩
  have Y:(pa9 x).ok:=lP W _;have G:(XU x).ok:=t3 Y _ _;have H:(XV x).ok:=t3 G _ _;have K:(XW x).ok:=t3 H _ _;have L:(XX x).ok:=t3 K _ _;have M:(aDa x).ok:=t3 L _ _;have z:(PL x).ok:=lP M _;have N:(aDb x).ok:=xQ z 0;have C:(PM x).ok:=lP N _;have O:(aDc x).ok:=xQ C 0;have P:(GC x).ok:=lP O _;have Q:(Uw x).1.ok:=XY P _;have R:(Jo x).ok:=XZ Q;refine aN (aN ?_);refine⟨true,[2,7],rfl,Unit,_,_,_,_,uL W rfl,λ_ _=> ?_⟩;refine eX ⟨_,_,Pw,?_⟩;refine aN (aN ?_);refine⟨true,[2,8],rfl,Unit,_,_,_,_,x5 Y XO bc jD (λ_ _=>rfl),λ_ _=> ?_⟩;refine eX ⟨_,_,pk,?_⟩;refine aN (aN ?_);refine⟨true,[2,9],rfl,Unit,_,_,_,_,x5 G XP zX jD (λ_ _=>rfl),λ_ _=> ?_⟩;refine eX ⟨_,_,Px,?_⟩;refine aN (aN ?_);refine⟨true,[2,10],rfl,Unit,_,_,_,_,x5 H XQ be jD (λ_ _=>rfl),λ_ _=> ?_⟩;refine eX ⟨_,_,pk,?_⟩;refine aN (aN ?_);refine⟨true,[2,11],rfl,Unit,_,_,_,_,x5 K XR zX jD (λ_ _=>rfl),λ_ _=> ?_⟩;refine eX ⟨_,_,pk,?_⟩;refine aN (aN ?_);refine⟨true,[2,12],rfl,Unit,_,_,_,_,x5 L XS zX jD (λ_ _=>rfl),λ_ _=> ?_⟩;refine aN (aN ?_);refine⟨true,[2,13],rfl,Unit,_,_,_,_,uL M rfl,λ_ _=> ?_⟩;refine aN (aN ?_);refine⟨true,[2],rfl,Unit,_,_,_,_,yV (PL x) z.1 (by have:=z.2.1;omega) 0,λ_ _=> ?_⟩;refine aN (aN ?_);refine⟨true,[2,14],rfl,Unit,_,_,_,_,uL N rfl,λ_ _=> ?_⟩;refine aN (aN ?_);refine⟨true,[2],rfl,Unit,_,_,_,_,yV (PM x) C.1 (by have:=C.2.1;omega) 0,λ_ _=> ?_⟩;refine aN (aN ?_);refine⟨true,[2,15],rfl,Unit,_,_,_,_,uL O rfl,λ_ _=> ?_⟩;refine aN (aN ?_);refine⟨true,[2,3],rfl,Unit,_,_,_,_,GA P (paP x) rfl,λ_ _=> ?_⟩;refine aN (aN ?_);refine⟨true,[2,3,16],rfl,Unit,_,_,_,_,PK Q (Uw x).2,λ_ _=> ?_⟩;refine aN ⟨[],Unit,λ_=>True,λ_=>[],λ_=>[⟨2,[],(iq x).o⟩],?_,λ_ _=> ?_⟩
  ·repeat apply jL
   refine⟨λ_=>by have:0<(PJ (Uw x).1).ts.length:=R.1;omega,?_⟩
   repeat apply jL
   refine jB (paC x) (λh=> ?_) λh=> ?_
   ·have g:iq x=i6 (Jo x) 12:=by unfold iq;rw[aE h]
    refine aN (aN ?_);refine⟨true,[2],rfl,Unit,_,_,_,_,aGt (Jo x) R.1 12,λ_ _=> ?_⟩;rw[g];exact⟨(),[],trivial,rfl,rfl,rfl,rfl,rfl,trivial,qK⟩
   ·have g:iq x=Jo x:=by unfold iq;rw[aB jR]
    rw[g];exact⟨(),[],trivial,rfl,rfl,rfl,rfl,rfl,trivial,qK⟩
  repeat apply jL
  refine jB ((iq x).err !=0) (λh=> ?_) λh=> ?_
  ·rw[lM] at h;have e:o5 x=((iq x).pos,(iq x).err):=by unfold o5;rw[aB (by rw[f];decide),aE h]
   have j:Dz x=[]:=by unfold Dz;rw[e,aB h]
   have l:Ea x= .tup [.ag (wV.cs kV),.I (iq x).pos,.I (iq x).err]:=by unfold Ea;rw[e,aB h]
   rw[j,l];exact ng
  ·rw[fY] at h;have e:o5 x=(0,0):=by unfold o5;rw[aB (by rw[f];decide),aB jR]
   have j:Dz x=[(yE x).ro]:=by unfold Dz;rw[e,aE rfl]
   have l:Ea x= .tup [.ag ((yE x).cs (.so 0)),.I 0,.I 0]:=by unfold Ea;rw[e,aE rfl]
   rw[j,l];exact⟨[(0,16)],⟨nR,⟨ni,trivial⟩,rfl⟩,rfl,λk hk=>rfl⟩
 ·refine jb (YB S f) ?_
  repeat apply jL
  refine⟨λ_=> ?_,λh=> ?_⟩
  ·have e:o5 x=(vA x).2:=by unfold o5;rw[aE f]
   have j:Dz x=[]:=by unfold Dz;rw[e,aB f]
   have l:Ea x= .tup [.ag (wV.cs kV),.I (vA x).2.1,.I (vA x).2.2]:=by unfold Ea;rw[e,aB f]
   rw[j,l];exact ng
  ·have h:((vA x).2.2 !=0)=false:=h;rw[fY] at h;exact absurd h f
def Pf_q0.ar (p:Pf_q0):AV:= .ag (p.cs (.rs 1 p.types.length (rB p.types)))
theorem zu (n a b:Int):cC 38 [.I n,.I a,.I b] [] (.b (decide (n>=a)&&decide (n<=b))):=by refine hZ Tryz.func38 [.tmp 6] [] ?_;exact RetIs.b rfl
def aDd (p:Pf_q0):Bool:=(p.files==0)==(p.bytes==0)&&(p.files==0)==((p.types.length:Int)==0)
theorem Jq (p:Pf_q0):cC 39 [p.ar] [] (.b (aDd p)):=by refine hZ Tryz.func39 [.tmp 2] [] ?_;exact RetIs.b rfl
theorem Pz (l:List ByteArray) (e:l.length<2^62) (x:ByteArray) {get:Nat->List AV} (c: ∀k,k<l.length->get k=rB l k):cC 40 [.rs 1 l.length get,.s x] [] (.b (decide (aHm l x>=0))):=by
 refine hZ Tryz.func40 [.tmp 4] [] ?_
 repeat apply jL
 exact⟨_,_,Us l e x c,RetIs.b rfl⟩
theorem aIg (x:ByteArray) (c:x.size<9223372036854775807):cC 82 [.s x] [] (.b (!zK x)):=by
 refine hZ Tryz.func82 [.tmp 2] [] ?_
 repeat apply jL
 exact⟨_,_,Du x c,RetIs.b rfl⟩
theorem t4 {α:Type} (f:α->Bool) (d:α) (l:List α) (h: ∀j,j<l.length->f (l.getD j d)=false):l.any f=false:=by rw[fH];intro x c;obtain⟨j,a,rfl⟩:=cU c;have:=h j a;rw[xE a] at this;rw[this];decide
theorem t5 {α:Type} (f:α->Bool) (d:α) (l:List α) {j:Nat} (a:j<l.length) (h:f (l.getD j d)=true):l.any f=true:=by rw[xE a] at h;exact kC.2 ⟨_,fN a,h⟩
def wsm (l:List ByteArray):Prop:= ∀k,(l.getD k gB).size<9223372036854775807
theorem Jr (l:List ByteArray) (z:l.length<2^62) (w:wsm l) {get:Nat->List AV} (q: ∀k,k<l.length->get k=rB l k): ∃r:Int,decide (r>=0)=l.any (λx=> !zK x)/\cC 155 [.rs 1 l.length get,.fn 82 []] [] (.I r):=by
 obtain⟨r,c⟩: ∃r:Int,r=match l.findIdx? (λx=> !zK x) with|some k=>(k:Int)|none=> -1:=⟨_,rfl⟩
 refine⟨r,?_,j8.of_eq (args:=[.rs 1 l.length (rB l),.fn 82 []]) ⟨⟨rfl,rfl,q⟩,eV.refl _⟩ ?_⟩
 ·cases a:l.findIdx? (λx=> !zK x) with
  |none=>rw[a] at c;rw[gF] at a;rw[c,fH.2 λx f=>by rw[a x f];decide];rfl
  |some k=>rw[a] at c;rw[eW] at a;obtain⟨n,t,_⟩:=a;rw[c,kC.2 ⟨_,fN n,t⟩];exact gH (iK k)
 refine hZ Tryz.func155 [.tmp 4] [] ?_;refine .inl ⟨[],Nat,λk=>k<=l.length/\ ∀j,j<k->(!zK (l.getD j gB))=false,λk=>[⟨8,[],.I k⟩],λ_=>[],λk=>l.length-k,
  nc,?_⟩
 rintro k ⟨n,hno⟩;refine .inl ⟨λe=> ?_,λe=> ?_⟩
 ·have e:=pH e;refine .inl ⟨J,.inl ⟨[],_,aIg (l.getD k gB) (w k),⟨λh=> ?_,λh=> ?_⟩⟩⟩
  ·refine RetIs.i ?_;have h:(!zK (l.getD k gB))=true:=h;have:l.findIdx? (λx=> !zK x)=some k:=by rw[eW];refine⟨J,by rw[<-xE (d:=gB)];exact h,λj hj=> ?_⟩;have g:=hno j hj;rw[xE J] at g;rw[g];decide
   rw[c,this]
  ·exact mF
 ·have e:=iT e;refine RetIs.i ?_;have:l.findIdx? (λx=> !zK x)=none:=by
   rw[gF];intro x f;obtain⟨j,hj,rfl⟩:=cU f;have:=hno j J
   rwa [xE hj] at this
  rw[c,this]
theorem xp (l:List ByteArray) (f:l.length<2^62) (j:wsm l) {get:Nat->List AV} (e: ∀k,k<l.length->get k=rB l k):cC 81 [.rs 1 l.length get,.fn 82 []] [] (.b (l.any (λx=> !zK x))):=by
 obtain⟨r,g,c⟩:=Jr l f j e;refine hZ Tryz.func81 [.tmp 4] [] ?_
 repeat apply jL
 exact⟨_,_,c,RetIs.b g⟩
def PN (n:Int):Bool:=decide (n<0)||decide (n>1073741824)
def kiB (x:Int×Int):Bool:=decide (x.1<0)||decide (x.1>=x.2)
def MY (p:Pf_q0):List Int:=[p.wi,p.size,p.parts,p.files,p.bytes,p.rate,p.down,p.win,p.keep]
def UU (p:Pf_q0):List (Int×Int):=[(p.del,3),(p.thr,3),(p.join,3),(p.hist,2),(p.rem,2),(p.level,5)]
def riE (p:Pf_q0):Bool:=p.edit !=0&&p.edit !=2
def riW (p:Pf_q0):Bool:=p.edit==0&&decide (p.wi>0)
def riT (p:Pf_q0):Bool:=(decide ((p.types.length:Int)>=1)&&decide ((p.types.length:Int)<=20))&& !p.types.any (λx=> !zK x)
def riF (p:Pf_q0):Bool:=p.bytes==0&&(p.types.length:Int)==0
def l1 (p:Pf_q0):Bool:=
 if(MY p).any PN=true then false else if(UU p).any kiB=true then false else
 if(!zK p.name)=true then false else if riE p=true then false else if riW p=true then false else if(p.files==0)=true then riF p else riT p
theorem Ys (p:Pf_q0) (C:p.types.length<2^62) (E:wsm p.types) (D:p.name.size<9223372036854775807):cC 37 [p.ar] [] (.b (l1 p)):=by
 refine hZ Tryz.func37 [.tmp 2] [(1000001,[.eq 1 (.row 3 1 9 λk=>[.I ((MY p).getD k 0)])]),(1000007,[.eq 2 (.row 181 2 6 λk=>[.I ((UU p).getD k (0,0)).1,.I ((UU p).getD k (0,0)).2])])] ?_
 repeat apply jL
 refine⟨⟨rfl,rfl,rfl,λk g=> ?_⟩,?_⟩
 ·have g:k<9:=g;rcases k with _|_|_|_|_|_|_|_|_|k
  all_goals first|rfl|omega
 repeat apply jL
 refine⟨[],Nat,λk=>k<=9/\ ∀j,j<k->PN ((MY p).getD j 0)=false,λk=>[⟨27,[],.I k⟩],λ_=>[],λk=>9-k,
  nc,?_⟩
 rintro k ⟨g,hno⟩;have g:k<=9:=g;refine .inl ⟨λf=> ?_,λf=> ?_⟩
 ·have f:=pH f;have f:(k:Int)<9:=f;refine .inl ⟨J,J,?_⟩
  repeat apply jL
  refine⟨λh=> ?_,λh=> ?_⟩
  ·have h:PN ((MY p).getD k 0)=true:=h;have e:l1 p=false:=by unfold l1;rw[aE (t5 PN 0 (MY p) (by show k<9;omega) h)]
   rw[e];exact RetIs.b rfl
  ·exact mF
 have f:=iT f;have f:(9:Int)<=(k:Nat):=f;have t:(MY p).any PN=false:=t4 PN 0 (MY p) λj hj=>hno j (by have:j<9:=hj;omega)
 repeat apply jL
 refine⟨⟨rfl,rfl,rfl,λk g=> ?_⟩,?_⟩
 ·have g:k<6:=g;rcases k with _|_|_|_|_|_|k
  all_goals first|rfl|omega
 repeat apply jL
 refine⟨[],Nat,λk=>k<=6/\ ∀j,j<k->kiB ((UU p).getD j (0,0))=false,λk=>[⟨58,[],.I k⟩],λ_=>[],λk=>6-k,
  nc,?_⟩
 rintro k ⟨g,hno⟩;have g:k<=6:=g;refine .inl ⟨λf=> ?_,λf=> ?_⟩
 ·have f:=pH f;have f:(k:Int)<6:=f;refine .inl ⟨J,J,?_⟩
  repeat apply jL
  refine⟨jD,λ_=>jD,λ_=>jD,λh=> ?_,λh=> ?_⟩
  ·have h:kiB ((UU p).getD k (0,0))=true:=h;have e:l1 p=false:=by unfold l1;rw[aB (by rw[t];decide),aE (t5 kiB (0,0) (UU p) (by show k<6;omega) h)]
   rw[e];exact RetIs.b rfl
  ·exact mF
 have f:=iT f;have f:(6:Int)<=(k:Nat):=f;have w:(UU p).any kiB=false:=t4 kiB (0,0) (UU p) λj hj=>hno j (by have:j<6:=hj;omega);have z:l1 p=if(!zK p.name)=true then false else if riE p=true then false else if riW p=true then false else if(p.files==0)=true then riF p else riT p:=by unfold l1;rw[aB (by rw[t];decide),aB (by rw[w];decide)]
 rw[z];have l: ∀{b:Bool} {x:Bool},b=false->(if b=true then false else x)=x:=λh=>by rw[h];rfl
 have n: ∀{b:Bool} {x:Bool},b=true->(if b=true then false else x)=false:=λh=>by rw[h];rfl
 refine jb (Du p.name D) ?_
 repeat apply jL
 refine jB (!zK p.name) (λh=> ?_) λh=> ?_
 ·rw[n h]
  repeat apply jL
  exact⟨λ_=>RetIs.b rfl,λh2=>absurd (h.symm.trans h2) jD⟩
 rw[l h]
 repeat apply jL
 refine jB (riE p) (λh=> ?_) λh=> ?_
 ·rw[n h];exact⟨λ_=>RetIs.b rfl,λh2=>absurd (h.symm.trans h2) jD⟩
 rw[l h];refine jB (riW p) (λh=> ?_) λh=> ?_
 ·rw[n h];exact RetIs.b rfl
 rw[l h];refine jB (p.files==0) (λh=> ?_) λh=> ?_
 ·rw[aE h];exact RetIs.b rfl
 rw[aB jR]
 repeat apply jL
 refine⟨[],_,λ_=>xp p.types C E (λ_ _=>rfl),?_⟩;exact RetIs.b rfl
end Go.Proofs.YtpnjmojpeaegoaaGreatDoor
namespace Go.Qu
structure Wt where
 e:Int
 n:Int
 l:Int
 d:Int
deriving DecidableEq
def Eb (x y:Wt):Prop:=x.d<y.d\/(x.d=y.d/\x.e<y.e)
instance (x y:Wt):Decidable (Eb x y):=by unfold Eb;infer_instance
def Q5 (l:List Wt):Int:=(l.map (·.l)).sum
def nd (n:Int) (w:Wt) (l:List Wt):Int:=(l.map λx=>if x.n=n/\ ¬Eb w x then x.l else 0).sum
theorem GD {α:Type} (f:α->Int) {a b:List α} (h:a.Perm b):(a.map f).sum=(b.map f).sum:=by
 induction h with
 |nil=>rfl
 |cons x _ g=>simp[g]
 |swap x y l=>simp;omega
 |trans _ _ c e=>exact c.trans e
theorem bh {n:Int} {w:Wt} {a b:List Wt} (h:a.Perm b):nd n w a=nd n w b:=GD _ h
theorem iu (n:Int) (w:Wt) (a b:List Wt):nd n w (a++b)=nd n w a+nd n w b:=by simp[nd]
theorem g6 (n:Int) (w x:Wt) (a:List Wt):nd n w (x::a)=(if x.n=n/\ ¬Eb w x then x.l else 0)+nd n w a:=by simp[nd]
theorem bi {n:Int} {w:Wt}: ∀{l:List Wt},(∀x∈l,x.n=n->Eb w x)->nd n w l=0
 |[],_=>rfl
 |x::r,h=>by
  rw[g6,bi λy c=>h y (by simp[c]),aB]
  ·rfl
  ·exact λa=>a.2 (h x jS a.1)
theorem GE {n:Int} {w:Wt}: ∀{l:List Wt},(∀x∈l,x.n=n/\ ¬Eb w x)->nd n w l=Q5 l
 |[],_=>rfl
 |x::r,h=>by rw[g6,GE λy a=>h y (by simp[a]),aE (h x jS)];simp[Q5]
theorem iv (n:Int) (w:Wt): ∀(l:List Wt),nd n w l=nd n w (l.filter λx=>x.n==n)
 |[]=>rfl
 |x::r=>by
  rw[g6,iv n w r];by_cases h:x.n=n
  ·rw[oW jH,g6]
  ·rw[oV jH,aB (λa=>h a.1)];omega
theorem Qa {n:Int} {a b:List Wt} {w:Wt} (g: ∀x∈a++w::b,x.n=n) (h:(a++w::b).Pairwise Eb):nd n w (a++w::b)=Q5 a+w.l:=by
 have f:=uD.1 h;have e: ∀x y:Wt,Eb x y-> ¬Eb y x:=λx y h k=>by unfold Eb at h k;omega
 have j: ¬Eb w w:=λh=>e _ _ h h;rw[iu,g6,aE ⟨g w jS,j⟩,GE (λx c=>⟨g x (by simp[c]),e _ _ (f.2.2 x c w jS)⟩),bi (λx c _=>(jP.1 f.2.1).1 x c)];omega
def serve:Int->List Wt->List Wt
 |_,[]=>[]
 |r,x::t=>{x with l:=x.l-min r x.l}::serve (r-min r x.l) t
theorem N7: ∀(a:List Wt) (r:Int),0<=r->(∀x∈a,0<=x.l)->Q5 (serve r a)=Q5 a-min r (Q5 a)/\0<=Q5 a/\ ∀y∈serve r a,0<=y.l
 |[],r,n,_=>⟨by simp[serve,Q5];omega,by simp[Q5],by simp[serve]⟩
 |x::t,r,n,h=>by
  have w:=h x jS;obtain⟨g,q,j⟩:=N7 t (r-min r x.l) J (λy c=>h y (by simp[c]));have e:Q5 (x::t)=x.l+Q5 t:=by simp[Q5]
  have f:Q5 (serve r (x::t))=x.l-min r x.l+Q5 (serve (r-min r x.l) t):=by simp[Q5,serve]
  refine⟨?_,J,?_⟩
  ·rw[f,e,g];omega
  ·intro y c;rcases eF.1 c with rfl|c
   ·show 0<=x.l-min r x.l;omega
   ·exact j y c
theorem iw: ∀(a:List Wt) (r:Int),(serve r a).map (λx=>(x.e,x.n,x.d))=a.map λx=>(x.e,x.n,x.d)
 |[],_=>rfl
 |x::t,r=>by simp[serve,iw t]
theorem x6: ∀(s:List Wt) (r:Int) (y:Wt),y∈serve r s-> ∃a x b,s=a++x::b/\y={x with l:=y.l}/\serve r (a++[x])=serve r a++[y]/\serve r s=serve r a++y::serve (r-(Q5 (a++[x])-Q5 (serve r (a++[x])))) b
 |[],_,y,h=>by simp[serve] at h
 |x::t,r,y,h=>by
  rcases eF.1 h with rfl|h
  ·refine⟨[],x,t,rfl,rfl,rfl,?_⟩;simp[serve,Q5]
   congr 1
   omega
  ·obtain⟨a,z,b,e,f,c,g⟩:=x6 t _ y h;refine⟨x::a,z,b,by rw[e];rfl,f,by simp[serve,c],?_⟩;simp only[serve,xK,g,c,lS,true_and,List.append_cancel_left_eq]
   congr 1
   simp[Q5];omega
theorem PO {a b:List Wt} (h:a.Pairwise Eb) (c:a.map (λx=>(x.e,x.n,x.d))=b.map λx=>(x.e,x.n,x.d)):b.Pairwise Eb:=by
 have e: ∀l:List Wt,l.Pairwise Eb↔(l.map λx=>(x.e,x.n,x.d)).Pairwise (λp q=>p.2.2<q.2.2\/(p.2.2=q.2.2/\p.1<q.1)):=λl=>by rw[gQ];exact M3
 rw[e,<-c,<-e];exact h
theorem Ec (n:Int) (w:Wt): ∀l:List Wt,nd n w (l.filter λx=> !(x.l==0))=nd n w l
 |[]=>rfl
 |x::t=>by
  rw[iW,g6];by_cases h:x.l=0
  ·rw[aB (by simp[h]),Ec n w t];split<;>omega
  ·rw[aE jH,g6,Ec n w t]
structure Stp (r n:Int) (l:List Wt) (done:List Int) (rest:List Wt):Prop where
 is: ∃s:List Wt,s.Perm (l.filter λx=>x.n==n)/\s.Pairwise Eb/\rest.Perm ((l.filter λx=> !(x.n==n))++(serve r s).filter λx=> !(x.l==0))/\done=((serve r s).filter λx=>x.l==0).map (·.e)
theorem Ee {r n:Int} {s:List Wt} (f: ∀x∈s,x.n=n): ∀y∈serve r s,y.n=n:=λy g=>by obtain⟨a,x,b,c,e,_⟩:=x6 s r y g;rw[e];exact f x (by rw[c];simp)
theorem Stp.other {r n:Int} {l c:List Wt} {done:List Int} (h:Stp r n l done c) {m:Int} (f:m≠n) (w:Wt):nd m w c=nd m w l/\ ∀x,x.n=m->(x∈c↔x∈l):=by
 obtain⟨s,q,D,g,E⟩:=h.is;have z: ∀x∈s,x.n=n:=λx a=>by simpa using(eC.1 (q.mem_iff.1 a)).2
 have j:=Ee (r:=r) z;have C: ∀w,nd m w ((serve r s).filter λx=> !(x.l==0))=0:=λw=>by rw[bi];intro x a e;exact absurd (e.symm.trans (j x (eC.1 a).1)) f
 have A: ∀w,nd m w (l.filter λx=>x.n==n)=0:=λw=>by rw[bi];intro x a e;exact absurd (e.symm.trans (by simpa using(eC.1 a).2)) f
 refine⟨?_,λx a=> ?_⟩
 ·rw[bh g,iu,C];have t:=bh (n:=m) (w:=w) (oU (λx:Wt=>x.n==n) l);rw[iu,A] at t;omega
 ·rw[g.mem_iff,cR,eC,eC];constructor
  ·rintro(h|h)
   ·exact h.1
   ·exact absurd (a.symm.trans (j x h.1)) f
  ·intro h;exact .inl ⟨h,jO⟩
theorem Stp.own {r n:Int} (D:0<=r) {l q:List Wt} {done:List Int} (h:Stp r n l done q) (Q: ∀x∈l,1<=x.l) {y:Wt} (c:y∈q) (N:y.n=n):
  1<=y.l/\ ∃x∈l,x.n=n/\y={x with l:=y.l}/\y.l<=x.l/\nd n y q=nd n x l-r:=by
 obtain⟨s,t,G,H,W⟩:=h.is;have K: ∀x∈s,x.n=n:=λx f=>by simpa using(eC.1 (t.mem_iff.1 f)).2
 have C: ∀x∈s,1<=x.l:=λx f=>Q x (eC.1 (t.mem_iff.1 f)).1;rw[H.mem_iff,cR] at c;rcases c with c|c
 ·exact absurd N (by simpa using(eC.1 c).2)
 obtain⟨c,L⟩:=eC.1 c;obtain⟨a,x,b,j,O,P,A⟩:=x6 s r y c;obtain⟨t1,t2,S⟩:=N7 s r D (λx f=>by have:=C x f;omega);have M:1<=y.l:=by have:=S y c;have:y.l≠0:=(by simpa using L);omega
 have f:x∈s:=by rw[j];simp
 have F:=eC.1 (t.mem_iff.1 f);have E: ∀z∈a++[x],1<=z.l:=λz g=>C z (by rw[j];simp at g|-;rcases g with h|h<;>simp[h]);obtain⟨u1,u2,u3⟩:=N7 (a++[x]) r D (λz g=>by have:=E z g;omega);obtain⟨v1,v2,v3⟩:=N7 a r D (λz g=>by have:=E z (by simp[g]);omega);have tx:Q5 (a++[x])=Q5 a+x.l:=by simp[Q5]
 have ty:Q5 (serve r (a++[x]))=Q5 (serve r a)+y.l:=by rw[P];simp[Q5]
 have U:=C x f;refine⟨M,x,F.1,by simpa using F.2,O,J,?_⟩;have R:nd n x l=Q5 a+x.l:=by rw[iv,<-bh t,j];exact Qa (by rw[<-j];exact K) (by rw[<-j];exact G)
 have k2:nd n y q=Q5 (serve r a)+y.l:=by rw[bh H,iu,bi (λz g e=>absurd e (by simpa using(eC.1 g).2)),Ec,A];have Y:=Qa (n:=n) (w:=y) (a:=serve r a) (b:=serve (r-(Q5 (a++[x])-Q5 (serve r (a++[x])))) b) (by rw[<-A];exact Ee K) (by rw[<-A];exact PO G (iw s r).symm);omega
 rw[R,k2];omega
theorem Stp.done {r n:Int} {l g:List Wt} {done:List Int} (h:Stp r n l done g) {e:Int} (c:e∈done): ∃x∈l,x.n=n/\x.e=e:=by obtain⟨s,q,z,A,t⟩:=h.is;rw[t] at c;obtain⟨y,w,rfl⟩:=fL.1 c;obtain⟨a,x,b,j,k,_⟩:=x6 s r y (eC.1 w).1;have f:=eC.1 (q.mem_iff.1 (show x∈s by rw[j];simp));exact⟨x,f.1,by simpa using f.2,by rw[k]⟩
def dn (u:List Bool):Int:=(u.map λb=>if b then 0 else 1).sum
def up (u:List Bool):Int:=(u.map λb=>if b then 1 else 0).sum
theorem iy (a b:List Bool):dn (a++b)=dn a+dn b:=by simp[dn]
theorem Qb (a b:List Bool):up (a++b)=up a+up b:=by simp[up]
theorem tt: ∀u:List Bool,0<=dn u/\0<=up u/\dn u+up u=u.length
 |[]=>by simp[dn,up]
 |b::t=>by
  obtain⟨e,f,g⟩:=tt t;have a:dn (b::t)=(if b then 0 else 1)+dn t:=by simp[dn]
  have c:up (b::t)=(if b then 1 else 0)+up t:=by simp[up]
  rw[a,c,gR];cases b<;>simp<;>omega
def dc (d w:Int) (u:List Bool) (k:Nat):Int:=if d>0 then dn ((u.take k).drop (k-w.toNat)) else dn (u.take k)
def MZ (d w:Int) (u:List Bool):Prop:= ∀k,k<=u.length->dc d w u k<=d
theorem MZ.pre {d w:Int} {u v:List Bool} (h:MZ d w (u++v)):MZ d w u:=λk a=>by have:=h k jO;unfold dc at this|-;rw[kG a] at this;exact this
theorem win {d w:Int} {u:List Bool} (h:MZ d w u) (c:d>0) {k j:Nat} (f:j<=u.length) (g:j-w.toNat<=k):dn ((u.take j).drop k)<=d:=by
 have a:=h j f;unfold dc at a;rw[aE c] at a;have e:(u.take j).drop (j-w.toNat)=((u.take j).drop (j-w.toNat)).take (k-(j-w.toNat))++(u.take j).drop k:=by
  conv=>lhs;rw[<-lH (k-(j-w.toNat)) ((u.take j).drop (j-w.toNat))]
  rw[oE]
  congr 2
  omega
 rw[e,iy] at a;have:=(tt (((u.take j).drop (j-w.toNat)).take (k-(j-w.toNat)))).1;omega
def U4 (d w t:Int):Int:=if d>0 then t/w*d+min (t % w) d else 0
theorem PP {d w:Int} {u:List Bool} (h:MZ d w u) (A:0<=d) (j:d>0->d<w): ∀(t k:Nat),k+t<=u.length->dn ((u.take (k+t)).drop k)<=U4 d w t:=by
 intro t
 induction t using Nat.strongRecOn with
 |_ t x=>
  intro k f;unfold U4;by_cases c:d>0
  ·rw[aE c];have j:=j c;by_cases g:(t:Int)<w
   ·rw[Int.ediv_eq_zero_of_lt J g,m1 J g];have a:=win h c (k:=k) f J;have q:=tt ((u.take (k+t)).drop k);have C:(((u.take (k+t)).drop k).length:Int)=t:=jO
    omega
   ·have e:((t:Int)-w).toNat=t-w.toNat:=J;have a:=x (t-w.toNat) J k J;unfold U4 at a;rw[aE c] at a;have l:((t-w.toNat:Nat):Int)=t+ -1*w:=J
    rw[l,Int.add_mul_ediv_right _ _ J,Int.add_mul_emod_self_right] at a;have q:=win h c (k:=k+(t-w.toNat)) f J;have n:(u.take (k+t)).drop k=(u.take (k+(t-w.toNat))).drop k++(u.take (k+t)).drop (k+(t-w.toNat)):=by
     conv=>lhs;rw[<-lH (t-w.toNat) ((u.take (k+t)).drop k)]
     rw[oE,List.take_drop,List.take_take]
     congr 3
     omega
    rw[n,iy];have z:((t:Int)/w+ -1)*d=(t:Int)/w*d-d:=by rw[Int.add_mul];omega
    omega
  ·rw[aB c];have a:=h (k+t) f;unfold dc at a;rw[aB c] at a;have e:u.take (k+t)=(u.take (k+t)).take k++(u.take (k+t)).drop k:=(lH _ _).symm;rw[e,iy] at a;have:=(tt ((u.take (k+t)).take k)).1;omega
def gv (r d w a b:Int):Int:=if b<a then 0 else
 let s:=(b-a)-U4 d w (b-a)
 if s>0/\r>4503599627370496/s then 4503599627370496 else r*s
def Inv_q1 (r d w n:Int) (u:List Bool) (l:List Wt):Prop:= ∃a:Nat,a<=u.length/\ ∀x∈l,x.n=n->nd n x l+r*up (u.drop a)<=gv r d w a x.d
theorem YC {n:Int} {l:List Wt} (h: ∀x∈l,1<=x.l) {x:Wt} (f:x∈l) (j:x.n=n):1<=nd n x l:=by
 have g: ∀l:List Wt,(∀x∈l,1<=x.l)->0<=nd n x l:=by
  intro l e
  induction l with
  |nil=>exact kR 0
  |cons y t q=>have:=q λz c=>e z (by simp[c]);have D:=e y jS;rw[g6];split<;>omega
 obtain⟨a,b,rfl⟩:=List.append_of_mem f;have w:=g a λz c=>h z (by simp[c]);have A:=g b λz c=>h z (by simp[c]);have C:=h x f;rw[iu,g6,aE ⟨j,by unfold Eb;omega⟩];omega
theorem Inv_q1.late {r d w n:Int} {u:List Bool} {l:List Wt} (h:Inv_q1 r d w n u l) (R:1<=r) (A:0<=d) (G:d>0->d<w) (F:MZ d w u) (D: ∀x∈l,1<=x.l) {x:Wt} (g:x∈l) (f:x.n=n):(u.length:Int)<x.d:=by
 obtain⟨a,P,C⟩:=h;have c:=C x g f;have M:=YC D g f;have q:=(tt (u.drop a)).2.1;have H:=zQ (show 0<=r by omega) q;refine Int.not_le.1 λU=> ?_;unfold gv at c;split at c
 ·omega
 rename_i L;obtain⟨t,E⟩: ∃t:Nat,(t:Int)=x.d-a:=⟨(x.d-a).toNat,J⟩;have Q:=PP F A G t a J;have S:=tt ((u.take (a+t)).drop a);have K:(((u.take (a+t)).drop a).length:Int)=t:=jO
 have j:u.drop a=(u.take (a+t)).drop a++u.drop (a+t):=by
  conv=>lhs;rw[<-lH t (u.drop a)]
  rw[oE,List.take_drop]
 have N:=(tt (u.drop (a+t))).2.1;have z:t-U4 d w t<=up (u.drop a):=by rw[j,Qb];omega
 have O:=tI z (show 0<=r by omega);rw[<-E] at c;dsimp only at c;split at c
 ·rename_i e;have:=(Int.ediv_lt_iff_lt_mul e.1).1 e.2;omega
 ·omega
theorem Inv_q1.put {r d w n:Int} {u:List Bool} {l:List Wt} (h: ∀x∈l,x.n=n->nd n x l<=gv r d w u.length x.d):Inv_q1 r d w n u l:=
 ⟨u.length,aG _,λx c a=>by rw[p8];have:=h x c a;simpa [up] using this⟩
theorem Inv_q1.down {r d w n:Int} {u:List Bool} {l:List Wt} (h:Inv_q1 r d w n u l):Inv_q1 r d w n (u++[false]) l:=by obtain⟨a,c,e⟩:=h;refine⟨a,jO,λx g f=> ?_⟩;rw[lI c,Qb];have:=e x g f;simpa [up] using this
theorem Inv_q1.step {r d w n:Int} {u:List Bool} {l c:List Wt} {done:List Int} (h:Inv_q1 r d w n u l) (D:0<=r) (A: ∀x∈l,1<=x.l) (E:Stp r n l done c):Inv_q1 r d w n (u++[true]) c:=by
 obtain⟨a,t,z⟩:=h;refine⟨a,jO,λy G C=> ?_⟩;obtain⟨_,x,F,f,e,_,q⟩:=E.own D A G C;have H:=z x F f;rw[lI t,Qb,q];have g:up [true]=1:=rfl;have j:y.d=x.d:=by rw[e]
 rw[g,j,Int.mul_add];omega
theorem Inv_q1.other {r d w n m:Int} {u:List Bool} {l c:List Wt} {q:Int} {done:List Int} (h:Inv_q1 r d w m u l) (t:m≠n) (x:Stp q n l done c):Inv_q1 r d w m u c:=by obtain⟨a,j,k⟩:=h;refine⟨a,j,λy z e=> ?_⟩;obtain⟨f,g⟩:=x.other t y;rw[f];exact k y ((g y e).1 z) e
end Go.Qu
namespace Go.Proofs.YtpnjmojpeaegoaaGreatDoor
open Go.Eng
def ckR (p:Pf_q0):Bool:=((((((!(decide (p.size>=40)&&decide (p.size<=4000)))|| !(decide (p.parts>=1)&&decide (p.parts<=20)))||decide (p.files>4))||decide (p.bytes>65536))||decide (p.rate<1))||(p.down !=0&&decide (p.down>=p.win)))|| !aDd p
def Yt (l:List ByteArray) (i:Nat):Bool:=decide (aHm (l.take i) (l.getD i gB)>=0)
def p2 (p:Pf_q0):Int:=if(!l1 p)=true then 1 else if ckR p=true then 3 else if(List.range p.types.length).any (Yt p.types)=true then 5 else 0
structure Pf_q0.fit (p:Pf_q0):Prop where
 l:p.types.length<2^62
 s:wsm p.types
 n:p.name.size<9223372036854775807
theorem Q6 {n j:Nat} (h:j<n):(List.range n).getD j 0=j:=by simp[List.getD,h]
theorem tu {l:List ByteArray} {i:Nat} (h:i<=l.length):(l.take i).length=i:=by rw[cT];omega
theorem GF {l:List ByteArray} {i k:Nat} (h:k<i):rB l k=rB (l.take i) k:=by unfold rB;rw[List.getD,List.getD,dZ,aE h]
theorem wD (p:Pf_q0) (g:p.fit):cC 8 [p.ar] [] (.I (p2 p)):=by
 refine hZ Tryz.func8 [.tmp 2] [] ?_
 refine jb (Ys p g.l g.s g.n) ?_
 repeat apply jL
 refine jB (!l1 p) (λh=> ?_) λh=> ?_
 ·refine RetIs.i ?_;unfold p2;rw[aE h]
 have x:p2 p=if ckR p=true then 3 else if(List.range p.types.length).any (Yt p.types)=true then 5 else 0:=by unfold p2;rw[aB jR]
 rw[x]
 refine jb (zu _ _ _) ?_
 refine jc (zu _ _ _) ?_
 refine jc (Jq p) ?_
 repeat apply jL
 refine jB (ckR p) (λh=> ?_) λh=> ?_
 ·rw[aE h];exact RetIs.i rfl
 rw[aB jR];have z:=g.l
 repeat apply jL
 refine⟨[],Nat,λk=>k<=p.types.length/\ ∀j,j<k->Yt p.types j=false,λk=>[⟨53,[],.I k⟩],λ_=>[],λk=>p.types.length-k,
  nc,?_⟩
 rintro k ⟨w,hno⟩;have w:k<=p.types.length:=w;refine .inl ⟨λf=> ?_,λf=> ?_⟩
 ·have f:=pH f;have f:(k:Int)<p.types.length:=f;refine .inl ⟨J,?_⟩
  repeat apply jL
  refine⟨⟨J,J⟩,?_⟩;have t:=Pz (p.types.take k) (by rw[tu J];omega) (p.types.getD k gB) (get:=rB p.types) λj hj=>GF (by rw[tu J] at hj;exact hj);rw[tu J] at t
  repeat apply jL
  refine⟨[],_,j8.of_eq (args:=[.rs 1 k (rB p.types),.s (p.types.getD k gB)]) ⟨⟨rfl,J,λq _=>jS⟩,by rw[aQ];exact eV.refl _⟩ t,?_⟩
  repeat apply jL
  refine⟨λh=> ?_,λh=> ?_⟩
  ·have h:Yt p.types k=true:=h;rw[aE (t5 (Yt p.types) 0 (List.range p.types.length) (j:=k) jO (by rw[Q6 J];exact h))];exact RetIs.i rfl
  ·exact mF
 ·have f:=iT f;have f:(p.types.length:Int)<=k:=f;rw[aB (by rw[t4 (Yt p.types) 0 _ λj hj=>by rw[oP] at hj;rw[Q6 hj];exact hno j J];decide)];exact RetIs.i rfl
theorem l2 {p:Pf_q0} (h:p2 p=0):40<=p.size/\p.size<=4000/\1<=p.parts/\p.parts<=20/\1<=p.rate/\p.rate<=1073741824/\0<=p.down/\(p.down>0->p.down<p.win)/\0<=p.files/\p.files<=4/\p.win<=1073741824:=by
 unfold p2 at h;by_cases h1:(!l1 p)=true
 ·rw[aE h1] at h;cases h
 rw[aB h1] at h;by_cases c:ckR p=true
 ·rw[aE c] at h;cases h
 have h1:l1 p=true:=j1
 have a:(MY p).any PN=false:=by
  unfold l1 at h1;by_cases a:(MY p).any PN=true
  ·rw[aE a] at h1;cases h1
  ·simpa using a
 simp[MY,PN] at a;simp[ckR] at c;omega
theorem RetIs.v {r av:AV} {O:List OE} {nid:Nat} (a:r.lt 0=true) (c:r.fresh=true) (h:eV (r.ren (rn [])) av):RetIs [] r av O nid:=⟨[],⟨⟨⟨rfl,a,h⟩,trivial⟩,trivial,rfl⟩,c,trivial⟩
def yW (r s:Int):Int×Int:=if(decide (s>0)&&decide (r>IntKind.i64.wrap (Int.tdiv 4503599627370496 s)))=true then(0,3) else(IntKind.i64.wrap (r*s),0)
theorem Yu (p:Pf_q0) (s:Int):cC 302 [p.ar,.I s] [] (.tup [.I (yW p.rate s).1,.I (yW p.rate s).2]):=by
 refine hZ Tryz.func302 [.tmp 4,.tmp 5] [] ?_
 repeat apply jL
 refine⟨λf=> ?_,?_⟩
 ·have h:decide (s>0)=true:=f.1;rw[aM] at h;omega
 refine jB (decide (s>0)&&decide (p.rate>IntKind.i64.wrap (Int.tdiv 4503599627370496 s))) (λh=> ?_) λh=> ?_
 ·unfold yW;rw[aE h];exact RetIs.v rfl rfl rfl
 ·unfold yW;rw[aB jR];exact RetIs.v rfl rfl rfl
def tw (p:Pf_q0) (t:Int):Int:=if(decide (p.down>0))=true then IntKind.i64.wrap (IntKind.i64.wrap (IntKind.i64.wrap (t.tdiv p.win)*p.down)+min (t.tmod p.win) p.down) else 0
def y8 (p:Pf_q0) (t:Int):Int×Int:=if((p2 p !=0||decide (t<0))||decide (t>1073741824))=true then(0,1) else yW p.rate (IntKind.i64.wrap (t-tw p t))
theorem GG (p:Pf_q0) (j:p.fit) (t:Int):cC 243 [p.ar,.I t] [] (.tup [.I (y8 p t).1,.I (y8 p t).2]):=by
 refine hZ Tryz.func243 [.tmp 4,.tmp 5] [] ?_
 refine jb (wD p j) ?_
 repeat apply jL
 refine jB ((p2 p !=0||decide (t<0))||decide (t>1073741824)) (λh=> ?_) λh=> ?_
 ·unfold y8;rw[aE h];exact RetIs.v rfl rfl rfl
 have g:y8 p t=yW p.rate (IntKind.i64.wrap (t-tw p t)):=by unfold y8;rw[aB jR]
 rw[g];refine aN ⟨[],Unit,λ_=>True,λ_=>[⟨6,[],.I (tw p t)⟩],λ_=>[],?_,λ_ _=> ?_⟩
 ·repeat apply jL
  refine jB (decide (p.down>0)) (λh2=> ?_) λh2=> ?_
  ·have f:p.win≠0:=by simp at h h2;have:=(l2 h.1.1).2.2.2.2.2.2.2.1 h2;have:=(l2 h.1.1).2.2.2.2.2.2.1;omega
   refine⟨f,f,?_⟩;refine⟨(),[],trivial,rfl,rfl,rfl,rfl,rfl,⟨rfl,?_⟩,trivial⟩;unfold tw;rw[aE h2]
  ·refine⟨(),[],trivial,rfl,rfl,rfl,rfl,rfl,⟨rfl,?_⟩,trivial⟩;unfold tw;rw[aB jK]
 ·refine jb (Yu p _) ?_;exact RetIs.v rfl rfl rfl
def zY (p:Pf_q0) (a b:Int):Int:=if(decide (b<a))=true then 0 else if((y8 p (IntKind.i64.wrap (b-a))).2==3)=true then 4503599627370496 else(y8 p (IntKind.i64.wrap (b-a))).1
theorem GH (p:Pf_q0) (f:p.fit) (a b:Int):cC 166 [p.ar,.I a,.I b] [] (.I (zY p a b)):=by
 refine hZ Tryz.func166 [.tmp 6] [] ?_
 repeat apply jL
 refine⟨λh=> ?_,λh=> ?_⟩
 ·have h:decide (b<a)=true:=h;unfold zY;rw[aE h];exact RetIs.i rfl
 have h:decide (b<a)=false:=h
 refine jb (GG p f _) ?_;unfold zY;rw[aB jR]
 repeat apply jL
 refine jB ((y8 p (IntKind.i64.wrap (b-a))).2==3) (λh=> ?_) λh=> ?_
 ·rw[aE h];exact RetIs.i rfl
 ·rw[aB jR];exact RetIs.i rfl
def fx (n:Nat) (p:Nat->Bool):Int:=match (List.range n).find? p with
 |some k=>(k:Int)
 |none=> -1
def xq (n:Nat) (p:Nat->Bool):Bool:=(List.range n).any p
theorem GJ {n:Nat} {p:Nat->Bool} (h: ∀j,j<n->p j=false):fx n p= -1:=by unfold fx;rw[pJ.2 λx a=>by rw[h x (by simpa using a)];decide]
theorem aDe {n:Nat} {p:Nat->Bool} {k:Nat} (e:k<n) (a: ∀j,j<k->p j=false) (h:p k=true):fx n p=k:=by
 unfold fx;have:(List.range n).find? p=some k:=by rw[oM];refine⟨h,k,by simpa using e,jS,λj c=> ?_⟩;rw[oF,a j c];rfl
 rw[this]
theorem l3 (n:Nat) (p:Nat->Bool):decide (fx n p>=0)=xq n p:=by
 unfold fx xq;cases h:(List.range n).find? p with
 |none=>rw[pJ] at h;rw[fH.2 h];rfl
 |some k=>rw[kC.2 ⟨k,vJ h,List.find?_some h⟩];exact gH (iK k)
theorem GK {n:Nat} {p:Nat->Bool} (h:xq n p=true): ∃k,k<n/\fx n p=k/\p k=true:=by
 unfold fx;unfold xq at h;cases a:(List.range n).find? p with
 |none=>rw[pJ] at a;rw[fH.2 a] at h;cases h
 |some k=>exact⟨k,by simpa using vJ a,rfl,List.find?_some a⟩
theorem rL {α:Type} (l:List α) (d:α) (f:α->Bool):xq l.length (λk=>f (l.getD k d))=l.any f:=by
 rw[hM];unfold xq;rw[kC,kC];constructor
 ·rintro⟨k,a,h⟩;rw[fO] at a;rw[xE a] at h;exact⟨_,fN a,h⟩
 ·rintro⟨x,c,h⟩;obtain⟨k,a,rfl⟩:=cU c;exact⟨k,fO.2 a,by rw[xE a];exact h⟩
theorem vM {α:Type} {l:List α} {d:α} {k:Nat} (h:k<l.length):l.getD k d∈l:=by rw[xE h];exact fN h
open Go.Qu
def _root_.Go.Qu.Wt.av (w:Wt):List AV:=[.I w.e,.I w.n,.I w.l,.I w.d]
def dW:Wt:=⟨0,0,0,0⟩
def rW (l:List Wt) (k:Nat):List AV:=(l.getD k dW).av
theorem Js (l:List Wt) (f:l.length<2^62) (a:FuncId) (c e:List AV) (p:Wt->Bool) (hp: ∀x∈l,cC a [.ag x.av,.rp c,.rp e] [] (.b (p x))):cC 92 [.rs 4 l.length (rW l),.fn a [.rp c,.rp e]] [] (.I (fx l.length λk=>p (l.getD k dW))):=by
 refine hZ Tryz.func92 [.tmp 4] [] ?_
 let dq:=dW
 exact m3
theorem bj (l:List Wt) (f:l.length<2^62) (a:FuncId) (c e:List AV) (p:Wt->Bool) (g: ∀x∈l,cC a [.ag x.av,.rp c,.rp e] [] (.b (p x))):cC 86 [.rs 4 l.length (rW l),.fn a [.rp c,.rp e]] [] (.b (l.any p)):=by refine hZ Tryz.func86 [.tmp 4] [] ?_;exact .inl ⟨[],_,Js l f a c e p g,RetIs.b ((l3 _ _).trans (rL l dW p))⟩
theorem kz (l:List Wt) (c:l.length<2^62) (a:FuncId) (p:Wt->Bool) (hp: ∀x∈l,cC a [.ag x.av] [] (.b (p x))):cC 92 [.rs 4 l.length (rW l),.fn a []] [] (.I (fx l.length λk=>p (l.getD k dW))):=by
 refine hZ Tryz.func92 [.tmp 4] [] ?_
 let dq:=dW
 exact m3
end Go.Proofs.YtpnjmojpeaegoaaGreatDoor
namespace Go.Proofs.YtpnjmojpeaegoaaGreatDoor
open Go.Eng Go.Qu
theorem tz {n:Nat} {p:Nat->Bool} (h:xq n p=true): ∃k,k<n/\p k=true/\(∀j,j<k->p j=false)/\fx n p=k:=by
 unfold fx;unfold xq at h;cases a:(List.range n).find? p with
 |none=>rw[pJ] at a;rw[fH.2 a] at h;cases h
 |some k=>rw[oM] at a;obtain⟨f,i,c,e,g⟩:=a;rw[oF] at e;subst e;rw[oP] at c;refine⟨i,c,f,λj l=> ?_,rfl⟩;have:=g j l;rw[oF] at this;simpa using this
section
variable {α : Type} (p : α -> Bool) (d : α) (S : List α)
def kp (l:List α):List α:=l.filter λx=> !p x
theorem zv {l:List α} {x:α} {q:Nat}:(l++[x]).getD q d=if q<l.length then l.getD q d else if q=l.length then x else d:=by
 simp only[List.getD];by_cases h:q<l.length
 ·rw[aE h,fB h]
 ·rw[aB h,gJ J];by_cases a:q=l.length
  ·rw[aE a,a];simp
  ·rw[aB a];rw[eY jO];rfl
theorem gdT {k q:Nat} (h:q<k):(S.take k).getD q d=S.getD q d:=by simp only[List.getD];rw[oN h]
theorem N8 {k:Nat} (h:k<S.length):kp p (S.take (k+1))=if p (S.getD k d)=true then kp p (S.take k) else kp p (S.take k)++[S.getD k d]:=by unfold kp;rw[bS h,gS,xE h];cases a:p S[k]<;>simp[a]
theorem pn {k:Nat} (e:k<=S.length) (h: ∀j,j<k->p (S.getD j d)=false):kp p (S.take k)=S.take k:=by unfold kp;rw[lC];intro y c;obtain⟨j,a,rfl⟩:=cU c;rw[cT] at a;rw[pZ,<-xE (d:=d) J,h j J];rfl
theorem UV {a j:Nat} (g:a<S.length) (c:p (S.getD a d)=true) (f: ∀j,j<a->p (S.getD j d)=false) (n:a<j) (q:j<=S.length):(kp p (S.take j)).length<j:=by
 have: ∀e,a+1+e<=S.length->(kp p (S.take (a+1+e))).length<a+1+e:=by
  intro e
  induction e with
  |zero=>intro _;rw[iL,N8 p d S g,aE c,pn p d S J f,cT];omega
  |succ e h=>
   intro l;have:=h J;rw[show a+1+(e+1)=(a+1+e)+1 by omega,N8 p d S J];split
   ·omega
   ·rw[bD];simp;omega
 have:=this (j-(a+1)) J
 rwa [show a+1+(j-(a+1))=j by omega] at this
def la (j q:Nat):α:=if q<(kp p (S.take j)).length then(kp p (S.take j)).getD q d else S.getD q d
theorem UW {j:Nat} (h:(kp p (S.take j)).length<=j):la p d S j j=S.getD j d:=by unfold la;rw[aB J]
theorem Jt {k:Nat} (e:k<S.length) (a:p (S.getD k d)=true) (c: ∀j,j<k->p (S.getD j d)=false) (q:Nat):S.getD q d=la p d S (k+1) q:=by
 unfold la;rw[N8 p d S e,aE a,pn p d S J c];split
 ·rename_i h;rw[gdT];rw[cT] at h;omega
 ·rfl
theorem Ux {j:Nat} (f:j<S.length) (h:p (S.getD j d)=false) (q:Nat):(if q=(kp p (S.take j)).length then S.getD j d else la p d S j q)=la p d S (j+1) q:=by
 have e:kp p (S.take (j+1))=kp p (S.take j)++[S.getD j d]:=by rw[N8 p d S f,aB jR]
 unfold la;rw[e,zv,bD,cD];by_cases a:q=(kp p (S.take j)).length
 ·rw[aE a,aE J,aB J,aE a]
 ·rw[aB a];by_cases c:q<(kp p (S.take j)).length
  ·rw[aE c,aE J,aE c]
  ·rw[aB c,aB J]
theorem Uy {j:Nat} (a:j<S.length) (h:p (S.getD j d)=true) (q:Nat):la p d S j q=la p d S (j+1) q:=by unfold la;rw[N8 p d S a,aE h]
theorem Ef {j:Nat} (a:j<S.length):(kp p (S.take (j+1))).length=if p (S.getD j d)=true then(kp p (S.take j)).length else(kp p (S.take j)).length+1:=by rw[N8 p d S a];split<;>simp
end
theorem ub (S:List Wt) (O:S.length<=1000000) (C:FuncId) (p:Wt->Bool) (F: ∀x∈S,cC C [.ag x.av] [] (.b (p x))) (M:S.any p=true):cM 51 false [.row 68 4 S.length (rW S)] [.so 0,.fn C []] (λ_:Unit=>True) (λ_=>[.dead]) (λ_=>[.row 68 4 (kp p S).length (rW (kp p S))]) (λ_=> .so 1):=by
 refine sE Tryz.func51 [.tmp 4] [(999999,[.own 4])] ?_;obtain⟨G,w,z,t,L⟩:=tz ((rL S dW p).trans M)
 repeat apply jL
 refine⟨[],_,kz S J C p F,?_⟩;rw[L]
 repeat apply jL
 refine⟨λh=>absurd (cH.1 h) J,λ_=> ?_⟩;have w1:=Ef p dW S w;rw[aE z,pn p dW S J t,cT] at w1
 repeat apply jL
 refine⟨[],Nat,λj=>G<j/\j<=S.length,λj=>[⟨6,[],.I j⟩,⟨5,[],.I (kp p (S.take j)).length⟩],λj=>[⟨0,[],.row 68 4 S.length λq=>(la p dW S j q).av⟩],λj=>S.length-j,
  ⟨G+1,[],⟨J,J⟩,rfl,rfl,rfl,rfl,rfl,⟨nV,⟨rfl,by rw[w1];omega⟩⟩,⟨rfl,rfl,rfl,λq g=>fW Wt.av (Jt p dW S w z t q)⟩⟩,?_⟩
 rintro j ⟨H,K⟩;have N:=UV p dW S w z t H K;refine .inl ⟨λf=> ?_,λf=> ?_⟩
 ·have f:=pH f;have f:(j:Int)<S.length:=f;have n:la p dW S j (j:Int).toNat=S.getD j dW:=UW p dW S J;have E:=Ef p dW S (j:=j) J
  repeat apply jL
  refine⟨⟨J,J⟩,J,?_⟩
  repeat apply jL
  refine⟨[],_,F _ (by rw[n];exact vM J),?_⟩
  repeat apply jL
  refine jB (!(p (la p dW S j (j:Int).toNat))) (λl=> ?_) λl=> ?_
  ·rw[n,dQ] at l;rw[aB (by rw[l];decide)] at E;refine⟨⟨J,J⟩,J,j+1,[],⟨J,J⟩,jM,rfl,rfl,rfl,rfl,rfl,⟨nV,⟨rfl,(wr J J).trans J⟩⟩,⟨rfl,rfl,rfl,λq g=> ?_⟩⟩;show(if q=((kp p (S.take j)).length:Int).toNat then(la p dW S j (j:Int).toNat).av else(la p dW S j q).av)=(la p dW S (j+1) q).av;rw[aQ,n,<-Ux p dW S J l q];split<;>rfl
  ·rw[n,hV] at l;rw[aE l] at E;exact⟨j+1,[],⟨J,J⟩,jM,rfl,rfl,rfl,rfl,rfl,⟨nV,⟨rfl,J⟩⟩,⟨rfl,rfl,rfl,λq g=>fW Wt.av (Uy p dW S J l q)⟩⟩
 ·have f:=iT f;have f:(S.length:Int)<=j:=f;obtain rfl:j=S.length:=J
  have D:S.take S.length=S:=eJ
  repeat apply jL
  refine⟨⟨J,J,J⟩,?_⟩
  repeat apply jL
  refine⟨⟨J,J,J⟩,(),[(1,1)],trivial,⟨nU,⟨nS,⟨rfl,rfl,trivial,⟨rfl,rfl,by rw[D];omega,λq g=> ?_⟩⟩,trivial⟩,rfl⟩,rfl,λ_=>⟨rfl,trivial,λ_ _=>rfl⟩⟩;have g:q<(kp p S).length:=g;show(if((kp p (S.take S.length)).length:Int).toNat<=q/\q<((kp p (S.take S.length)).length:Int).toNat+((S.length:Int)-(kp p (S.take S.length)).length).toNat then _ else(la p dW S S.length q).av)=((kp p S).getD q dW).av;rw[aB (by rw[D];omega)];unfold la;rw[D,aE g]
theorem Q7 (S:List Wt) (n:S.length<=1000000) (c:FuncId) (p:Wt->Bool) (g: ∀x∈S,cC c [.ag x.av] [] (.b (p x))) (l:S.any p=false):cM 51 false [.row 68 4 S.length (rW S)] [.so 0,.fn c []] (λ_:Unit=>True) (λ_=>[.row 68 4 S.length (rW S)]) (λ_=>[]) (λ_=> .so 0):=by
 refine sE Tryz.func51 [.tmp 4] [] ?_;have e:fx S.length (λk=>p (S.getD k dW))= -1:=GJ λj f=>by have:=fH.1 l _ (vM (d:=dW) f);simpa using this
 repeat apply jL
 refine⟨[],_,kz S J c p g,?_⟩;rw[e]
 repeat apply jL
 exact⟨λ_=>⟨(),[],trivial,⟨nU,⟨⟨rfl,rfl,trivial,⟨rfl,rfl,rfl,λ_ _=>rfl⟩⟩,trivial⟩,rfl⟩,rfl,λ_=>q6⟩,λh=>jC⟩
end Go.Proofs.YtpnjmojpeaegoaaGreatDoor
