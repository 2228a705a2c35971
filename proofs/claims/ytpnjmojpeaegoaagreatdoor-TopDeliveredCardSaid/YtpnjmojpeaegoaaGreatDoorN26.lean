/-
  TopDelivered returns true whatever the input, and the input reads behind the call as it read before, where the three listed tables of Go's library hold what the program's text lays: a part of the proof.
-/
import Derived.Test.YtpnjmojpeaegoaaGreatDoorN25
set_option linter.unusedSimpArgs false
set_option linter.unusedVariables false
set_option maxRecDepth 100000
set_option maxHeartbeats 0
namespace Go.Proofs.YtpnjmojpeaegoaaGreatDoor
open Go.Eng Go.Qu
theorem MR {s:Stp0} (h:rZ s=true) {n:Nat} (a:n<s.nets.length):(o5 (s.nets.getD n gB)).2=0/\p2 (yE (s.nets.getD n gB))=0:=by unfold rZ at h;rw[aW,fU] at h;have:=h.2 _ (vM (d:=gB) a);unfold RP at this;rw[aW,cH,cH] at this;exact this
theorem MS (O:List (List Ot)) {i:Nat} (h:i<O.length):P5 (O.take (i+1))=P5 (O.take i)+V9 (O.getD i []):=by unfold P5;rw[bS h,fJ,vC,xE h];simp
theorem MT (o:List Ot) {j:Nat} (h:j<o.length):V9 (o.take (j+1))=V9 (o.take j)+if(o.getD j dOt).k==1 then 1 else 0:=by unfold V9;rw[bS h,gS,bD,xE h];by_cases a:(o[j].k==1)=true<;>simp[a]
theorem aAr (o:List Ot) (j:Nat):V9 (o.take j)<=V9 o:=by unfold V9;exact(List.Sublist.filter _ (l9 j o)).length_le
theorem aAs (O:List (List Ot)) (i:Nat):P5 (O.take i)<=P5 O:=by
 have e:P5 O=P5 (O.take i)+P5 (O.drop i):=by unfold P5;rw[<-vC,<-fJ,lH]
 omega
theorem aAt (s:Stp0) (l:List Inp):cC 3 [.ag s.av,.rs 35 l.length (ZF l)] [] (.b true):=by
 refine hZ Tryz.func3 [.tmp 4] [(2000027,[.frz 0 [4]]),(2000048,[.frz 0 [4]])] ?_
 refine jb MQ ?_;refine eX ?_;refine aN (aN ?_);refine⟨false,[],rfl,Bool,_,_,_,_,CJ s l,λb hb=> ?_⟩
 repeat apply jL
 refine⟨λh=> ?_,λh=> ?_⟩
 ·exact RetIs.b rfl
 have h:(!b)=false:=h;have z:=hb jH;have S:=z.fit;by_cases K:rZ s=true
 rotate_left
 ·refine aN (eX ?_);refine⟨_,aAm s S l (by simpa using K),?_⟩
  repeat apply jL
  refine⟨λh2=> ?_,λh2=> ?_⟩
  ·exact RetIs.b rfl
  cases h2
 refine aN (aN ?_);refine⟨true,[],rfl,(Sta_q0×List (List Ot)),_,_,_,_,TU s S l z K,λy F=> ?_⟩;obtain⟨st,O⟩:=y;have F:AllR s l l.length st O:=F;have G:=aGc z K F;have a2:=z.l14;have a4:=F.len;have a1:=F.cnt;have hS:=Sz z K;have Q:=F.gi.sml J hS.l.2;have b0:=Q.q;have b3:=Q.t;have b1:=Q.ref;have a6:=Q.ev;have a8:=z.n
 repeat apply jL
 refine⟨λh2=> ?_,λh2=> ?_⟩
 ·cases h2
 repeat apply jL
 refine⟨[],Nat,λi=>i<=O.length,λi=>[⟨10,[],.I i⟩,⟨9,[],.I (P5 (O.take i):Nat)⟩],λ_=>[],λi=>O.length-i,
  qP,?_⟩
 intro i C;have C:i<=O.length:=C;refine .inl ⟨λf=> ?_,λf=> ?_⟩
 ·have f:=pH f;have f:(i:Int)<O.length:=f;have ei:(i:Int).toNat=i:=aQ i;have a9:=F.sz _ (vM (d:=[]) (show(i:Int).toNat<O.length by omega));have b4:P5 (O.take (i+1))=P5 (O.take i)+V9 (O.getD (i:Int).toNat []):=by rw[ei];exact MS O J
  have a3:=aAs O (i+1)
  repeat apply jL
  refine⟨[],Nat,λj=>j<=(O.getD (i:Int).toNat []).length,λj=>[⟨11,[],.I j⟩,⟨9,[],.I (P5 (O.take i)+V9 ((O.getD (i:Int).toNat []).take j):Nat)⟩],λ_=>[],λj=>(O.getD (i:Int).toNat []).length-j,
   qP,?_⟩
  intro j hj;have hj:j<=(O.getD (i:Int).toNat []).length:=hj
  repeat apply jL
  refine⟨⟨J,J⟩,J,?_⟩;refine⟨λf=> ?_,λf=> ?_⟩
  ·have f:=pH f;have f:(j:Int)<(O.getD (i:Int).toNat []).length:=f;have ej:(j:Int).toNat=j:=aQ j;have a0:=MT (O.getD (i:Int).toNat []) (show j<(O.getD (i:Int).toNat []).length by omega);have a5:=aAr (O.getD (i:Int).toNat []) (j+1)
   repeat apply jL
   refine⟨⟨J,J⟩,J,?_⟩;refine⟨⟨J,J⟩,?_⟩
   repeat apply jL
   refine jB (((O.getD (i:Int).toNat []).getD (j:Int).toNat dOt).k==1) (λD=> ?_) λD=> ?_
   ·rw[ej] at D;rw[aE D] at a0;refine⟨j+1,[],J,jM,rfl,rfl,rfl,rfl,rfl,⟨nV,⟨rfl,by rw[wr J J];omega⟩⟩,trivial⟩
   ·rw[ej] at D;rw[aB (by rw[D];decide)] at a0;refine⟨j+1,[],J,jM,rfl,rfl,rfl,rfl,rfl,⟨nV,⟨rfl,J⟩⟩,trivial⟩
  have f:=iT f;have f:((O.getD (i:Int).toNat []).length:Int)<=j:=f;obtain rfl:j=(O.getD (i:Int).toNat []).length:=J
  refine⟨i+1,[],J,jM,rfl,rfl,rfl,rfl,rfl,⟨nV,⟨rfl,by rw[eJ];omega⟩⟩,trivial⟩
 have f:=iT f;have f:(O.length:Int)<=i:=f;obtain rfl:i=O.length:=J
 repeat apply jL
 refine⟨λD=> ?_,λD=> ?_⟩
 ·have D:(((P5 (O.take O.length):Nat):Int) !=st.ref.length)=true:=D;rw[eJ,a1] at D;simp at D
 repeat apply jL
 refine⟨[],Nat,λi=>i<=st.sent.length,λi=>[⟨12,[],.I i⟩],λ_=>[],λi=>st.sent.length-i,
  qC,?_⟩
 intro i C;have C:i<=st.sent.length:=C;refine .inl ⟨λf=> ?_,λf=> ?_⟩
 ·have f:=pH f;have f:(i:Int)<st.sent.length:=f;have x:=G.sent (i:Int).toNat J;have L:=MR K (n:=(st.sent.getD (i:Int).toNat oK).n.toNat) J;have W:=S.t _ (vM (d:=gB) (show(st.sent.getD (i:Int).toNat oK).n.toNat<s.nets.length by omega));have Y:(((st.sent.getD (i:Int).toNat oK).n.toNat:Nat):Int)=(st.sent.getD (i:Int).toNat oK).n:=uX x.2.1.1;have M:=(MH s l J z.i (st.sent.getD (i:Int).toNat oK).n.toNat J).ctr;rw[Y] at M
  repeat apply jL
  refine⟨⟨J,J⟩,?_⟩
  repeat apply jL
  refine⟨λN=> ?_,λN=> ?_⟩
  ·have N:(((decide ((st.sent.getD (i:Int).toNat oK).e<0)||decide ((st.sent.getD (i:Int).toNat oK).e>=st.ev.length))||decide ((st.sent.getD (i:Int).toNat oK).n<0))||decide ((st.sent.getD (i:Int).toNat oK).n>=s.nets.length))=true:=N;simp only[eZ,aM] at N;omega
  repeat apply jL
  refine⟨⟨x.2.1.1,x.2.1.2⟩,?_⟩;refine aN (eX ?_);refine⟨_,jo (s.nets.getD (st.sent.getD (i:Int).toNat oK).n.toNat gB) W L.1,?_⟩
  repeat apply jL
  refine⟨[],_,λ_=>wD (yE (s.nets.getD (st.sent.getD (i:Int).toNat oK).n.toNat gB)) (B3 _),?_⟩
  repeat apply jL
  refine⟨λh5=> ?_,λh5=> ?_⟩
  ·have h5:((o5 (s.nets.getD (st.sent.getD (i:Int).toNat oK).n.toNat gB)).2 !=0||p2 (yE (s.nets.getD (st.sent.getD (i:Int).toNat oK).n.toNat gB)) !=0)=true:=h5;rw[L.1,L.2] at h5;cases h5
  repeat apply jL
  refine⟨[.row 4 1 (wY s l (st.sent.getD (i:Int).toNat oK).n.toNat).length (Qi (wY s l (st.sent.getD (i:Int).toNat oK).n.toNat))],_,M,?_⟩
  repeat apply jL
  refine⟨[],_,ug (yE (s.nets.getD (st.sent.getD (i:Int).toNat oK).n.toNat gB)) (B3 _) (wY s l (st.sent.getD (i:Int).toNat oK).n.toNat) (by have:=Fz s l (st.sent.getD (i:Int).toNat oK).n.toNat;omega),?_⟩
  repeat apply jL
  refine⟨λ_=>⟨x.1.1,x.1.2⟩,?_⟩;have a7:=G.es (st.sent.getD (i:Int).toNat oK).e.toNat;have b5:=hS.w
  repeat apply jL
  refine⟨λE=> ?_,λE=> ?_⟩
  ·have E:(xF (yE (s.nets.getD (st.sent.getD (i:Int).toNat oK).n.toNat gB)) (wY s l (st.sent.getD (i:Int).toNat oK).n.toNat)&&decide ((st.sent.getD (i:Int).toNat oK).s>IntKind.i64.wrap ((st.ev.getD (st.sent.getD (i:Int).toNat oK).e.toNat dE).st+s.wait)))=true:=E;rw[aW,aM,wr J J] at E;have:=x.2.2 E.1;omega
  repeat apply jL
  refine⟨[],Nat,λk=>k<=st.q.length+st.ref.length+i,λk=>[⟨17,[],.I k⟩],λ_=>[],λk=>st.q.length+st.ref.length+i-k,
   qC,?_⟩
  intro k P;have P:k<=st.q.length+st.ref.length+i:=P;have e1:=wr (n:=(st.q.length:Int)+st.ref.length) J J;have e2:=wr (n:=(st.q.length:Int)+st.ref.length+i) J J;refine .inl ⟨λf=> ?_,λf=> ?_⟩
  ·have f:decide ((k:Int)<IntKind.i64.wrap (IntKind.i64.wrap ((st.q.length:Int)+st.ref.length)+i))=true:=f;rw[aM,e1,e2] at f;have H:=wr (n:=(k:Int)-i) J J
   repeat apply jL
   refine⟨λR=> ?_,λR=> ?_⟩
   ·have R:(k:Int)<i:=kK R
    repeat apply jL
    refine⟨⟨J,J⟩,?_⟩
    repeat apply jL
    refine⟨⟨J,J⟩,?_⟩
    repeat apply jL
    refine⟨λg=> ?_,λg=> ?_⟩
    ·have g:((st.sent.getD (k:Int).toNat oK).e==(st.sent.getD (i:Int).toNat oK).e&&(st.sent.getD (k:Int).toNat oK).n==(st.sent.getD (i:Int).toNat oK).n)=true:=g;rw[aW,cH,cH] at g;exact absurd g (G.ss (k:Int).toNat (i:Int).toNat J J)
    exact qW
   have R:decide ((k:Int)<i)=false:=R;rw[bH] at R
   repeat apply jL
   refine jB (decide ((k:Int)<IntKind.i64.wrap ((i:Int)+st.ref.length))) (λg3=> ?_) λg3=> ?_
   ·rw[aM,wr J J] at g3
    repeat apply jL
    refine⟨⟨by rw[H];omega,by rw[H];show(k:Int)-i<st.ref.length;omega⟩,?_⟩
    repeat apply jL
    refine⟨λg=> ?_,λg=> ?_⟩
    ·have g:((st.ref.getD (IntKind.i64.wrap ((k:Int)-i)).toNat pO).e==(st.sent.getD (i:Int).toNat oK).e&&(st.ref.getD (IntKind.i64.wrap ((k:Int)-i)).toNat pO).n==(st.sent.getD (i:Int).toNat oK).n)=true:=g;rw[aW,cH,cH] at g;exact absurd g (G.rs _ _ (by rw[H];omega) J)
    exact qW
   rw[bH,wr J J] at g3;have U:=wr (n:=(k:Int)-i-st.ref.length) J J
   repeat apply jL
   refine⟨⟨by rw[H];show 0<=IntKind.i64.wrap ((k:Int)-i-st.ref.length);rw[U];omega,by rw[H];show IntKind.i64.wrap ((k:Int)-i-st.ref.length)<st.q.length;rw[U];omega⟩,?_⟩
   repeat apply jL
   refine⟨λg=> ?_,λg=> ?_⟩
   ·have g:((st.q.getD (IntKind.i64.wrap (IntKind.i64.wrap ((k:Int)-i)-st.ref.length)).toNat dW).e==(st.sent.getD (i:Int).toNat oK).e&&(st.q.getD (IntKind.i64.wrap (IntKind.i64.wrap ((k:Int)-i)-st.ref.length)).toNat dW).n==(st.sent.getD (i:Int).toNat oK).n)=true:=g;rw[aW,cH,cH] at g;exact absurd g (G.qs _ _ (by rw[H,U];omega) J)
   exact qW
  exact⟨i+1,[],J,jM,rfl,rfl,rfl,rfl,rfl,nV,trivial⟩
 have f:=iT f;have f:(st.sent.length:Int)<=i:=f
 repeat apply jL
 refine⟨[],Nat,λi=>i<=st.q.length,λi=>[⟨20,[],.I i⟩],λ_=>[],λi=>st.q.length-i,
  qC,?_⟩
 intro i C;have C:i<=st.q.length:=C;refine .inl ⟨λf=> ?_,λf=> ?_⟩
 ·have f:=pH f;have f:(i:Int)<st.q.length:=f;have x:=G.q (i:Int).toNat J;have L:=MR K (n:=(st.q.getD (i:Int).toNat dW).n.toNat) J;have W:=S.t _ (vM (d:=gB) (show(st.q.getD (i:Int).toNat dW).n.toNat<s.nets.length by omega));have Y:(((st.q.getD (i:Int).toNat dW).n.toNat:Nat):Int)=(st.q.getD (i:Int).toNat dW).n:=uX x.1.1;have M:=(MH s l J z.i (st.q.getD (i:Int).toNat dW).n.toNat J).ctr;rw[Y] at M
  repeat apply jL
  refine⟨⟨J,J⟩,?_⟩
  repeat apply jL
  refine⟨λN=> ?_,λN=> ?_⟩
  ·have N:(decide ((st.q.getD (i:Int).toNat dW).n<0)||decide ((st.q.getD (i:Int).toNat dW).n>=s.nets.length))=true:=N;simp only[eZ,aM] at N;omega
  repeat apply jL
  refine⟨⟨x.1.1,x.1.2⟩,?_⟩;refine aN (eX ?_);refine⟨_,jo (s.nets.getD (st.q.getD (i:Int).toNat dW).n.toNat gB) W L.1,?_⟩
  repeat apply jL
  refine⟨[.row 4 1 (wY s l (st.q.getD (i:Int).toNat dW).n.toNat).length (Qi (wY s l (st.q.getD (i:Int).toNat dW).n.toNat))],_,M,?_⟩
  repeat apply jL
  refine⟨[],_,ug (yE (s.nets.getD (st.q.getD (i:Int).toNat dW).n.toNat gB)) (B3 _) (wY s l (st.q.getD (i:Int).toNat dW).n.toNat) (by have:=Fz s l (st.q.getD (i:Int).toNat dW).n.toNat;omega),?_⟩
  repeat apply jL
  refine⟨λE=> ?_,λE=> ?_⟩
  ·have E:(xF (yE (s.nets.getD (st.q.getD (i:Int).toNat dW).n.toNat gB)) (wY s l (st.q.getD (i:Int).toNat dW).n.toNat)&&decide ((st.q.getD (i:Int).toNat dW).d<=st.step))=true:=E;rw[aW,aM] at E;have:=x.2 E.1;omega
  repeat apply jL
  refine⟨[],Nat,λk=>k<=st.ref.length,λk=>[⟨25,[],.I k⟩],λ_=>[],λk=>st.ref.length-k,
   qC,?_⟩
  intro k P;have P:k<=st.ref.length:=P;refine .inl ⟨λf=> ?_,λf=> ?_⟩
  ·have f:=pH f;have f:(k:Int)<st.ref.length:=f
   repeat apply jL
   refine⟨⟨J,J⟩,?_⟩
   repeat apply jL
   refine⟨λ_=>⟨J,J⟩,?_⟩
   repeat apply jL
   refine⟨λg=> ?_,λg=> ?_⟩
   ·have g:((st.ref.getD (k:Int).toNat pO).e==(st.q.getD (i:Int).toNat dW).e&&(st.ref.getD (k:Int).toNat pO).n==(st.q.getD (i:Int).toNat dW).n)=true:=g;rw[aW,cH,cH] at g;exact absurd g (G.rq _ _ J J)
   exact qW
  exact⟨i+1,[],J,jM,rfl,rfl,rfl,rfl,rfl,nV,trivial⟩
 exact RetIs.b rfl
end Go.Proofs.YtpnjmojpeaegoaaGreatDoor
