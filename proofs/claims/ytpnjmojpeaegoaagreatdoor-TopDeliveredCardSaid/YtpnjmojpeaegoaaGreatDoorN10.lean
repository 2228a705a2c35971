/-
  TopDelivered returns true whatever the input, and the input reads behind the call as it read before, where the three listed tables of Go's library hold what the program's text lays: a part of the proof.
-/
import Derived.Sort.Grow
import Derived.Test.YtpnjmojpeaegoaaGreatDoorN9
set_option linter.unusedSimpArgs false
set_option linter.unusedVariables false
namespace Go.Eng
open Go.RowKit Go.Sort
section
variable {P : Program}
def sd (P:Program) (f:FuncId):Prop:=
 rT P f/\(∀(a h g:Nat) (c:List Int) (W:World),Holds encZ W a h c.toArray->a<W.heap.size->c.length<4611686018427387904->
  Calls P f #[.slice (some ⟨a,h,none⟩) c.length g] W λe j=>e= .returned (.tuple #[])/\ ∃k l,j=grow (putRow encZ (Sort.ahead W k) a h (c.mergeSort λx y=>decide (x<=y)).toArray) l)/\
  ∀(p:Option Addr) (g:Nat) (W:World),Calls P f #[.slice p 0 g] W λe j=>e= .returned (.tuple #[])/\j=W
theorem y6 {w:World} {g off k:Nat} {d:Array Int} {os:Array Obj} {a:Array Value} {e:TypeId} (hh:w.heap[g]? =some (.cells a e (0,0))):
  (grow (putRow encZ (Sort.ahead w k) g off d) os).heap[g]? =some (.cells (putCells encZ off d a) e (0,0))/\
  (∀b,b<w.heap.size->b≠g->(grow (putRow encZ (Sort.ahead w k) g off d) os).heap[b]? =w.heap[b]?)/\w.heap.size<=(grow (putRow encZ (Sort.ahead w k) g off d) os).heap.size:=by
 have hlt:=(cN.1 hh).1;refine⟨?_,λb hb hne=> ?_,?_⟩
 ·exact mz
 ·exact mw
 ·simp[grow,putRow,mapBlock,Sort.ahead]
theorem J9 {f:FuncId} (h:sd P f) {kt:TypeId} (ks:List Int) (get:Nat->List AV) (A: ∀i,i<ks.length->get i=[.i .i64 (ks.getD i 0)]) (hb:ks.length<4611686018427387904):
  tC P f false [.row kt 1 ks.length get] [.so 0] (λ_:Unit=>True) (λ_=>[.row kt 1 ks.length λi=>[.i .i64 ((kO ks).getD i 0)]]) (λ_=>[]) (λ_=> .tup []):=by
 refine Ci.m ⟨h.1,λF w l L a5 a4 a2 O a1 hl hr=> ?_⟩;obtain⟨t,rfl⟩: ∃t,L=[t]:=by
  match L,hl with
  |[t],_=>exact⟨t,rfl⟩
 have E:=hr 0 jS jS;simp only[fE] at E;obtain⟨_,rfl⟩:=E.so_inv;obtain⟨n,H,a3,hc⟩:=O 0 _ rfl;have q:=oO ks;have done: ∀(c:World),kT c kt 1 (l.val 0) ks.length ((kO ks).map encZ)->Frame (sG l [.row kt 1 ks.length get]) w c->
   GivesS false F w [.row kt 1 ks.length get] l [.row kt 1 ks.length λi=>[.i .i64 ((kO ks).getD i 0)]] [] (.tup []) (.tuple #[]) c l:=by
  intro c Q W;refine⟨λ_ _=>nT,W,rfl,?_,?_,?_,.tup [] [] rfl λj h1=>jl⟩
  ·intro j o hj
   match j with
   |0=>
    simp at hj;subst hj;refine⟨(kO ks).map encZ,Q,λk _=>rfl,λk i bd h1 h2=> ?_⟩;have hi:i=0:=j1
    subst hi;have Y:k<(kO ks).length:=by rw[q];exact bd
    have z:((kO ks).map encZ)[k*1+0]= .int .i64 ((kO ks).getD k 0):=(by simp[List.getD,Y]);rw[z];exact⟨.i _ _,rfl⟩
   |j+1=>simp at hj
  ·exact mW
  ·exact mY
 rcases H.2 with ⟨hv,hn⟩|⟨G,hv,hn⟩|⟨g,a,C,D,hv,hh,a0,S,U,M⟩
 ·have aY:ks=[]:=fA hn;rw[hv];refine(h.2.2 none 0 w).mono ?_;rintro e c ⟨rfl,rfl⟩;refine⟨_,l,(),rfl,trivial,done _ ?_ (Frame.refl _ _)⟩;rw[hv];exact⟨by simp[q],.inl ⟨rfl,hn⟩⟩
 ·have aY:ks=[]:=fA hn;rw[hv];refine(h.2.2 (some G) 0 w).mono ?_;rintro e c ⟨rfl,rfl⟩;refine⟨_,l,(),rfl,trivial,done _ ?_ (Frame.refl _ _)⟩;rw[hv];exact⟨by simp[q],.inr (.inl ⟨G,rfl,hn⟩)⟩
 ·have N:=(cN.1 hh).1;have a6:n.length=ks.length:=by have:=H.1;omega
  have bW: ∀j,j<ks.length->n[j]? =some (encZ (ks.getD j 0)):=by
   intro j hj;have h2:j*1+0<n.length:=J
   have:=(hc j 0 hj (by rw[A j hj];simp) h2).1;simp only[A j hj,fE] at this;have e:n[j*1+0]=n[j]'J:=by congr 1;omega
   rw[e] at this;rw[bL J];generalize n[j]=u at this|-;cases this;rfl
  have hcell: ∀j,j<ks.length->D[a+j]? =some (encZ (ks.getD j 0)):=by intro j hj;have:=bW j hj;rw[<-M,dZ,aE J,eE] at this;simpa using this
  have hH:Holds encZ w g a ks.toArray:=by
   intro j hj;have hj':j<ks.length:=jT
   have e:ks.toArray[j]! =ks.getD j 0:=(by simp[List.getD,hj',gL]);refine⟨?_,?_⟩
   ·exact nI
   ·simp[World.frozen?,hh]
  rw[hv];refine(h.2.1 g a (C+1) ks w hH N hb).mono ?_;rintro e c ⟨rfl,k,K,rfl⟩;obtain⟨h1,h2,h3⟩:=y6 (k:=k) (os:=K) (off:=a) (d:=(ks.mergeSort λx y=>decide (x<=y)).toArray) hh;refine⟨_,l,(),rfl,trivial,done _ ?_ qV⟩;rw[hv];refine⟨by simp[q],.inr (.inr ⟨g,a,C,_,rfl,h1,a0,S,by simpa [putCells] using U,?_⟩)⟩;refine lB λj=> ?_;rw[dZ];by_cases hj:j<ks.length
  ·rw[aE J,eE,pY];have ep:j<(kO ks).length:=J
   have R:=hcell j hj;simp only[putCells,sB,mi];have di:D.toList[a+j]? =some (encZ (ks.getD j 0)):=by simpa using R
   rw[di];have z:a+j-a=j:=J
   simp only[lR,z];rw[aE ⟨J,jO⟩,bL ep];have:(ks.mergeSort λx y=>decide (x<=y)).toArray[j]! =(kO ks)[j]:=by simp[kO,gL,hj]
   rw[this];rfl
  ·rw[aB J,eY jO]
def K0 (P:Program) (f:FuncId) (h:List Int->List Int):Prop:=
 rT P f/\(∀ks,(h ks).length<=ks.length)/\(∀(g j c:Nat) (a:List Int) (W:World),Holds encZ W g j a.toArray->a.length<=9223372036854775807->a.length<=c->g<W.heap.size->
  Calls P f #[.slice (some ⟨g,j,none⟩) a.length c] W λe l=>e= .returned (.slice (some ⟨g,j,none⟩) (h a).length c)/\
   ∃k,l=putRow encZ (Sort.ahead W k) g j (h a++List.replicate (a.length-(h a).length) 0).toArray)/\
  ∀(p:Option Addr) (c:Nat) (W:World),Calls P f #[.slice p 0 c] W λe l=>e= .returned (.slice p 0 c)/\l=W
theorem s5 {f:FuncId} {a:List Int->List Int} (h:K0 P f a) {kt:TypeId} (ks:List Int) (get:Nat->List AV) (L: ∀i,i<ks.length->get i=[.i .i64 (ks.getD i 0)]) (hb:ks.length<4611686018427387904):
  tC P f false [.row kt 1 ks.length get] [.so 0] (λ_:Unit=>True) (λ_=>[.dead]) (λ_=>[.row kt 1 (a ks).length λi=>[.i .i64 ((a ks).getD i 0)]]) (λ_=> .so 1):=by
 refine Ci.m ⟨h.1,λF w q vs b4 b3 b0 a2 a9 hl hr=> ?_⟩;obtain⟨G,rfl⟩: ∃G,vs=[G]:=by
  match vs,hl with
  |[G],_=>exact⟨G,rfl⟩
 have Q:=hr 0 jS jS;simp only[fE] at Q;obtain⟨_,rfl⟩:=Q.so_inv;obtain⟨z,Y,b1,hc⟩:=a2 0 _ rfl;have b6:=h.2.1 ks;have done: ∀(v:Value) (t:World),kT t kt 1 v (a ks).length ((a ks).map encZ)->Frame (sG q [.row kt 1 ks.length get]) w t->(∀g,kI v=some g->sG q [.row kt 1 ks.length get] g)->
   GivesS false F w [.row kt 1 ks.length get] q [.dead] [.row kt 1 (a ks).length λi=>[.i .i64 ((a ks).getD i 0)]] (.so 1) v t (q.valAt 1 v):=by
  intro v t M a7 a3;have E:(q.valAt 1 v).val 1=v:=by simp[Bd.valAt]
  refine⟨lT _ _ _,a7,rfl,?_,?_,?_,?_⟩
  ·intro j o hj
   match j with
   |0=>simp at hj;subst hj;trivial
   |1=>
    simp at hj;subst hj;refine⟨(a ks).map encZ,by rw[E];exact M,λk _=>rfl,λk i bd h1 D=> ?_⟩;have hi:i=0:=j1
    subst hi;have H:((a ks).map encZ)[k*1+0]= .int .i64 ((a ks).getD k 0):=by simp[List.getD,bd]
    rw[H];exact⟨.i _ _,rfl⟩
   |j+2=>simp at hj
  ·rintro g ⟨j,o,hj,l⟩
   match j with
   |0=>simp at hj;subst hj;cases l
   |1=>simp at hj;subst hj;simp only[dG,E] at l;exact .inl (a3 g l)
   |j+2=>simp at hj
  ·intro j j' o o' g hj hj' l a8
   match j,j' with
   |0,_=>simp at hj;subst hj;cases l
   |_,0=>simp at hj';subst hj';cases a8
   |1,1=>rfl
   |j+2,_=>simp at hj
   |_,j'+2=>simp at hj'
  ·have W:=Rep.so (β:=q.valAt 1 v) (n:=2) (F:=J1 false F w (q.valAt 1 v) ([.dead]++[.row kt 1 (a ks).length λi=>[.i .i64 ((a ks).getD i 0)]])) (w:=t) 1 J (by rw[E];exact M.one);rw[E] at W;exact W
 rcases Y.2 with ⟨x,K⟩|⟨R,x,K⟩|⟨g,c,N,O,x,hh,b5,a5,a6,a0⟩
 ·have A:(a ks).length=0:=J
  rw[x];refine(h.2.2.2 none 0 w).mono ?_;rintro e t ⟨rfl,rfl⟩;exact⟨_,_,(),rfl,trivial,done _ _ ⟨by simp[A],.inl ⟨rfl,A⟩⟩ (Frame.refl _ _) (λg l=>by cases l)⟩
 ·have A:(a ks).length=0:=J
  rw[x];refine(h.2.2.2 (some R) 0 w).mono ?_;rintro e t ⟨rfl,rfl⟩;exact⟨_,_,(),rfl,trivial,done _ _ ⟨by simp[A],.inr (.inl ⟨R,rfl,A⟩)⟩ (Frame.refl _ _) (λg l=>by cases l)⟩
 ·have a1:=(cN.1 hh).1;have b7:z.length=ks.length:=by have:=Y.1;omega
  have bW: ∀j,j<ks.length->z[j]? =some (encZ (ks.getD j 0)):=by
   intro j hj;have D:j*1+0<z.length:=J
   have:=(hc j 0 hj (by rw[L j hj];simp) D).1;simp only[L j hj,fE] at this;have e:z[j*1+0]=z[j]'J:=by congr 1;omega
   rw[e] at this;rw[bL J];generalize z[j]=u at this|-;cases this;rfl
  have hcell: ∀j,j<ks.length->O[c+j]? =some (encZ (ks.getD j 0)):=by intro j hj;have:=bW j hj;rw[<-a0,dZ,aE J,eE] at this;simpa using this
  have hH:Holds encZ w g c ks.toArray:=by
   intro j hj;have hj':j<ks.length:=jT
   have e:ks.toArray[j]! =ks.getD j 0:=(by simp[List.getD,hj',gL]);refine⟨?_,?_⟩
   ·exact nI
   ·simp[World.frozen?,hh]
  rw[x];refine(h.2.2.1 g c (N+1) ks w hH J J a1).mono ?_;rintro e t ⟨rfl,k,rfl⟩;obtain⟨h1,D,U⟩:=y6 (k:=k) (os:= #[]) (off:=c) (d:=(a ks++List.replicate (ks.length-(a ks).length) 0).toArray) hh;rw[grow_empty] at h1 D U;have S: ∀b,some g=some b->sG q [.row kt 1 ks.length get] b:=λb C=>⟨0,_,rfl,by cases C;simp[dG,x,kI]⟩;refine⟨_,_,(),rfl,trivial,done _ _ ?_ ⟨rfl,rfl,rfl,U,λb C K=>D b C λe=>K (S b (by rw[e])),pC _ _⟩ (λb C=>S b (by simpa [kI] using C))⟩;refine⟨jS,.inr (.inr ⟨g,c,N,_,rfl,h1,J,a5,by simpa [putCells] using a6,?_⟩)⟩;refine lB λj=> ?_;rw[dZ];by_cases hj:j<(a ks).length
  ·rw[aE J,eE,pY];have a4:=hcell j J;simp only[putCells,sB,mi];have di:O.toList[c+j]? =some (encZ (ks.getD j 0)):=by simpa using a4
   rw[di];have H:c+j-c=j:=J
   simp only[lR,H];rw[aE ⟨J,jO⟩,bL hj];have:(a ks++List.replicate (ks.length-(a ks).length) 0).toArray[j]! =(a ks)[j]:=by rw[gL _ _ jO];simp[hj]
   rw[this];rfl
  ·rw[aB J,eY jO]
end
end Go.Eng
namespace Go.Eng
open Go.RowKit
def Mu (a b:AV):Prop:= ∀(F:Nat->Prop) (w:World) (v:Value),Rep0 F w b v->Rep0 F w a v
theorem Mu.refl (a:AV):Mu a a:=λ_ _ _ h=>h
theorem Mu.of_eq {a b:AV} (h:eV a b):Mu a b:=λ_ _ _ c=>h.rep0 c
theorem Mu.u (b:AV):Mu .u b:=λ_ _ v _=> .u v
theorem Mu.nil (sz:Nat) (get:Nat->List AV):Mu (.rs sz 0 get) (.val (.slice none 0 0)):=λ_ _ v h=>by cases h;exact .rsnil _ _
def xh:List AV->List AV->Prop
 |[],[]=>True
 |a::r,b::t=>Mu a b/\xh r t
 |_,_=>False
theorem xh.get: ∀{l m:List AV},xh l m->l.length=m.length/\ ∀(j:Nat) (h1:j<l.length) (c:j<m.length),Mu l[j] m[j]
 |[],[],_=>⟨rfl,λj h1=>jl⟩
 |[],_::_,h=>h.elim
 |_::_,[],h=>h.elim
 |a::r,b::t,h=>by
  obtain⟨h1,c⟩:=h.2.get;refine⟨by simp[h1],λj h3 e=> ?_⟩;cases j with
  |zero=>exact h.1
  |succ j=>exact c j j3 (by simpa using e)
theorem xh.refl: ∀l:List AV,xh l l
 |[]=>trivial
 |a::r=>⟨Mu.refl a,xh.refl r⟩
theorem Mu.rs {sz n:Nat} {g l:Nat->List AV} (h: ∀k,k<n->xh (g k) (l k)):Mu (.rs sz n g) (.rs sz n l):=by
 intro F w v K;cases K with
 |rsnil=>exact .rsnil _ _
 |rsz _ _ a=>exact .rsz _ _ a
 |rs _ _ _ b x t L H G A D q C z E=>refine .rs sz n g b x t L H G A D (λk c=>by rw[(h k c).get.1];exact q k c) C z λk j c f=> ?_;have e:=(h k c).get;exact e.2 j f (by rw[<-e.1];exact f) F w _ (E k j c (by rw[<-e.1];exact f))
theorem Mu.ag {cs e:List AV} (h:xh cs e):Mu (.ag cs) (.ag e):=by
 intro F w v l;cases l with
 |ag _ n k g=>have a:=h.get;exact .ag cs n (by rw[a.1];exact k) λj c f=>a.2 j c (by rw[<-a.1];exact c) F w _ (g j (by rw[<-a.1];exact c) f)
theorem j8.of_w {P:Program} {f:FuncId} {args e:List AV} {os:List AO} {r:AV} (h:xh args e) (c:j8 P f args os r):j8 P f e os r:=
 ⟨c.1,λw n k l=>c.2 w n (h.get.1.trans k) λj a g=>h.get.2 j a (by rw[<-h.get.1];exact a) _ w _ (l j (by rw[<-h.get.1];exact a) g)⟩
theorem R8.of_w {P:Program} {f:FuncId} {args e:List AV} {r:AV} (h:xh args e) (c:R8 P f args r):R8 P f e r:=
 ⟨c.1,λF w q k l n=>c.2 F w q k (h.get.1.trans l) λj a g=>h.get.2 j a (by rw[<-h.get.1];exact a) F w _ (n j (by rw[<-h.get.1];exact a) g)⟩
theorem oJ {n sz:Nat} (h:n<=1000000) (a:sz<=1000:=by decide):n*sz<=140737488355328:=cO (pD h a) jD
section
variable {α M : Type} [DecidableEq α]
def aJb (kf:α->AV) (vf:M->AV) (d:α×M) (L:List (α×M)) (born:Nat->Nat) (B:Nat):AO:= .mp L.length (λi=>kf (L.getD i d).1) (λi=>vf (L.getD i d).2) born B
def k8:List (α×M)->α->List (α×M)
 |[],_=>[]
 |p::r,k=>if p.1=k then r else p::k8 r k
theorem OP {L:List (α×M)} {k:α} (h:(hU L k).isSome=true) (d:α×M): ∃i,i<L.length/\(L.getD i d).1=k/\L.length=(k8 L k).length+1/\ ∀j,j<(k8 L k).length->(k8 L k).getD j d=L.getD (if j<i then j else j+1) d:=by
 induction L with
 |nil=>cases h
 |cons p r e=>
  simp only[hU] at h;simp only[k8];by_cases he:p.1=k
  ·rw[aE he];exact⟨0,jS,jE,jS,λj hj=>jS⟩
  ·rw[aB he] at h;rw[aB he];obtain⟨i,h1,h2,a,c⟩:=e h;refine⟨i+1,j1,j2,by simp[a],λj hj=> ?_⟩;cases j with
   |zero=>simp
   |succ j=>
    have:=c j jT;simp only[lU,Nat.add_lt_add_iff_right];rw[this];split
    ·rw[lU]
    ·rw[lU]
theorem za {L:List (α×M)} (e:(iH L).Nodup) (k j:α):hU (k8 L k) j=if j=k then none else hU L j:=by
 induction L with
 |nil=>simp[k8,hU]
 |cons p r f=>
  simp only[iH,gP,jQ] at e;have f:=f e.2;simp only[k8];by_cases c:p.1=k
  ·rw[aE c];by_cases a:j=k
   ·rw[aE a];have g: ¬(hU r j).isSome=true:=λl=>e.1 (by rw[c,<-a];exact uV.2 l);cases h:hU r j with
    |none=>rfl
    |some v=>rw[h] at g;exact(g rfl).elim
   ·rw[aB a];simp only[hU];rw[aB (by rw[c];exact iS a)]
  ·rw[aB c];simp only[hU];by_cases a:p.1=j
   ·rw[aE a,aE a,aB (by rw[<-a];exact c)]
   ·rw[aB a,aB a,f]
theorem Ov {L:List (α×M)} (h:(iH L).Nodup) (k:α):(iH (k8 L k)).Nodup:=by
 induction L with
 |nil=>simp[k8,iH]
 |cons p r e=>
  simp only[iH,gP,jQ] at h;simp only[k8];by_cases a:p.1=k
  ·rw[aE a];exact h.2
  ·rw[aB a];simp only[iH,gP,jQ];refine⟨λf=>h.1 ?_,e h.2⟩;have c:p.1∈iH (k8 r k):=f;rw[uV,za h.2,aB a] at c;exact uV.2 c
theorem aHy {L:List (α×M)} {k:α} (h:hU L k=none) (v:M):kE L k v=L++[(k,v)]:=by
 induction L with
 |nil=>rfl
 |cons p r c=>
  simp only[hU] at h;by_cases a:p.1=k
  ·rw[aE a] at h;cases h
  ·rw[aB a] at h;simp only[kE,aB a,c h];rfl
variable {kf : α -> AV} {vf : M -> AV} {d : α × M} {L : List (α × M)} {born : Nat -> Nat} {B : Nat}
theorem Xr (g: ∀a b,kf a=kf b->a=b) {k:α} (h:hU L k=none) (v:M):
  yh L.length (λi=>kf (L.getD i d).1) (λi=>vf (L.getD i d).2) born B (kf k) (vf v) (kE L k v).length (λi=>kf ((kE L k v).getD i d).1) (λi=>vf ((kE L k v).getD i d).2)
   (λj=>if j<L.length then born j else B) (B+1):=by
 rw[aHy h];refine .inr ⟨λi e c=>xY h d i e (g _ _ c),jS,rfl,λj f=> ?_,?_,?_,?_⟩
 ·simp only[aHa,aE f];exact⟨trivial,trivial,trivial⟩
 ·simp[]
 ·simp[]
 ·simp
theorem D8 {k:α} (h:(hU L k).isSome=true): ∃a,DT L.length (λi=>kf (L.getD i d).1) (λi=>vf (L.getD i d).2) born (kf k) (k8 L k).length (λi=>kf ((k8 L k).getD i d).1) (λi=>vf ((k8 L k).getD i d).2) a:=by obtain⟨i,c,e,f,g⟩:=OP h d;refine⟨λj=>born (if j<i then j else j+1),.inl ⟨i,c,fW kf e,f,λj l=> ?_⟩⟩;have:=g j l;exact⟨fW (λp=>kf p.1) this,rfl,fW (λp=>vf p.2) this⟩
end
theorem zc {α:Type} (d:α) {l:List α} {k:Nat} (h:k<l.length):l.getD k d∈l:=by simp[List.getD,h]
theorem zd {α:Type} (d:α) (l:List α) (m k:Nat) (h:k<m):(l.take m).getD k d=l.getD k d:=by simp only[List.getD];rw[dZ,aE h]
theorem vY {α:Type} (d:α) (l m:List α) (k:Nat) (h:k<l.length):(l++m).getD k d=l.getD k d:=by simp only[List.getD];rw[fB h]
theorem yT {α:Type} (d:α) (l m:List α) (k:Nat) (h:l.length<=k):(l++m).getD k d=m.getD (k-l.length) d:=by simp only[List.getD];rw[gJ h]
theorem ze {α:Type} (d:α) (l:List α) (k:Nat) (v:α) (a:k<l.length) (j:Nat):(l.set k v).getD j d=if j=k then v else l.getD j d:=by
 by_cases h:j=k
 ·subst h;simp[List.getD,a]
 ·rw[aB h];simp[List.getD,iS h]
theorem zf {α β:Type} (d:α) (e:β) (f:α->β) (l:List α) (k:Nat) (h:k<l.length):(l.map f).getD k e=f (l.getD k d):=by simp[List.getD,h]
theorem aJd {α:Type} (av:α->List AV) (d:α) (l:List α) (v:α): ∀k,k<(l++[v]).length->iJ l.length (λq=>av (l.getD q d)) (λ_=>av v) k=av ((l++[v]).getD k d):=by
 intro k a;unfold iJ;by_cases h:k<l.length
 ·rw[aE h];dsimp only;rw[vY d l _ k h]
 ·rw[aB h];have:k=l.length:=by simp at a;omega
  subst this;rw[yT d l _ _ (aG _)];simp
end Go.Eng
namespace Go.Eng
open Go.RowKit Go.Sort
theorem RetM.of {Y:Type} {a:Y->Prop} {os:Y->List AO} {r:Y->AV} {av:AV} {O:List OE} {nid:Nat} (y:Y) (g:a y) (h:RetIs (os y) (r y) av O nid):RetM false 0 a (λ_=>[]) os r av O nid:=by obtain⟨j,c,e,f⟩:=h.is;exact⟨y,j,g,c,rfl,λ_=>⟨e,f⟩⟩
section
variable {P : Program}
def zg (P:Program) (f:FuncId) (l:List Int->List Int):Prop:=
 rT P f/\(∀ks,(l ks).length=ks.length)/\(∀(a h g:Nat) (c:List Int) (W:World),Holds encZ W a h c.toArray->a<W.heap.size->c.length<4611686018427387904->
  Calls P f #[.slice (some ⟨a,h,none⟩) c.length g] W λe j=>e= .returned (.tuple #[])/\ ∃k n,j=grow (putRow encZ (Sort.ahead W k) a h (l c).toArray) n)/\
  ∀(p:Option Addr) (g:Nat) (W:World),Calls P f #[.slice p 0 g] W λe j=>e= .returned (.tuple #[])/\j=W
theorem Q2 {f:FuncId} {a:List Int->List Int} (h:zg P f a) {kt:TypeId} (ks:List Int) (get:Nat->List AV) (A: ∀i,i<ks.length->get i=[.i .i64 (ks.getD i 0)]) (hb:ks.length<4611686018427387904):
  tC P f false [.row kt 1 ks.length get] [.so 0] (λ_:Unit=>True) (λ_=>[.row kt 1 ks.length λi=>[.i .i64 ((a ks).getD i 0)]]) (λ_=>[]) (λ_=> .tup []):=by
 refine Ci.m ⟨h.1,λF w n M a6 a5 a3 Q a2 hl hr=> ?_⟩;obtain⟨x,rfl⟩: ∃x,M=[x]:=by
  match M,hl with
  |[x],_=>exact⟨x,rfl⟩
 have E:=hr 0 jS jS;simp only[fE] at E;obtain⟨_,rfl⟩:=E.so_inv;obtain⟨q,K,a4,hc⟩:=Q 0 _ rfl;have t:=h.2.1 ks;have done: ∀(l:World),kT l kt 1 (n.val 0) ks.length ((a ks).map encZ)->Frame (sG n [.row kt 1 ks.length get]) w l->
   GivesS false F w [.row kt 1 ks.length get] n [.row kt 1 ks.length λi=>[.i .i64 ((a ks).getD i 0)]] [] (.tup []) (.tuple #[]) l n:=by
  intro l R Y;refine⟨λ_ _=>nT,Y,rfl,?_,?_,?_,.tup [] [] rfl λj h1=>jl⟩
  ·intro j o hj
   match j with
   |0=>
    simp at hj;subst hj;refine⟨(a ks).map encZ,R,λk _=>rfl,λk i bd h1 h2=> ?_⟩;have hi:i=0:=j1
    subst hi;have a0:k<(a ks).length:=by rw[t];exact bd
    have z:((a ks).map encZ)[k*1+0]= .int .i64 ((a ks).getD k 0):=(by simp[List.getD,a0]);rw[z];exact⟨.i _ _,rfl⟩
   |j+1=>simp at hj
  ·exact mW
  ·exact mY
 rcases K.2 with ⟨hv,hn⟩|⟨G,hv,hn⟩|⟨g,c,C,D,hv,hh,a1,U,W,N⟩
 ·have aY:ks=[]:=fA hn;rw[hv];refine(h.2.2.2 none 0 w).mono ?_;rintro e l ⟨rfl,rfl⟩;refine⟨_,n,(),rfl,trivial,done _ ?_ (Frame.refl _ _)⟩;rw[hv];exact⟨(by simp[t]),.inl ⟨rfl,hn⟩⟩
 ·have aY:ks=[]:=fA hn;rw[hv];refine(h.2.2.2 (some G) 0 w).mono ?_;rintro e l ⟨rfl,rfl⟩;refine⟨_,n,(),rfl,trivial,done _ ?_ (Frame.refl _ _)⟩;rw[hv];exact⟨(by simp[t]),.inr (.inl ⟨G,rfl,hn⟩)⟩
 ·have O:=(cN.1 hh).1;have a7:q.length=ks.length:=by have:=K.1;omega
  have bW: ∀j,j<ks.length->q[j]? =some (encZ (ks.getD j 0)):=by
   intro j hj;have h2:j*1+0<q.length:=J
   have:=(hc j 0 hj (by rw[A j hj];simp) h2).1;simp only[A j hj,fE] at this;have e:q[j*1+0]=q[j]'J:=by congr 1;omega
   rw[e] at this;rw[bL J];generalize q[j]=u at this|-;cases this;rfl
  have hcell: ∀j,j<ks.length->D[c+j]? =some (encZ (ks.getD j 0)):=by intro j hj;have:=bW j hj;rw[<-N,dZ,aE J,eE] at this;simpa using this
  have hH:Holds encZ w g c ks.toArray:=by
   intro j hj;have hj':j<ks.length:=jT
   have e:ks.toArray[j]! =ks.getD j 0:=(by simp[List.getD,hj',gL]);refine⟨?_,?_⟩
   ·exact nI
   ·simp[World.frozen?,hh]
  rw[hv];refine(h.2.2.1 g c (C+1) ks w hH O hb).mono ?_;rintro e l ⟨rfl,k,L,rfl⟩;obtain⟨h1,h2,h3⟩:=y6 (k:=k) (os:=L) (off:=c) (d:=(a ks).toArray) hh;refine⟨_,n,(),rfl,trivial,done _ ?_ qV⟩;rw[hv];refine⟨(by simp[t]),.inr (.inr ⟨g,c,C,_,rfl,h1,a1,U,by simpa [putCells] using W,?_⟩)⟩;refine lB λj=> ?_;rw[dZ];by_cases hj:j<ks.length
  ·rw[aE J,eE,pY];have H:j<(a ks).length:=J
   have S:=hcell j hj;simp only[putCells,sB,mi];have di:D.toList[c+j]? =some (encZ (ks.getD j 0)):=by simpa using S
   rw[di];have z:c+j-c=j:=J
   simp only[lR,z];rw[aE ⟨J,jO⟩,bL H];have:(a ks).toArray[j]! =(a ks)[j]:=by rw[gL _ _ (by simpa using H)];simp
   rw[this];rfl
  ·rw[aB J,eY jO]
end
end Go.Eng
namespace Go.Eng
open Go.RowKit
theorem tC.frz {P:Program} {f:FuncId} {al:Bool} {args:List AV} {Y:Type} {G:Y->Prop} {os:Y->List AO} {r r':Y->AV} (h:tC P f al [] args G (λ_=>[]) os r)
  (hv: ∀y,G y->sZ (λi=>(os y)[i]?) 60 (r y) λb=>eV (r' y) b):tC P f true [] args G (λ_=>[]) (λ_=>[]) r':=by
 refine⟨h.1,λF w z A _ t _ _ _ hl M=> ?_⟩;have nil: ∀(z:Bd) (g:Nat),¬sG z [] g:=λz g ⟨j,o,hj,_⟩=>jj
 have U: ∀(j:Nat) (l:j<args.length) (q:j<A.length),Rep0 F w args[j] A[j]:=λj l q=>(M j l q).zero;obtain⟨n,l,q,W,h4⟩: ∃n:Nat->Prop,(∀g,n g->F g)/\(al=false-> ∀g,n g->sG z [] g)/\(∀(j:Nat) (l:j<args.length) (q:j<A.length),Rep z 0 n w args[j] A[j])/\(al=true->n=F):=by
  cases al with
  |true=>exact⟨F,λ_ h=>h,λh=>jC,M,λ_=>rfl⟩
  |false=>exact⟨λ_=>False,λ_ h=>h.elim,λ_ _ h=>h.elim,λj l q=> .pure _ _ ((U j l q).stable (λ_ _ _ h=>h) (λ_ _ _=>rfl) (aG _)),λh=>jC⟩
 refine(h.2 n w z A (λg H=>(nil _ _ H).elim) ⟨λg H=>t.1 g (l g H),t.2.1,λc=>t.2.2 (l _ c)⟩ q (λj o hj=>jj) (λj j' o o' g hj=>jj) hl W).mono ?_;rintro e O ⟨v,C,y,rfl,N,g⟩;have D:=g.obj;have L:=g.res;have K:=g.own;simp only[vF] at D L K;have Q: ∀b,sG C (os y) b->w.heap.size<=b:=λb a=>(K b a).resolve_left (nil _ _);have a0:w.heap.size<=O.heap.size:=g.fr.size;have E:Env C (os y).length (J1 al (Fr n z []) w C (os y)) O (λi=>(os y)[i]?):=⟨λid o x=>⟨(bM.1 x).1,D id o x⟩,λid o b x a=> .inr ⟨id,o,x,a⟩,λb a=>by
  rcases a with (⟨_,a⟩|a)|⟨j,o,hj,a⟩
  ·omega
  ·have:=t.1 b (l b a.1);omega
  ·exact(D j o hj).lt a⟩
 obtain⟨b,a,R⟩:=(v8 E (Fa:=F) (λb a=>by
   cases al with
   |true=>exact .inl (.inr ⟨by rw[h4 rfl];exact a,nil _ _⟩)
   |false=>exact .inl (.inl ⟨rfl,t.1 b a⟩)) (λid o h=>h) (λid o b x a c=>by have:=Q b ⟨id,o,x,a⟩;have:=t.1 b c;omega) 60).1 _ v _ L (hv y N)
 refine⟨v,C,y,rfl,N,⟨λid S=>absurd S (dU id),g.fr,rfl,λj o hj=>jj,λb a=>(nil _ _ a).elim,λj j' o o' b hj=>jj,?_⟩⟩;exact .pure _ _ ((a.rep0 R).stable (λb _ hn c=>by
  rcases c with (⟨c,_⟩|c)|c
  ·cases c
  ·exact hn c.1
  ·exact nil _ _ c) (λ_ _ _=>rfl) (aG _))
theorem j8.toM {P:Program} {f:FuncId} {args:List AV} {os:List AO} {r:AV} (h:j8 P f args os r):tC P f false [] args (λ_:Unit=>True) (λ_=>[]) (λ_=>os) (λ_=>r):=by
 refine Ci.m ⟨h.1,λF w x S _ q U _ _ L M=> ?_⟩;have nil: ∀(x:Bd) (g:Nat),¬sG x [] g:=λx g ⟨j,o,hj,_⟩=>jj
 refine(h.2 w S L (λj D E=>(M j D E).zero.stable (λb _ W H=>H.elim) (λ_ _ _=>rfl) (aG _)) q.2.1).mono ?_;rintro e Y ⟨v,l,rfl,a,⟨t,O,Q⟩,n⟩;have G:FX (λg=>g<w.heap.size) l 0 os=J1 false F w l os:=funext λb=>propext ⟨λh=>by
   rcases h with h|⟨j,o,hj,c⟩
   ·exact .inl (.inl ⟨rfl,h⟩)
   ·exact .inr ⟨j,o,hj,by rw[dR] at c;exact c⟩,λh=>by
   rcases h with (⟨_,h⟩|h)|⟨j,o,hj,c⟩
   ·exact .inl h
   ·exact .inl (q.1 b h)
   ·exact .inr ⟨j,o,hj,by rw[dR];exact c⟩⟩
 rw[G] at t n;refine⟨v,l,(),rfl,trivial,⟨λid z=>absurd z (dU id),⟨a.os,a.tape,a.output,a.size,λk K _=>a.block k K,a.drawn⟩,rfl,λj o hj=> ?_,λb a=> ?_,λj N o R b hj A a C=> ?_,n⟩⟩
 ·have:=t j o hj;rw[dR] at this;exact this
 ·obtain⟨j,o,hj,c⟩:=a;exact .inr (O j o b hj (by rw[dR];exact c))
 ·exact Q j N o R b hj A (by rw[dR];exact a) (by rw[dR];exact C)
theorem j8.frz {P:Program} {f:FuncId} {args:List AV} {os:List AO} {r r':AV} (h:j8 P f args os r) (a:sZ (λi=>os[i]?) 60 r λb=>eV r' b):R8 P f args r':=
 (h.toM.frz (r':=λ_=>r') λ_ _=>a).ctrA
theorem tC.less {P:Program} {f:FuncId} {al:Bool} {ins:List AO} {args:List AV} {Y Z:Type} {c:Y->Prop} {a os:Y->List AO} {r:Y->AV} (h:tC P f al ins args c a os r)
  {spec':Z->Prop} {outs' os':Z->List AO} {r':Z->AV} (g: ∀y,c y-> ∃z,spec' z/\outs' z=a y/\os' z=os y/\r' z=r y):tC P f al ins args spec' outs' os' r':=
 ⟨h.1,λF w M K q t x A C D E=>(h.2 F w M K q t x A C D E).mono λe N ⟨v,L,y,j,G,gv⟩=>by
  obtain⟨z,H,k,l,n⟩:=g y G;exact⟨v,L,z,j,H,by rw[k,l,n];exact gv⟩⟩
end Go.Eng
