/-
  TopDelivered returns true whatever the input, and the input reads behind the call as it read before, where the three listed tables of Go's library hold what the program's text lays: a part of the proof.
-/
import Derived.Maps.OwnRows
import Derived.Test.YtpnjmojpeaegoaaGreatDoorN14
set_option linter.unusedSimpArgs false
set_option linter.unusedVariables false
set_option maxRecDepth 100000
set_option maxHeartbeats 0
namespace Go.Proofs.YtpnjmojpeaegoaaGreatDoor.Sb
open Go.Eng Go.RowKit
def aH0:Int×List Int:=(0,[])
def vI (l:List Int):List Value:=l.map (Value.int .i64)
structure GM (w:World) (b:Nat) (et:TypeId) (L:List (Int×List Int)) (es:Array MapEntry) (clock:Nat):Prop where
 hp:w.heap[b]? =some (.map es clock)
 sz:es.size=L.length
 ok:MapOk es clock
 key: ∀i (h:i<es.size),es[i].key= .int .i64 (L.getD i aH0).1
 own: ∀i (h:i<es.size),w.ownsRow (b+1) et 1 es[i].val (L.getD i aH0).2.length (vI (L.getD i aH0).2)
 dist: ∀i j (h1:i<es.size) (h2:j<es.size),i≠j->es[i].val.ownBlock=none\/es[i].val.ownBlock≠es[j].val.ownBlock
section
variable {P : Program} {w : World} {b : Nat} {et mt kt st : TypeId} {L : List (Int × List Int)} {es : Array MapEntry} {clock : Nat}
theorem Ul (w:World) (et:TypeId):GM (w.alloc (.map #[] 0)) w.heap.size et [] #[] 0:=
 ⟨heap_alloc_new w _,rfl,I9,λi h=>jh,λi h=>jh,λi j h=>jh⟩
theorem GM.lt (h:GM w b et L es clock):b<w.heap.size:=(cN.1 h.hp).1
theorem s9 (a:P.underlying kt=some (.int .i64)) (x:Int):KV P kt (.int .i64 x):= .inl ⟨_,a,rfl⟩
theorem GM.kv (h:GM w b et L es clock) (c:P.underlying kt=some (.int .i64)): ∀x∈es.toList,KV P kt x.key:=by
 intro x e;obtain⟨j,hj,rfl⟩:=cU e;have a:j<es.size:=jT
 have:=h.key j a;simp only[Cl];rw[this];exact s9 c _
theorem GM.look (h:GM w b et L es clock) (l:P.underlying kt=some (.int .i64)) (K:P.underlying mt=some (.map kt st)) (S:(zeroValue st).run P w= .ok (.slice none 0 0) w) (x:Int):
  ∃v,(Instr.lookup mt (.map (some b)) (.int .i64 x) false).run P w= .ok v w/\w.ownsRow (b+1) et 1 v ((hU L x).getD []).length (vI ((hU L x).getD []))/\
   ((v= .slice none 0 0/\hU L x=none/\ ∀i (h:i<es.size),es[i].key≠ .int .i64 x)\/ ∃i,∃h:i<es.size,es[i].key= .int .i64 x/\v=es[i].val/\(L.getD i aH0).1=x):=by
 rcases rF (P:=P) (w:=w) (s9 l x) es.toList (h.kv l) with ⟨n,Q⟩|⟨j,e,n,H,E⟩
 ·have F: ∀i (h:i<es.size),es[i].key≠ .int .i64 x:=λi a=>Q _ jS;have G:hU L x=none:=by
   cases g:hU L x with
   |none=>rfl
   |some v=>
    obtain⟨i,C,D,_⟩:=o8 g aH0;have a:i<es.size:=by rw[h.sz];exact C
    exact absurd (by rw[h.key i a,D]) (F i a)
  refine⟨.slice none 0 0,?_,?_,.inl ⟨rfl,G,F⟩⟩
  ·simp[Instr.lookup,run_underlying K,Go.MapKept.run_getObj_map h.hp,kY es.isEmpty (s9 l x),n,S]
  ·rw[G];exact World.ownsRow_nil _ _ _ _
 ·have c:j<es.size:=by simpa using(bM.1 H).1
  have f:es[j]=e:=by have:=(bM.1 H).2;simpa using this
  have t:(L.getD j aH0).1=x:=by have:=h.key j c;rw[f,E] at this;simpa using this.symm
  have M:hU L x=some (L.getD j aH0).2:=by
   cases g:hU L x with
   |none=>exact absurd t (xY g aH0 j (by rw[<-h.sz];exact c))
   |some v=>
    obtain⟨i,C,D,R⟩:=o8 g aH0;have a:i<es.size:=by rw[h.sz];exact C
    have O:i=j:=by
     have z:=h.key i a;have A:=h.key j c;rw[D] at z;rw[t] at A;rcases kL i j with q|N|q
     ·exact absurd (z.trans A.symm) (h.ok.one i j q a c)
     ·exact N
     ·exact absurd (A.trans z.symm) (h.ok.one j i q c a)
    rw[<-O,R]
  refine⟨e.val,?_,?_,.inr ⟨j,c,by rw[f];exact E,by rw[f],t⟩⟩
  ·simp[Instr.lookup,run_underlying K,Go.MapKept.run_getObj_map h.hp,kY es.isEmpty (s9 l x),n]
  ·rw[M,<-f];exact h.own j c
theorem GM.set (h:GM w b et L es clock) (N:P.underlying kt=some (.int .i64)) (hm:P.underlying mt=some (.map kt st)) {x:Int} {v f:Value} {zs:List Int} {w1:World}
  (hv:(v= .slice none 0 0/\hU L x=none/\ ∀i (h:i<es.size),es[i].key≠ .int .i64 x)\/ ∃i,∃h:i<es.size,es[i].key= .int .i64 x/\v=es[i].val/\(L.getD i aH0).1=x)
  (hg:w.grownBy w1 v.ownBlock) (R:w1.ownsRow (b+1) et 1 f zs.length (vI zs)) (a4:f.ownBlock=v.ownBlock\/ ∃g,f.ownBlock=some g/\w.heap.size<=g):
  ∃w2 a5 an,(Instr.mapUpdate mt (.map (some b)) (.int .i64 x) f).run P w1= .ok () w2/\GM w2 b et (kE L x zs) a5 an/\w1.grownBy w2 (some b):=by
 have b1:v.ownBlock≠some b:=by
  rcases hv with ⟨rfl,_⟩|⟨i,a,_,rfl,_⟩
  ·intro e;cases e
  ·intro e;have:=(h.own i a).lt b e;omega
 have a3:b<w1.heap.size:=eS h.lt hg.size;have U:w1.heap[b]? =some (.map es clock):=(hg.block b h.lt (λe=>b1 e.symm)).trans h.hp;have apart: ∀i (a:i<es.size),es[i].key≠ .int .i64 x->es[i].val.ownBlock=none\/es[i].val.ownBlock≠v.ownBlock:=by
  intro i a q;rcases hv with ⟨rfl,_⟩|⟨j,l,W,rfl,_⟩
  ·cases Y:es[i].val.ownBlock with
   |none=>exact .inl rfl
   |some g=>right;simp[Value.ownBlock]
  ·exact h.dist i j a l λe=>by subst e;exact q W
 have O: ∀i (a:i<es.size),es[i].key≠ .int .i64 x->es[i].val.ownBlock=none\/es[i].val.ownBlock≠f.ownBlock:=by
  intro i a q;rcases a4 with e|⟨g,e,b3⟩
  ·rw[e];exact apart i a q
  ·cases Y:es[i].val.ownBlock with
   |none=>exact .inl rfl
   |some g'=>right;rw[e];have:=(h.own i a).lt g' Y;simp;omega
 have Q: ∀i (a:i<es.size),es[i].key≠ .int .i64 x->w1.ownsRow (b+1) et 1 es[i].val (L.getD i aH0).2.length (vI (L.getD i aH0).2):=λi a q=>(h.own i a).kept hg (apart i a q);have D: ∀o:Obj,w1.grownBy {w1 with heap:=w1.heap.setIfInBounds b o} (some b):=λo=>⟨rfl,rfl,rfl,jS,λg _ q=>vV w1 _ o g (λe=>q (by rw[e]))⟩;have S: ∀{u:Value} {n:Nat} {xs:List Value},w1.ownsRow (b+1) et 1 u n xs->u.ownBlock=none\/u.ownBlock≠some b:=λ{u n xs} ho=>by
  cases Y:u.ownBlock with
  |none=>exact .inl rfl
  |some g=>right;have:=(ho.lt g Y).1;simp;omega
 rcases rF (P:=P) (w:=w1) (s9 N x) es.toList (h.kv N) with ⟨a0,a9⟩|⟨j,e,a0,he,a7⟩
 ·have F: ∀i (h:i<es.size),es[i].key≠ .int .i64 x:=λi a=>a9 _ jS;have C:kE L x zs=L++[(x,zs)]:=by
   rcases sb (L:=L) (k:=x) (v:=zs) aH0 with ⟨i,h1,c,_⟩|⟨_,c⟩
   ·have a:i<es.size:=by rw[h.sz];exact h1
    exact absurd (by rw[h.key i a,c]) (F i a)
   ·exact c
  refine⟨{w1 with heap:=w1.heap.setIfInBounds b (.map (es.push {key:= .int .i64 x,val:=f,born:=clock}) (clock+1))},es.push {key:= .int .i64 x,val:=f,born:=clock},clock+1,?_,⟨vW w1 _ _ a3,by rw[C];simp[h.sz],?_,?_,?_,?_⟩,D _⟩
  ·simp[Instr.mapUpdate,run_underlying hm,Go.MapKept.run_getObj_map U,kY false (s9 N x),a0,Go.MapKept.run_setObj_map _ U]
  ·refine⟨λi j A h1 c=> ?_,λi h1=> ?_,λi j A h1 c=> ?_⟩
   ·simp at h1 c;by_cases l:j=es.size
    ·subst l;have:=h.ok.old i A;simpa [fX,A] using this
    ·have K:j<es.size:=J;have:=h.ok.asc i j A J K;simpa [fX,K,show i<es.size by omega] using this
   ·simp at h1;by_cases a:i=es.size
    ·subst a;simp
    ·have:=h.ok.old i J;simp[fX,show i<es.size by omega];omega
   ·simp at h1 c;by_cases l:j=es.size
    ·subst l;have:=F i A;simpa [fX,A] using this
    ·have K:j<es.size:=J;have:=h.ok.one i j A J K;simpa [fX,K,show i<es.size by omega] using this
  ·intro i a;simp at a;rw[C,aHa];by_cases t:i<es.size
   ·simp only[fX,t,tT];rw[aE (by rw[<-h.sz];exact t)];exact h.key i t
   ·have:i=es.size:=J;subst this;simp only[fX,oB,tX];rw[aB (by rw[h.sz];omega),aE h.sz]
  ·intro i a;simp at a;rw[C,aHa];by_cases t:i<es.size
   ·simp only[fX,t,tT];rw[aE (by rw[<-h.sz];exact t)];exact(Q i t (F i t)).kept (D _) (S (Q i t (F i t)))
   ·have:i=es.size:=J;subst this;simp only[fX,oB,tX];rw[aB (by rw[h.sz];omega),aE h.sz];exact R.kept (D _) (S R)
  ·intro i j h1 c q;simp at h1 c;by_cases a:i<es.size
   ·simp only[fX,a,tT];by_cases l:j<es.size
    ·simp only[l,tT];exact h.dist i j a l q
    ·simp only[l,tX];exact O i a (F i a)
   ·have l:j<es.size:=J;simp only[fX,a,l,tT,tX];rcases O j l (F j l) with e|e
    ·cases b0:f.ownBlock with
     |none=>exact .inl rfl
     |some g=>right;rw[e];simp
    ·exact .inr (iS e)
 ·have l:j<es.size:=by simpa using(bM.1 he).1
  have a8:es[j]=e:=by have:=(bM.1 he).2;simpa using this
  have M:es[j].key= .int .i64 x:=by rw[a8];exact a7
  have G: ∀i (a:i<es.size),i≠j->es[i].key≠ .int .i64 x:=λi a q e=>by
   rcases sS q with a2|a2
   ·exact h.ok.one i j a2 a l (e.trans M.symm)
   ·exact h.ok.one j i a2 l a (M.trans e.symm)
  have dI:(L.getD j aH0).1=x:=by have:=h.key j l;rw[M] at this;simpa using this.symm
  have C:(kE L x zs).length=L.length/\ ∀i,i<L.length->((kE L x zs).getD i aH0).1=(L.getD i aH0).1/\((kE L x zs).getD i aH0).2=if i=j then zs else(L.getD i aH0).2:=by
   rcases sb (L:=L) (k:=x) (v:=zs) aH0 with ⟨i,h1,c,h3,h4⟩|⟨h1,_⟩
   ·have a:i<es.size:=by rw[h.sz];exact h1
    have A:i=j:=by
     by_cases e:i=j
     ·exact e
     ·exact absurd (by rw[h.key i a,c]) (G i a e)
    subst A;exact⟨h3,h4⟩
   ·exact absurd dI (h1 j (by rw[<-h.sz];exact l))
  have z:(es.setIfInBounds j {es[j] with val:=f}).size=es.size:=jS
  have H: ∀i (h1:i<es.size),(es.setIfInBounds j {es[j] with val:=f})[i]'(by rw[z];exact h1)=if i=j then {es[j] with val:=f} else es[i]:=λi h1=>by
   rw[Array.getElem_setIfInBounds j1];by_cases e:j=i
   ·subst e;simp
   ·simp[e,iS e]
  have E: ∀i (h1:i<es.size),((es.setIfInBounds j {es[j] with val:=f})[i]'(by rw[z];exact h1)).key=es[i].key/\((es.setIfInBounds j {es[j] with val:=f})[i]'(by rw[z];exact h1)).born=es[i].born:=λi h1=>by
   rw[H i h1];by_cases e:i=j
   ·subst e;rw[aE rfl];exact nT
   ·rw[aB e];exact nT
  refine⟨{w1 with heap:=w1.heap.setIfInBounds b (.map (es.setIfInBounds j {es[j] with val:=f}) clock)},es.setIfInBounds j {es[j] with val:=f},clock,?_,⟨vW w1 _ _ a3,by rw[z,C.1,h.sz],?_,?_,?_,?_⟩,D _⟩
  ·have ah:((es[j]?).map (·.key)).getD (.int .i64 x)= .int .i64 x:=by rw[fS l];simpa using M
   have dA:es.modify j (λe=>{e with key:= .int .i64 x,val:=f})=es.setIfInBounds j {es[j] with val:=f}:=by
    apply v5
    ·simp
    ·intro i h1 c;have a6:i<es.size:=j1
     rw[H i a6,tY];by_cases e:j=i
     ·subst e;simp[M]
     ·simp[e,iS e]
   simp[Instr.mapUpdate,run_underlying hm,Go.MapKept.run_getObj_map U,kY false (s9 N x),a0,Go.MapKept.run_setObj_map _ U,ah,Instr.keyThatStays,I4 (s9 N x),dA]
  ·refine⟨λi k a1 h1 c=> ?_,λi h1=> ?_,λi k a1 h1 c=> ?_⟩
   ·rw[z] at h1 c;rw[(E i h1).2,(E k c).2];exact h.ok.asc i k a1 h1 c
   ·rw[z] at h1;rw[(E i h1).2];exact h.ok.old i h1
   ·rw[z] at h1 c;rw[(E i h1).1,(E k c).1];exact h.ok.one i k a1 h1 c
  ·intro i a;rw[z] at a;rw[(E i a).1,(C.2 i (by rw[<-h.sz];exact a)).1];exact h.key i a
  ·intro i a;rw[z] at a;rw[(C.2 i (by rw[<-h.sz];exact a)).2,H i a];by_cases e:i=j
   ·rw[aE e,aE e];exact R.kept (D _) (S R)
   ·rw[aB e,aB e];exact(Q i a (G i a e)).kept (D _) (S (Q i a (G i a e)))
  ·intro i k h1 c q;rw[z] at h1 c;rw[H i h1,H k c];by_cases e:i=j
   ·have W:k≠j:=λe2=>q (e.trans e2.symm);rw[aE e,aB W];rcases O k c (G k c W) with e|e
    ·rw[e];show f.ownBlock=none\/f.ownBlock≠none;cases b0:f.ownBlock with
     |none=>exact .inl rfl
     |some g=>exact .inr jS
    ·exact .inr (iS e)
   ·rw[aB e];by_cases e2:k=j
    ·rw[aE e2];exact O i h1 (G i h1 e)
    ·rw[aB e2];exact h.dist i k h1 c q
def Xx (L:List (Int×List Int)) (i:Nat):AV:= .I (L.getD i aH0).1
def Xy (L:List (Int×List Int)) (i:Nat):AV:= .rs 1 (L.getD i aH0).2.length λk=>[.I ((L.getD i aH0).2.getD k 0)]
theorem GM.rm (h:GM w b et L es clock) {F:Nat->Prop} (f: ∀g,b<=g-> ¬F g):Rep0 F w (.rm L.length (Xx L) (Xy L)) (.map (some b)):=by
 refine .rm _ _ _ b es clock (f b (aG _)) h.hp h.sz h.ok (λi t c=> ?_) λi t c=> ?_
 ·rw[h.key i c];exact .i _ _
 ·have a:=h.own i c;unfold Xy;generalize (L.getD i aH0).2=zs at a;rcases a.2 with ⟨e,q⟩|⟨g,n,C,e,D,z,A,x,E,G⟩
  ·rw[e,q];exact .rsnil _ _
  ·rw[e] at a|-;refine .rs 1 zs.length _ g 0 n (λk _=> .int .i64 (zs.getD k 0)) A x (f g J) (cN.1 z).1 (λ_ _=>rfl) (λk j l hj=> ?_) (λ_ _ _ _=>rfl) λk j l hj=> ?_
   ·have hj:j=0:=J;subst hj;have:=a.cellAt (g:=g) k J;rw[show 0+k*1+0=k by omega,this];unfold vI;simp[List.getD,l]
   ·have hj:j=0:=jT;subst hj;exact .i _ _
def ta (w:World) (b:Nat) (et:TypeId) (L:List (Int×List Int)) (es:Array MapEntry) (x:Int) (v:Value):Prop:=
 w.ownsRow (b+1) et 1 v ((hU L x).getD []).length (vI ((hU L x).getD []))/\((v= .slice none 0 0/\hU L x=none/\ ∀i (h:i<es.size),es[i].key≠ .int .i64 x)\/ ∃i,∃h:i<es.size,es[i].key= .int .i64 x/\v=es[i].val/\(L.getD i aH0).1=x)
theorem GM.grow (h:GM w b et L es clock) {w':World} {row:Option Nat} (a:w.grownBy w' row) (f: ∀g,row=some g->g≠b/\ ∀i (h:i<es.size),es[i].val.ownBlock≠some g):GM w' b et L es clock:=by
 refine⟨(a.block b h.lt λe=>(f b e.symm).1 rfl).trans h.hp,h.sz,h.ok,h.key,λi c=>(h.own i c).kept a ?_,h.dist⟩;cases j:es[i].val.ownBlock with
 |none=>exact .inl rfl
 |some g=>right;intro e;exact(f g e.symm).2 i c j
theorem GM.alloc (h:GM w b et L es clock) (o:Obj):GM (w.alloc o) b et L es clock:=h.grow (World.grownBy_alloc w o none) (λg a=>by cases a)
theorem GM.drew (h:GM w b et L es clock):GM w.drew b et L es clock:=h.grow (w':=w.drew) (row:=none) ⟨rfl,rfl,rfl,aG _,λ_ _ _=>rfl⟩ (λg a=>by cases a)
theorem ta.alloc {z:Int} {v:Value} (h:ta w b et L es z v) (o:Obj):ta (w.alloc o) b et L es z v:=⟨h.1.alloc o,h.2⟩
theorem ta.drew {z:Int} {v:Value} (h:ta w b et L es z v):ta w.drew b et L es z v:=⟨h.1,h.2⟩
end
def nB (l:List Int) (k:Nat):List AV:=[.I (l.getD k 0)]
def Pg (L:List (Int×List Int)) (x y:Int):List (Int×List Int):=kE L x ((hU L x).getD []++[y])
def Um (L:List (Int×List Int)) (c:Cl_q1):List (Int×List Int):=Pg (Pg L (wZ c.a) c.b) (wZ c.b) c.a
def pW (l:List Cl_q1):List (Int×List Int):=l.foldl Um []
theorem tc (L:List (Int×List Int)) (x y z:Int):(hU (Pg L x y) z).getD []=(hU L z).getD []++(if x=z then [y] else []):=by
 unfold Pg;rw[rK];by_cases h:z=x
 ·subst h;simp
 ·rw[aB h,aB (iS h)];simp
theorem ku (x:Int): ∀(l:List Cl_q1) (L:List (Int×List Int)),(hU (l.foldl Um L) x).getD []=(hU L x).getD []++lA l x
 |[],L=>by simp[lA]
 |c::r,L=>by rw[gK,ku x r];unfold Um;rw[tc,tc];simp[lA,gD]
theorem U1 (l:List Cl_q1) (x:Int):(hU (pW l) x).getD []=lA l x:=by unfold pW;rw[ku];rfl
theorem N3 (l:List Cl_q1) (x:Int):(lA l x).length<=2*l.length:=by
 induction l with
 |nil=>simp[lA]
 |cons c r e=>
  have:lA (c::r) x=((if wZ c.a=x then [c.b] else [])++(if wZ c.b=x then [c.a] else []))++lA r x:=by simp[lA]
  rw[this,bD,bD,gR];split<;>split<;>simp<;>omega
theorem Iv (l:List Cl_q1) (k:Nat) (h:k<l.length):pW (l.take (k+1))=Um (pW (l.take k)) (l.getD k dC):=by unfold pW;rw[bS h,iQ];simp[List.getD,h]
def gM (l:List Cl_q1):AV:= .rm (pW l).length (Xx (pW l)) (Xy (pW l))
theorem Iw (l:List Cl_q1) (x:Int):k4 (pW l).length (Xx (pW l)) (Xy (pW l)) (.I x) (.rs 1 (lA l x).length (nB (lA l x))) (.val (.slice none 0 0)) (hU (pW l) x).isSome:=by
 have a:=U1 l x;cases h:hU (pW l) x with
 |none=>
  refine⟨λh=>jC,λ_=>⟨λi j e=> ?_,?_⟩⟩
  ·unfold Xx at e;exact xY h aH0 i j (sD _ _ e)
  ·rw[h] at a;have:lA l x=[]:=a.symm;rw[this];exact nT
 |some zs=>obtain⟨i,c,f,g⟩:=o8 h aH0;rw[h] at a;have n:zs=lA l x:=a;refine⟨λ_=>⟨i,c,by unfold Xx;rw[f],?_⟩,λh=>jC⟩;unfold Xy;rw[g,n];exact⟨rfl,rfl,λk q=>rfl⟩
end Go.Proofs.YtpnjmojpeaegoaaGreatDoor.Sb
namespace Go.Proofs.YtpnjmojpeaegoaaGreatDoor.Sb
def k9 (C:List Cm) (a p:Int) (k:Nat):List Int:=(List.range k).flatMap λi=>if(C.getD i dCm).acc=a/\(C.getD i dCm).per=p then [2*(i:Int)] else []
def Q4 (C:List Cm) (a p:Int):List Int:=k9 C a p C.length
theorem K5 (C:List Cm) (a p:Int) (k:Nat):k9 C a p (k+1)=k9 C a p k++(if(C.getD k dCm).acc=a/\(C.getD k dCm).per=p then [2*(k:Int)] else []):=by unfold k9;rw[iN,oX];simp
theorem U2 (C:List Cm) (a p:Int): ∀k,(k9 C a p k).length<=k
 |0=>by simp[k9]
 |k+1=>by have:=U2 C a p k;rw[K5,bD];split<;>simp<;>omega
structure IsPers (C:List Cm) (a:Int) (L:List Int):Prop where
 asc:L.Pairwise (· < ·)
 UE: ∀p,p∈L↔ ∃i,i<C.length/\(C.getD i dCm).acc=a/\(C.getD i dCm).per=p
def E4 (C:List Cm) (P:List Pf_q1):Bool:=decide ((clausesY C P).2=0)
theorem i5 {C:List Cm} {P:List Pf_q1}:E4 C P=true↔RightCP C P/\(fP C P).length<=4000:=by
 unfold E4 clausesY;rw[aM];by_cases h:rightCP C P=true
 ·rw[aE h];by_cases a:4000<(fP C P).length
  ·rw[aE a];exact⟨λh=>jC,λc=>J⟩
  ·rw[aB a];exact⟨λ_=>⟨wB.1 h,J⟩,λ_=>rfl⟩
 ·rw[aB h];exact⟨λh=>jC,λc=>absurd (wB.2 c.1) h⟩
theorem Un {C:List Cm} {P:List Pf_q1} (h:E4 C P=true):clausesY C P=(fP C P,0):=by obtain⟨a,c⟩:=i5.1 h;unfold clausesY;rw[aE (wB.2 a),aB J]
theorem Ix {C:List Cm} {P:List Pf_q1} (h:E4 C P=false):(clausesY C P).1=[]/\(clausesY C P).2≠0:=by
 unfold E4 at h;rw[bH] at h;refine⟨?_,h⟩;unfold clausesY at h|-;split
 ·rename_i a;rw[aE a] at h;split
  ·rfl
  ·rename_i c;rw[aB c] at h;exact absurd rfl h
 ·rfl
def td (C:List Cm) (P:List Pf_q1):Bool:=E4 C P&&(pM (fP C P) C.length []).isSome
def ofY (C:List Cm) (P:List Pf_q1) (L:List Int) (a:Int):Int×Bool:=
 match L.find? λp=>td C P&&lY (fP C P) C.length (Q4 C a p) with
 |some p=>(p,true)
 |none=>(0,false)
section
variable {C : List Cm} {P : List Pf_q1} {d e f : List Int} {a b c : Int}
end
section
variable {C : List Cm} {P : List Pf_q1} {q : Pf_q1} {d : List Int} {a b : Int}
end
end Go.Proofs.YtpnjmojpeaegoaaGreatDoor.Sb
namespace Go.Proofs.YtpnjmojpeaegoaaGreatDoor.Sb
open Go.Eng
theorem xZ {x:Int} (a:0<=x) (c:x<4611686018427387904):(BitVec.ofInt 64 x).toNat=x.toNat:=by rw[BitVec.toNat_ofInt,m1 a J]
theorem tf {n:Nat} (h:n<4611686018427387904):IntKind.i64.wrap (n:Int)=n:=wr J J
theorem EZ {x y:Int} (a:0<=x/\x<4611686018427387904) (c:0<=y/\y<4611686018427387904):o3 .and .i64 x y=((x.toNat&&&y.toNat:Nat):Int):=by show IntKind.i64.wrap ((BitVec.ofInt 64 x&&&BitVec.ofInt 64 y).toNat:Int)=_;rw[BitVec.toNat_and,xZ a.1 a.2,xZ c.1 c.2];exact tf (i1 Nat.and_le_left J)
theorem OV {x y:Int} (a:0<=x/\x<4611686018427387904) (c:0<=y/\y<4611686018427387904):o3 .or .i64 x y=((x.toNat|||y.toNat:Nat):Int):=by show IntKind.i64.wrap ((BitVec.ofInt 64 x|||BitVec.ofInt 64 y).toNat:Int)=_;rw[BitVec.toNat_or,xZ a.1 a.2,xZ c.1 c.2];exact tf (n4 (n:=62) J J)
theorem FB {x y:Int} (a:0<=x/\x<4611686018427387904) (c:0<=y/\y<4611686018427387904):o3 .xor .i64 x y=((x.toNat^^^y.toNat:Nat):Int):=by show IntKind.i64.wrap ((BitVec.ofInt 64 x^^^BitVec.ofInt 64 y).toNat:Int)=_;rw[BitVec.toNat_xor,xZ a.1 a.2,xZ c.1 c.2];exact tf (Nat.xor_lt_two_pow (n:=62) J J)
theorem OW (n:Nat):n^^^1=n+1-2*(n % 2):=by
 have g:(n^^^1)/2=n/2:=by have:=Nat.xor_div_two_pow (a:=n) (b:=1) (n:=1);simpa using this
 have e:(n^^^1)% 2=(n % 2)^^^1:=by have:=Nat.xor_mod_two_pow (a:=n) (b:=1) (n:=1);simpa using this
 have c:n % 2=0\/n % 2=1:=J
 rcases c with c|c
 ·rw[c] at e|-;have f:(n^^^1)% 2=1:=e;omega
 ·rw[c] at e|-;have f:(n^^^1)% 2=0:=e;omega
theorem Z3 {x:Int} (a:0<=x) (c:x<4611686018427387903):o3 .xor .i64 x 1=wZ x:=by rw[FB ⟨a,J⟩ ⟨J,J⟩];show((x.toNat^^^1:Nat):Int)=wZ x;rw[OW];unfold wZ;omega
theorem gdX {α:Type} {d:α} {l:List α} {k:Nat} (h:k<l.length):l.getD k d=l[k]:=by simp[eR,h]
theorem yA {α:Type} (d:α) {l:List α} {k:Nat} (h:k<l.length):l.getD k d∈l:=by rw[gdX h];exact fN h
def aH6 {α:Type} (p:α->Bool) (l:List α):Int:=match l.findIdx? p with|some k=>k|none=> -1
theorem aH7 {α:Type} (d:α) (p:α->Bool) (l:List α) (k:Nat) (c:k<l.length) (e: ∀j,j<k->p (l.getD j d)=false) (a:p (l.getD k d)=true):aH6 p l=k:=by
 have:l.findIdx? p=some k:=by
  rw[eW];refine⟨c,?_,λj f=> ?_⟩
  ·rw[gdX c] at a;exact a
  ·have:=e j f;rw[gdX J] at this;simp[this]
 simp[aH6,this]
theorem aHb {α:Type} (d:α) (p:α->Bool) (l:List α) (c: ∀j,j<l.length->p (l.getD j d)=false):aH6 p l= -1:=by
 have:l.findIdx? p=none:=by rw[gF];intro x e;obtain⟨j,a,rfl⟩:=cU e;have:=c j a;rw[gdX a] at this;exact this
 simp[aH6,this]
theorem aHl {α:Type} (p:α->Bool) (l:List α):decide (aH6 p l>=0)=l.any p:=by
 unfold aH6;cases h:l.findIdx? p with
 |none=>
  rw[gF] at h;have:l.any p=false:=jH
  rw[this];rfl
 |some k=>
  rw[eW] at h;obtain⟨a,c,_⟩:=h;have:l.any p=true:=by rw[kC];exact⟨_,fN a,c⟩
  rw[this];simp
def Cl_q1.av (c:Cl_q1):List AV:=[.I c.a,.I c.b]
def lL (l:List Cl_q1) (k:Nat):List AV:=(l.getD k dC).av
def Cm.av (c:Cm):List AV:=[.I c.acc,.I c.per]
def rowsM (l:List Cm) (k:Nat):List AV:=(l.getD k dCm).av
def Pf_q1.av (c:Pf_q1):List AV:=[.I c.kind,.I c.a,.I c.b]
def rowsP (l:List Pf_q1) (k:Nat):List AV:=(l.getD k Uj).av
structure Gt where
 grp:Int
 per:Int
 rig:Int
def dGt:Gt:=⟨0,0,0⟩
def Gt.av (c:Gt):List AV:=[.I c.grp,.I c.per,.I c.rig]
def rowsG_q1 (l:List Gt) (k:Nat):List AV:=(l.getD k dGt).av
theorem Ph (l:List Cl_q1) (n:l.length<2^62) (c:FuncId) (e:List AV) (p:Cl_q1->Bool) (g: ∀x∈l,cC c [.ag x.av,.rp e] [] (.b (p x))):
  cC 351 [.rs 2 l.length (lL l),.fn c [.rp e]] [] (.I (aH6 p l)):=by
 refine hZ Tryz.func351 [.tmp 4] [] ?_;refine .inl ⟨[],Nat,λk=>k<=l.length/\ ∀j,j<k->p (l.getD j dC)=false,λk=>[⟨8,[],.I k⟩],λ_=>[],λk=>l.length-k,
  na,?_⟩
 intro k f;obtain⟨f,hno⟩:=f;refine .inl ⟨λa=> ?_,λa=> ?_⟩
 ·have a:=pH a;refine .inl ⟨J,.inl ⟨[],_,g (l.getD k dC) (yA dC J),⟨λh=> ?_,λh=> ?_⟩⟩⟩
  ·refine RetIs.i ?_;exact(aH7 dC p l k J hno h).symm
  ·exact mF
 ·have a:=iT a;refine RetIs.i ?_;exact(aHb dC p l λj hj=>hno j J).symm
theorem xi (l:List Cl_q1) (e:l.length<2^62) (a:FuncId) (c:List AV) (p:Cl_q1->Bool) (f: ∀x∈l,cC a [.ag x.av,.rp c] [] (.b (p x))):
  cC 318 [.rs 2 l.length (lL l),.fn a [.rp c]] [] (.b (l.any p)):=by
 refine hZ Tryz.func318 [.tmp 4] [] ?_;refine .inl ⟨[],_,Ph l e a c p f,?_⟩;exact RetIs.b (aHl p l)
theorem Pi (l:List Pf_q1) (n:l.length<2^62) (c:FuncId) (e:List AV) (p:Pf_q1->Bool) (g: ∀x∈l,cC c [.ag x.av,.rp e] [] (.b (p x))):
  cC 179 [.rs 3 l.length (rowsP l),.fn c [.rp e]] [] (.I (aH6 p l)):=by
 refine hZ Tryz.func179 [.tmp 4] [] ?_;refine .inl ⟨[],Nat,λk=>k<=l.length/\ ∀j,j<k->p (l.getD j Uj)=false,λk=>[⟨8,[],.I k⟩],λ_=>[],λk=>l.length-k,
  na,?_⟩
 intro k f;obtain⟨f,hno⟩:=f;refine .inl ⟨λa=> ?_,λa=> ?_⟩
 ·have a:=pH a;refine .inl ⟨J,.inl ⟨[],_,g (l.getD k Uj) (yA Uj J),⟨λh=> ?_,λh=> ?_⟩⟩⟩
  ·refine RetIs.i ?_;exact(aH7 Uj p l k J hno h).symm
  ·exact mF
 ·have a:=iT a;refine RetIs.i ?_;exact(aHb Uj p l λj hj=>hno j J).symm
theorem xj (l:List Pf_q1) (e:l.length<2^62) (a:FuncId) (c:List AV) (p:Pf_q1->Bool) (f: ∀x∈l,cC a [.ag x.av,.rp c] [] (.b (p x))):
  cC 100 [.rs 3 l.length (rowsP l),.fn a [.rp c]] [] (.b (l.any p)):=by
 refine hZ Tryz.func100 [.tmp 4] [] ?_;refine .inl ⟨[],_,Pi l e a c p f,?_⟩;exact RetIs.b (aHl p l)
theorem Pj (l:List Gt) (g:l.length<2^62) (c:FuncId) (p:Gt->Bool) (f: ∀x∈l,cC c [.ag x.av] [] (.b (p x))):
  cC 369 [.rs 3 l.length (rowsG_q1 l),.fn c []] [] (.I (aH6 p l)):=by
 refine hZ Tryz.func369 [.tmp 4] [] ?_;refine .inl ⟨[],Nat,λk=>k<=l.length/\ ∀j,j<k->p (l.getD j dGt)=false,λk=>[⟨8,[],.I k⟩],λ_=>[],λk=>l.length-k,
  na,?_⟩
 intro k e;obtain⟨e,hno⟩:=e;refine .inl ⟨λa=> ?_,λa=> ?_⟩
 ·have a:=pH a;refine .inl ⟨J,.inl ⟨[],_,f (l.getD k dGt) (yA dGt J),⟨λh=> ?_,λh=> ?_⟩⟩⟩
  ·refine RetIs.i ?_;exact(aH7 dGt p l k J hno h).symm
  ·exact mF
 ·have a:=iT a;refine RetIs.i ?_;exact(aHb dGt p l λj hj=>hno j J).symm
theorem xk (l:List Gt) (c:l.length<2^62) (a:FuncId) (p:Gt->Bool) (e: ∀x∈l,cC a [.ag x.av] [] (.b (p x))):
  cC 361 [.rs 3 l.length (rowsG_q1 l),.fn a []] [] (.b (l.any p)):=by
 refine hZ Tryz.func361 [.tmp 4] [] ?_;refine .inl ⟨[],_,Pj l c a p e,?_⟩;exact RetIs.b (aHl p l)
theorem FC {n:Int} (h:0<=n/\n<=400):IntKind.i64.wrap (2*n)=2*n:=wr J J
theorem aIf (n:Int) (e:0<=n/\n<=400) (c:Cl_q1):cC 319 [.ag c.av,.rp [.I n]] [] (.b (!OT n c)):=by refine hZ Tryz.func319 [.tmp 3] [] ?_;refine RetIs.b ?_;show(((decide (c.a<0)||decide (c.a>=IntKind.i64.wrap (2*n)))||decide (c.b<0))||decide (c.b>=IntKind.i64.wrap (2*n)))= !OT n c;rw[FC e];unfold OT;rw[hM];simp only[eZ,aM,dQ,iZ,bH];omega
theorem zn (l:List Cl_q1) (n:Int):aGw l n=(!((decide (n<0)||decide (n>400))||decide (l.length>4000))&& !l.any λc=> !OT n c):=by
 have a:(!(l.any λc=> !OT n c))=l.all (OT n):=by rw[<-List.not_all_eq_any_not,r4]
 rw[a];unfold aGw
 congr 1
 rw[hM];simp only[aW,aM,dQ,bT,bH];omega
theorem aHz (l:List Cl_q1) (g:l.length<2^62) (n:Int):cC 274 [.rs 2 l.length (lL l),.I n] [] (.b (aGw l n)):=by
 refine hZ Tryz.func274 [.tmp 4] [] ?_
 repeat apply jL
 refine⟨λh=>RetIs.b ?_,λh=> ?_⟩
 ·have h:((decide (n<0)||decide (n>400))||decide ((l.length:Int)>4000))=true:=h;rw[zn];have e:decide (l.length>4000)=decide ((l.length:Int)>4000):=by rw[hM,aM,aM];omega
  rw[e,h];rfl
 have h:((decide (n<0)||decide (n>400))||decide ((l.length:Int)>4000))=false:=h;have e:decide (l.length>4000)=decide ((l.length:Int)>4000):=by rw[hM,aM,aM];omega
 have f:=h;simp only[bT,bH] at f
 repeat apply jL
 refine⟨[],_,xi l g 319 [.I n] (λc=> !OT n c) (λx _=>aIf n J x),?_⟩;refine RetIs.b ?_;rw[zn,e,h];rfl
theorem OX {α:Type} (d:α) {p:α->Bool} {l:List α} {j:Nat} (a:j<l.length) (h:p (l.getD j d)=false):l.all p=false:=by rw[oQ];exact⟨_,yA d a,by rw[h];simp⟩
end Go.Proofs.YtpnjmojpeaegoaaGreatDoor.Sb
