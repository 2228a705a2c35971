/-
  TopDelivered returns true whatever the input, and the input reads behind the call as it read before, where the three listed tables of Go's library hold what the program's text lays: a part of the proof.
-/
import Derived.Shelf.SlSortCmp.NoneTotal
import Derived.Test.YtpnjmojpeaegoaaGreatDoorN12
set_option linter.unusedSimpArgs false
set_option linter.unusedVariables false
namespace Go.Eng
open Go.RowKit Go.Sort Go.Proofs
section
variable {P : Program} {α : Type} [Inhabited α]
theorem sh {W w':World} (h:Below W.heap.size W w'): ∃q os',w'=grow (W.drewN q) os':=by
 refine⟨w'.drawn-W.drawn,w'.heap.extract W.heap.size w'.heap.size,?_⟩;have g:W.heap++w'.heap.extract W.heap.size w'.heap.size=w'.heap:=by
  refine v5 (by simp;have:=h.size;omega) λi e a=> ?_;by_cases c:i<W.heap.size
  ·rw[Array.getElem_append_left c];have:=h.block i c;rw[fS c,fS a] at this;exact(cK this).symm
  ·rw[Array.getElem_append_right J,Array.getElem_extract]
   congr 1
   omega
 have f:W.drawn+(w'.drawn-W.drawn)=w'.drawn:=by have:W.drawn<=w'.drawn:=h.drawn;omega
 obtain⟨x,t,w,n,j⟩:=w';have e:n=W.os:=h.os;have a:t=W.tape:=h.tape;have l:j=W.output:=h.output;subst e a l;unfold grow World.drewN;dsimp only at g f|-;rw[g,f]
theorem Z0 (f:Array Value->Array Value) (w:World) (a m:Nat) (os:Array Obj):
  (∀b,b<w.heap.size->b≠a->(grow (mapBlock (Sort.ahead w m) a f) os).heap[b]? =w.heap[b]?)/\w.heap.size<=(grow (mapBlock (Sort.ahead w m) a f) os).heap.size:=by
 refine⟨λb e c=> ?_,?_⟩
 ·simp only[grow,mapBlock,Sort.ahead];rw[pT (by simpa using e),tM,aB (iS c)]
 ·simp[grow,mapBlock,Sort.ahead]
theorem Uf {cs:List AV} {us:List Value} {e:Nat} {w w':World} (h: ∀(j:Nat) (a:j<cs.length) (c:j<us.length),Rep0 (λg=>g=e) w cs[j] us[j])
  (f:(∀b,b<w.heap.size->b≠e->w'.heap[b]? =w.heap[b]?)/\w.heap.size<=w'.heap.size): ∀(j:Nat) (a:j<cs.length) (c:j<us.length),Rep0 (λ_=>False) w' cs[j] us[j]:=
 λj a c=>(h j a c).stable (λ_ _ _ h=>h) f.1 f.2
theorem Oy {h:FuncId} {sz:Nat} {enc:α->List Value} {av:α->List AV} (L:Lies sz enc av) {cs:List AV} {l:α->α->Int} (E: ∀x y,j8 P h (.ag (av x):: .ag (av y)::cs) [] (.i .i64 (l x y))) {us:List Value} (t:cs.length=us.length)
  (a off size:Nat) (w:World) (n:Tb w) (q:a≠Ti) (A: ∀(j:Nat) (h1:j<cs.length) (h2:j<us.length),Rep0 (λg=>g=a) w cs[j] us[j]):CmpLays P h us.toArray enc sz l a off size w:=by
 intro m c C _ x y;have f: ∀(W:World) (z:α),Rep0 (λ_=>False) W (.ag (av z)) (.agg (enc z).toArray):=λW z=> .ag _ _ (by rw[L.alen,L.len]) λj h1 h2=>L.to _ _ _ _ h1 h2;have:=(E x y).2 (sortWorldK enc sz w a off m C c) (.agg (enc x).toArray:: .agg (enc y).toArray::us) (by simp[t]) (λj h1 h2=>by
  match j with
  |0=>exact f _ x
  |1=>exact f _ y
  |j+2=>exact Uf A (Z0 _ w a m c) j j1 j2) (n.of ((Z0 _ w a m c).1 Ti n.lt (iS q)))
 have e:(#[Value.agg (enc x).toArray,.agg (enc y).toArray]++us.toArray)=(Value.agg (enc x).toArray:: .agg (enc y).toArray::us).toArray:=jS
 rw[e];refine Calls.mono this ?_;rintro e G ⟨v,H,rfl,D,_,F⟩;refine⟨?_,sh D⟩;rw[F.i_inv]
theorem Oz {ρ:Go.Shelf.Ren} (K:Go.Proofs.SlLaysF0.n6 P ρ) {a:FuncId} (z:rT P a) (S:rT P (ρ.f 6)) {sz:Nat} (D: ∀w,(isAgg (ρ.t 24)).run P w= .ok true w) (zE: ∀w,(Go.sizeOf (ρ.t 24)).run P w= .ok sz w)
  {enc:α->List Value} {av:α->List AV} (L:Lies sz enc av) {cs:List AV} {c:α->α->Int} (R: ∀x y,j8 P a (.ag (av x):: .ag (av y)::cs) [] (.i .i64 (c x y))) (Q:SWO (ltOf c)):Y9 P (ρ.f 6) a sz enc (ltOf c) cs:=
 ⟨S,λY l q g j W C E O h A=>by
  have:=AnyQ.slices_SortFunc K sz D zE enc L.len L.one c Q a Y.toArray l q g j.toArray W (λargs w=>C8 z args) (Oy L R C l q _ W h.2.1 h.2.2 E) O h.1 (by simpa using A);have e:j.toArray.size=j.length:=jS
  rw[e] at this;exact this.mono λ_ _ ⟨G,F,n,U,H,M,N⟩=>⟨G,F,n,U,H,M,N⟩,λ_ p g W=>AnyF.slices_SortFunc_none K p g _ W⟩
theorem UM (enc:α->Value) (d:Array α):flatK (λx=>[enc x]) 1 d=d.map enc:=by
 refine v5 jS λi h1 h2=> ?_;have:=get_flatK (λx=>[enc x]) 1 d i j1;rw[gL _ i h1] at this;rw[this];have a:i<d.size:=j2
 simp[Nat.mod_one,gL d i a]
theorem aEe (enc:α->Value) (w:World) (a off:Nat) (d:Array α):putRowK (λx=>[enc x]) 1 w a off d=putRow enc w a off d:=by
 unfold putRowK putRow;rw[UM]
 congr 1
 funext c
 unfold putCells;refine v5 jS λi e f=> ?_;simp only[Array.getElem_mapIdx,Array.size_map,id];split
 ·rename_i h;have hi:i-off<d.size:=J
  rw[gL d _ hi,gL _ (i-off) jI];simp
 ·rfl
theorem WQ {enc:α->Value} {w:World} {a off:Nat} {d:Array α} (h:HoldsK (λx=>[enc x]) 1 w a off d):Holds enc w a off d:=by intro j hj;unfold HoldsK at h;rw[UM] at h;have:=h j jT;rw[gL (d.map enc) j jT] at this;simpa [gL d j hj] using this
theorem Ip {ρ:Go.Shelf.Ren} (K:Go.Proofs.SlLaysF.n6 P ρ) {c:FuncId} (E:rT P c) (hf:rT P (ρ.f 6)) {enc:α->Value} {av:α->AV} (h1:OneCell enc)
  (C: ∀(F:Nat->Prop) (w:World) (x:α),Rep0 F w (av x) (enc x)) {cs:List AV} {g:α->α->Int} (Y: ∀x y,j8 P c (av x::av y::cs) [] (.i .i64 (g x y))) (S:SWO (ltOf g)):Y9 P (ρ.f 6) c 1 (λx=>[enc x]) (ltOf g) cs:=
 ⟨hf,λt a A z q W H L R l G=>by
  have D:CmpLays1 P c t.toArray enc g a A q.toArray.size W:=by
   intro m h N _ x y;have:=(Y x y).2 (sortWorld enc W a A m N h) (enc x::enc y::t) (by simp[H]) (λj h1 h2=>by
    match j with
    |0=>exact C _ _ x
    |1=>exact C _ _ y
    |j+2=>exact Uf L (Z0 _ W a m h) j j1 j2) (l.2.1.of ((Z0 _ W a m h).1 Ti l.2.1.lt (iS l.2.2)))
   have e:(#[enc x,enc y]++t.toArray)=(enc x::enc y::t).toArray:=jS;rw[e];refine Calls.mono this ?_;rintro e w' ⟨v,β,rfl,U,_,hr⟩;refine⟨?_,sh U⟩;rw[hr.i_inv]
  have:=Any.slices_SortFunc K enc h1 g S c t.toArray a A z q.toArray W (λargs w=>C8 E args) D (WQ R) l.1 (by simpa using G);have e:q.toArray.size=q.length:=jS
  rw[e] at this;exact this.mono λ_ _ ⟨h1,M,n,h,h2,O,Q⟩=>⟨h1,M,n,h,h2,O,by rw[Q];unfold sortWorldK sortWorld;rw[aEe]⟩,λ_ p z W=>AnyF.slices_SortFunc_none (P:=P) (ρ:=ρ) {K with} p z _ W⟩
end
end Go.Eng
namespace Go.Proofs.YtpnjmojpeaegoaaGreatDoor.Sb
structure Cl_q1 where
 a:Int
 b:Int
def dC:Cl_q1:=⟨0,0⟩
def wZ (x:Int):Int:=x+1-2*(x % 2)
theorem Z1 (x:Int):wZ (wZ x)=x:=by unfold wZ;omega
theorem Pa {x n:Int} (h:0<=x/\x<2*n):0<=wZ x/\wZ x<2*n:=by unfold wZ;omega
theorem i4 (v:Int):wZ (2*v)=2*v+1:=by unfold wZ;omega
theorem pi (v:Int):wZ (2*v+1)=2*v:=by unfold wZ;omega
def tv (vals:List Bool) (x:Int):Bool:=vals.getD (x/2).toNat false==decide (x % 2=0)
theorem T8 (vals:List Bool) (x:Int):tv vals (wZ x)= !tv vals x:=by
 have a:wZ x/2=x/2:=by unfold wZ;omega
 have c:decide (wZ x % 2=0)= !decide (x % 2=0):=by
  by_cases h:x % 2=0
  ·rw[gH h,gZ (by unfold wZ;omega)];rfl
  ·rw[gZ h,gH (by unfold wZ;omega)];rfl
 unfold tv;rw[a,c];generalize vals.getD (x/2).toNat false=p;generalize decide (x % 2=0)=q;cases p<;>cases q<;>rfl
theorem D9 (vals:List Bool) (v:Nat):tv vals (2*(v:Int))=vals.getD v false:=by
 unfold tv;have a:((2*(v:Int))/2).toNat=v:=J
 rw[a,gH J];cases vals.getD v false<;>rfl
theorem ig (vals:List Bool) (v:Nat):tv vals (2*(v:Int)+1)= !vals.getD v false:=by rw[<-i4,T8,D9]
def mm (l:List Cl_q1) (vals:List Bool):Prop:= ∀c∈l,tv vals c.a=true\/tv vals c.b=true
def lN (n:Int) (l:List Cl_q1):Prop:= ∀c∈l,(0<=c.a/\c.a<2*n)/\(0<=c.b/\c.b<2*n)
def lA (l:List Cl_q1) (x:Int):List Int:=l.flatMap λc=>(if wZ c.a=x then [c.b] else [])++(if wZ c.b=x then [c.a] else [])
def Ed (l:List Cl_q1) (x y:Int):Prop:=y∈lA l x
theorem T9 {l:List Cl_q1} {x y:Int}:Ed l x y↔ ∃c∈l,(wZ c.a=x/\y=c.b)\/(wZ c.b=x/\y=c.a):=by
 unfold Ed lA;rw[xJ];constructor
 ·rintro⟨c,f,h⟩;refine⟨c,f,?_⟩;rcases cR.1 h with h|h
  ·split at h
   ·rename_i e;exact .inl ⟨e,jH⟩
   ·simp at h
  ·split at h
   ·rename_i e;exact .inr ⟨e,jH⟩
   ·simp at h
 ·rintro⟨c,f,⟨e,rfl⟩|⟨e,rfl⟩⟩
  ·exact⟨c,f,cR.2 (.inl (by rw[aE e];simp))⟩
  ·exact⟨c,f,cR.2 (.inr (by rw[aE e];simp))⟩
theorem Ed.contra {l:List Cl_q1} {x y:Int} (h:Ed l x y):Ed l (wZ y) (wZ x):=by
 obtain⟨c,a,⟨e,rfl⟩|⟨e,rfl⟩⟩:=T9.1 h
 ·exact T9.2 ⟨c,a,.inr ⟨rfl,by rw[<-e,Z1]⟩⟩
 ·exact T9.2 ⟨c,a,.inl ⟨rfl,by rw[<-e,Z1]⟩⟩
theorem Ed.ok {n:Int} {l:List Cl_q1} (e:lN n l) {x y:Int} (h:Ed l x y):(0<=x/\x<2*n)/\(0<=y/\y<2*n):=by
 obtain⟨c,a,⟨rfl,rfl⟩|⟨rfl,rfl⟩⟩:=T9.1 h
 ·exact⟨Pa (e c a).1,(e c a).2⟩
 ·exact⟨Pa (e c a).2,(e c a).1⟩
theorem Ed.tru {l:List Cl_q1} {vals:List Bool} (f:mm l vals) {x y:Int} (h:Ed l x y) (a:tv vals x=true):tv vals y=true:=by
 obtain⟨c,e,⟨rfl,rfl⟩|⟨rfl,rfl⟩⟩:=T9.1 h
 ·rw[T8] at a;rcases f c e with h|h
  ·rw[h] at a;cases a
  ·exact h
 ·rw[T8] at a;rcases f c e with h|h
  ·exact h
  ·rw[h] at a;cases a
theorem mm.of_ed {l:List Cl_q1} {vals:List Bool} (h: ∀x y,Ed l x y->tv vals x=true->tv vals y=true):mm l vals:=by
 intro c f;cases e:tv vals c.a with
 |true=>exact .inl rfl
 |false=>exact .inr (h (wZ c.a) c.b (T9.2 ⟨c,f,.inl nT⟩) (by rw[T8,e];rfl))
inductive Rc (l:List Cl_q1):Int->Int->Prop
 |refl (x:Int):Rc l x x
 |step {x y z:Int} (h:Rc l x y) (e:Ed l y z):Rc l x z
theorem Rc.trans {l:List Cl_q1} {x y z:Int} (a:Rc l x y) (c:Rc l y z):Rc l x z:=by
 induction c with
 |refl=>exact a
 |step _ e f=>exact .step f e
theorem Rc.contra {l:List Cl_q1} {x y:Int} (h:Rc l x y):Rc l (wZ y) (wZ x):=by
 induction h with
 |refl=>exact .refl _
 |step _ e a=>exact Rc.trans (.step (.refl _) e.contra) a
theorem Rc.tru {l:List Cl_q1} {vals:List Bool} (a:mm l vals) {x y:Int} (h:Rc l x y) (c:tv vals x=true):tv vals y=true:=by
 induction h with
 |refl=>exact c
 |step _ e f=>exact e.tru a f
def WR (l:List Cl_q1) (S:List Int):Prop:= ∀x∈S,∀y,Ed l x y->y∈S
def Con (S:List Int):Prop:= ∀x∈S,wZ x∉S
theorem WR.rc {l:List Cl_q1} {S:List Int} (h:WR l S) {x y:Int} (a:Rc l x y) (c:x∈S):y∈S:=by
 induction a with
 |refl=>exact c
 |step _ e f=>exact h _ f _ e
structure Adds (l:List Cl_q1) (S T roots:List Int):Prop where
 sub: ∀x∈S,x∈T
 root: ∀x∈roots,x∈T
 cl: ∀x∈T,x∉S-> ∀y,Ed l x y->y∈T
 fr: ∀x∈T,x∉S-> ∃r∈roots,Rc l r x
def rX (S T:List Int):Prop:= ∃x∈T,x∉S/\wZ x∈T
theorem Adds.refl (l:List Cl_q1) (S:List Int):Adds l S S []:=⟨λ_ h=>h,λx h=>jh,λx h a=>absurd h a,λx h a=>absurd h a⟩
theorem yU (S:List Int): ¬rX S S:=λ⟨_,h,a,_⟩=>a h
theorem Adds.trans {l:List Cl_q1} {S T U n q:List Int} (f:Adds l S T n) (a:Adds l T U q):Adds l S U (n++q):=by
 refine⟨λx h=>a.sub x (f.sub x h),λx h=> ?_,λx k g y e=> ?_,λx k g=> ?_⟩
 ·rcases cR.1 h with h|h
  ·exact a.sub x (f.root x h)
  ·exact a.root x h
 ·by_cases c:x∈T
  ·exact a.sub y (f.cl x c g y e)
  ·exact a.cl x k c y e
 ·by_cases c:x∈T
  ·obtain⟨r,j,h⟩:=f.fr x c g;exact⟨r,cR.2 (.inl j),h⟩
  ·obtain⟨r,j,h⟩:=a.fr x k c;exact⟨r,cR.2 (.inr j),h⟩
theorem kr {S T U:List Int} (k: ∀x∈S,x∈T) (g: ∀x∈T,x∈U):rX S U↔rX S T\/rX T U:=by
 constructor
 ·rintro⟨x,c,e,a⟩;by_cases j:x∈T
  ·by_cases f:wZ x∈T
   ·exact .inl ⟨x,j,e,f⟩
   ·exact .inr ⟨wZ x,a,f,by rw[Z1];exact c⟩
  ·exact .inr ⟨x,c,j,a⟩
 ·rintro(⟨x,c,e,a⟩|⟨x,c,e,a⟩)
  ·exact⟨x,g x c,e,g _ a⟩
  ·exact⟨x,c,λh=>e (k x h),a⟩
theorem Adds.clo {l:List Cl_q1} {S T r:List Int} (h:Adds l S T r) (c:WR l S):WR l T:=by
 intro x f y e;by_cases a:x∈S
 ·exact h.sub y (c x a y e)
 ·exact h.cl x f a y e
theorem Adds.con {l:List Cl_q1} {S T r:List Int} (_h:Adds l S T r) (h:Con S) (c: ¬rX S T):Con T:=by
 intro x g f;by_cases e:x∈S
 ·by_cases a:wZ x∈S
  ·exact h x e a
  ·exact c ⟨wZ x,f,a,by rw[Z1];exact g⟩
 ·exact c ⟨x,g,e,f⟩
theorem Adds.tru {l:List Cl_q1} {S T r:List Int} (h:Adds l S T r) {vals:List Bool} (j:mm l vals) (e: ∀x∈S,tv vals x=true) (g: ∀x∈r,tv vals x=true): ∀x∈T,tv vals x=true:=by
 intro x k;by_cases a:x∈S
 ·exact e x a
 ·obtain⟨q,f,c⟩:=h.fr x k a;exact c.tru j (g q f)
theorem Adds.no {l:List Cl_q1} {S T r:List Int} (h:Adds l S T r) (j:rX S T) {vals:List Bool} (f:mm l vals) (c: ∀x∈S,tv vals x=true) (e: ∀x∈r,tv vals x=true):False:=by obtain⟨x,n,_,k⟩:=j;have g:=h.tru f c e x n;have a:=h.tru f c e _ k;rw[T8,g] at a;cases a
theorem Adds.back {l:List Cl_q1} {S T:List Int} {r:Int} (h:Adds l S T [r]) (t:rX S T) (n:WR l S) (w:wZ r∉S):Rc l r (wZ r):=by
 obtain⟨x,C,j,z⟩:=t;obtain⟨f,a,e⟩:=h.fr x C j;have a:f=r:=by simpa using a
 subst a;by_cases c:wZ x∈S
 ·have:=e.contra;exact absurd (n.rc this c) w
 ·obtain⟨q,A,k⟩:=h.fr _ z c;have g:q=f:=by simpa using A
  subst g;have:=k.contra;rw[Z1] at this;exact e.trans this
structure Good (l:List Cl_q1) (n:Nat) (lits:List Int) (vals:List Bool):Prop where
 len:vals.length=n
 sat:mm l vals
 lit: ∀x∈lits,tv vals x=true
structure FirstInv (l:List Cl_q1) (n:Nat) (lits:List Int) (S:List Int) (vs:List Bool):Prop where
 clo:WR l S
 con:Con S
 lit: ∀x∈lits,x∈S
 has: ∀u:Nat,u<vs.length->if vs.getD u false=true then 2*(u:Int)∈S else 2*(u:Int)+1∈S
 tr: ∀vals,Good l n lits vals->(∀u,u<vs.length->vals.getD u false=vs.getD u false)-> ∀x∈S,tv vals x=true
 least: ∀u,u<vs.length->vs.getD u false=true-> ∀vals,Good l n lits vals->(∀w,w<u->vals.getD w false=vs.getD w false)->vals.getD u false=true
theorem xP (L:List Bool) (x d:Bool) (j:Nat):(L++[x]).getD j d=if j<L.length then L.getD j d else if j=L.length then x else d:=by
 exact m6
theorem FirstInv.start {l:List Cl_q1} {n:Nat} {lits S:List Int} (h:Adds l [] S lits) (e: ¬rX [] S):FirstInv l n lits S []:=by refine⟨h.clo (λx a=>by simp at a),h.con (λx a=>by simp at a) e,h.root,λu c=>by simp at c,λf g _=>h.tru g.sat (λx a=>by simp at a) g.lit,λu c=>by simp at c⟩
theorem Iq {l:List Cl_q1} {n:Nat} {lits S:List Int} (h:Adds l [] S lits) (a:rX [] S): ¬ ∃vals,Good l n lits vals:=by rintro⟨vals,g⟩;exact h.no a g.sat (λx c=>by simp at c) g.lit
section
variable {l : List Cl_q1} {n : Nat} {lits S T : List Int} {vs : List Bool}
theorem FirstInv.next (h:FirstInv l n lits S vs) {x:Bool} {r:List Int} (c:Adds l S T r) (E: ¬rX S T)
  (G: ∀vals,Good l n lits vals->(∀u,u<vs.length->vals.getD u false=vs.getD u false)->vals.getD vs.length false=x-> ∀y∈r,tv vals y=true)
  (H:if x=true then 2*(vs.length:Int)∈T else 2*(vs.length:Int)+1∈T)
  (F:x=true-> ∀vals,Good l n lits vals->(∀w,w<vs.length->vals.getD w false=vs.getD w false)->vals.getD vs.length false=true):FirstInv l n lits T (vs++[x]):=by
 have f: ∀u,u<vs.length->(vs++[x]).getD u false=vs.getD u false:=λu a=>by rw[xP,aE a]
 have A:(vs++[x]).getD vs.length false=x:=by rw[xP,aB J,aE rfl]
 refine⟨c.clo h.clo,c.con h.con E,λy K=>c.sub y (h.lit y K),λu a=> ?_,λvals g j=> ?_,λu a t vals g j=> ?_⟩
 ·simp only[bD,gR,pQ] at a;by_cases q:u<vs.length
  ·rw[f u q];have:=h.has u q;split
   ·rename_i e;rw[aE e] at this;exact c.sub _ this
   ·rename_i e;rw[aB e] at this;exact c.sub _ this
  ·obtain rfl:u=vs.length:=J;rw[A];exact H
 ·have C: ∀u,u<vs.length->vals.getD u false=vs.getD u false:=λu a=>by rw[j u jO,f u a]
  have D:vals.getD vs.length false=x:=by rw[j vs.length jS,A]
  exact c.tru g.sat (h.tr vals g C) (G vals g C D)
 ·simp only[bD,gR,pQ] at a;by_cases q:u<vs.length
  ·rw[f u q] at t;exact h.least u q t vals g λw z=>by rw[j w z,f w J]
  ·obtain rfl:u=vs.length:=J;rw[A] at t;exact F t vals g λw z=>by rw[j w z,f w z]
theorem FirstInv.known (h:FirstInv l n lits S vs) (f:2*(vs.length:Int)∈S\/2*(vs.length:Int)+1∈S):FirstInv l n lits S (vs++[decide (2*(vs.length:Int)∈S)]):=by
 refine h.next (Adds.refl l S) (yU S) (λe g c _ y q=>by simp at q) ?_ λj e g c=> ?_
 ·by_cases a:2*(vs.length:Int)∈S
  ·rw[gH a,aE rfl];exact a
  ·rw[gZ a,aB jD];exact f.resolve_left a
 ·rw[aM] at j;rw[<-D9];exact h.tr e g c _ j
theorem FirstInv.no (h:FirstInv l n lits S vs) (a:Adds l S T [2*(vs.length:Int)+1]) (c: ¬rX S T):FirstInv l n lits T (vs++[false]):=by
 refine h.next a c (λt g j e y f=> ?_) (by rw[aB jD];exact a.root _ jS) λq=>by cases q
 have:y=2*(vs.length:Int)+1:=by simpa using f
 rw[this,ig,e];rfl
theorem FirstInv.yes (h:FirstInv l n lits S vs) {f:List Int} (w:Adds l S f [2*(vs.length:Int)+1]) (t:rX S f) (q:Adds l S T [2*(vs.length:Int)]) (x: ¬rX S T):FirstInv l n lits T (vs++[true]):=by
 refine h.next q x (λe g j a y c=> ?_) (by rw[aE rfl];exact q.root _ jS) λ_ e g j=> ?_
 ·have:y=2*(vs.length:Int):=by simpa using c
  rw[this,D9,a]
 ·cases a:e.getD vs.length false with
  |true=>rfl
  |false=>
   exact(w.no t g.sat (h.tr e g j) λy c=>by
    have:y=2*(vs.length:Int)+1:=(by simpa using c);rw[this,ig,a];rfl).elim
def aHe (S:List Int) (n:Nat) (vals:List Bool):List Bool:=(List.range n).map λu:Nat=>decide (2*(u:Int)∈S)||(!decide (2*(u:Int)+1∈S)&&vals.getD u false)
theorem Ug {S:List Int} {n:Nat} {vals:List Bool} {u:Nat} (a:u<n):(aHe S n vals).getD u false=(decide (2*(u:Int)∈S)||(!decide (2*(u:Int)+1∈S)&&vals.getD u false)):=by unfold aHe;simp[List.getD,a]
theorem Dg (f:Con S) {vals:List Bool} {x:Int} (g:0<=x/\x<2*n):tv (aHe S n vals) x=(decide (x∈S)||(!decide (wZ x∈S)&&tv vals x)):=by
 obtain⟨u,c⟩: ∃u:Nat,u<n/\(x=2*(u:Int)\/x=2*(u:Int)+1):=⟨(x/2).toNat,J,J⟩;rcases c with ⟨c,rfl|rfl⟩
 ·rw[D9,D9,Ug c,i4]
 ·rw[ig,ig,Ug c,pi];by_cases a:2*(u:Int)∈S
  ·have:2*(u:Int)+1∉S:=by have:=f _ a;rwa [i4] at this
   simp[a,this]
  ·by_cases e:2*(u:Int)+1∈S
   ·simp[a,e]
   ·simp[a,e]
theorem Xu (A:lN n l) (k:WR l S) (c:Con S) (q: ∀x∈lits,x∈S) (C: ∀x∈S,0<=x/\x<2*(n:Int)) {vals:List Bool} (g:Good l n lits vals):Good l n lits (aHe S n vals)/\ ∀x∈S,tv (aHe S n vals) x=true:=by
 have f: ∀x∈S,tv (aHe S n vals) x=true:=λx a=>by rw[Dg c (C x a),gH a];rfl
 refine⟨⟨by simp[aHe],mm.of_ed λx y e a=> ?_,λx a=>f x (q x a)⟩,f⟩;obtain⟨w,z⟩:=e.ok A;rw[Dg c w] at a;rw[Dg c z];by_cases j:x∈S
 ·rw[gH (k x j y e)];rfl
 ·rw[gZ j,xH,aW,dQ,bH] at a;have t:wZ y∉S:=λh=>a.1 (k _ h _ e.contra);rw[gZ t,e.tru g.sat a.2];simp
theorem FirstInv.fail (h:FirstInv l n lits S vs) (z:lN n l) (A: ∀x∈S,0<=x/\x<2*(n:Int)) {e:List Int} (q:Adds l S e [2*(vs.length:Int)+1]) (k:rX S e) (t:Adds l S T [2*(vs.length:Int)]) (w:rX S T): ¬ ∃vals,Good l n lits vals:=by
 rintro⟨vals,g⟩;obtain⟨f,c⟩:=Xu z h.clo h.con h.lit A g;cases j:(aHe S n vals).getD vs.length false with
 |true=>
  refine t.no w f.sat c λy a=> ?_;have:y=2*(vs.length:Int):=by simpa using a
  rw[this,D9,j]
 |false=>
  refine q.no k f.sat c λy a=> ?_;have:y=2*(vs.length:Int)+1:=by simpa using a
  rw[this,ig,j];rfl
theorem FirstInv.good (h:FirstInv l n lits S vs) (A:lN n l) (q:vs.length=n) (t: ∀x∈lits,0<=x/\x<2*(n:Int)):Good l n lits vs:=by
 have g: ∀x,0<=x/\x<2*(n:Int)->(tv vs x=true↔x∈S):=by
  intro x f;obtain⟨u,j⟩: ∃u:Nat,u<n/\(x=2*(u:Int)\/x=2*(u:Int)+1):=⟨(x/2).toNat,J,J⟩;have a:=h.has u J;rcases j with ⟨j,rfl|rfl⟩
  ·rw[D9];cases c:vs.getD u false with
   |true=>rw[c,aE rfl] at a;simp[a]
   |false=>rw[c,aB jD] at a;have:=h.con _ a;rw[pi] at this;simp[this]
  ·rw[ig];cases c:vs.getD u false with
   |true=>rw[c,aE rfl] at a;have:=h.con _ a;rw[i4] at this;simp[this]
   |false=>rw[c,aB jD] at a;simp[a]
 refine⟨q,mm.of_ed λx y e f=> ?_,λx f=>(g x (t x f)).2 (h.lit x f)⟩;obtain⟨w,z⟩:=e.ok A;exact(g y z).2 (h.clo x ((g x w).1 f) y e)
end
structure IsFirst (l:List Cl_q1) (n:Nat) (lits:List Int) (vs:List Bool):Prop where
 good:Good l n lits vs
 least: ∀u,u<n->vs.getD u false=true-> ∀vals,Good l n lits vals->(∀w,w<u->vals.getD w false=vs.getD w false)->vals.getD u false=true
theorem FirstInv.isFirst {l:List Cl_q1} {n:Nat} {lits S:List Int} {vs:List Bool} (h:FirstInv l n lits S vs) (e:lN n l) (a:vs.length=n) (c: ∀x∈lits,0<=x/\x<2*(n:Int)):IsFirst l n lits vs:=
 ⟨h.good e a c,λu f=>h.least u J⟩
theorem IsFirst.unique {l:List Cl_q1} {n:Nat} {lits:List Int} {a b:List Bool} (e:IsFirst l n lits a) (h:IsFirst l n lits b):a=b:=by
 have x: ∀u,u<n->(∀w,w<u->a.getD w false=b.getD w false)->a.getD u false=b.getD u false:=by
  intro u j f;cases c:a.getD u false with
  |true=>exact(e.least u j c b h.good λw t=>(f w t).symm).symm
  |false=>
   cases g:b.getD u false with
   |false=>rfl
   |true=>rw[h.least u j g a e.good f] at c;cases c
 have q: ∀u,u<n->a.getD u false=b.getD u false:=by
  intro u
  induction u using Nat.strongRecOn with
  |_ u z=>exact λj=>x u j λw f=>z w f J
 refine iV (e.good.len.trans h.good.len.symm) λu c g=> ?_;have:=q u (by rw[<-e.good.len];exact c);simpa [List.getD,c,g] using this
theorem vZ: ∀{m:Nat} {l:List Int},l.Nodup->(∀x∈l,0<=x/\x<m)->l.length<=m
 |0,l,_,c=>by
  cases l with
  |nil=>simp
  |cons a r=>have:=c a jS;omega
 |m+1,l,h,c=>by
  by_cases g:(m:Int)∈l
  ·have j:=vZ (m:=m) (h.erase (m:Int)) λx f=>by have n:=(List.Nodup.mem_erase_iff h).1 f;have:=c x n.2;omega
   rw[vP g] at j;omega
  ·have:=vZ (m:=m) h λx f=>by have:=c x f;have:x≠m:=λe=>g (e▸f);omega
   omega
theorem tQ {l:List Int} {k:Nat} (h:k<l.length):l.getD k 0∈l:=by simp[List.getD,h]
theorem N1 {l:List Int} (h:l.Nodup) {i j:Nat} (hi:i<l.length) (a:j<l.length) (e:l.getD i 0=l.getD j 0):i=j:=by simp only[List.getD,bL hi,bL a,rN] at e;exact(p5 h).1 e
theorem tR {l:List Int} {x:Int} (h:x∈l): ∃k,k<l.length/\l.getD k 0=x:=by obtain⟨k,a,e⟩:=cU h;exact⟨k,a,by simp[List.getD,a,e]⟩
def aIw (l:List Cl_q1) (n:Int) (c:List Int) (i:Nat):Bool:=(decide (0<=c.getD i 0)&&decide (c.getD i 0<2*n))&&decide (c.getD ((i+1)% c.length) 0∈lA l (c.getD i 0))
def WS (l:List Cl_q1) (n:Int) (c:List Int):Bool:=
 (decide (1<=c.length)&&decide ((c.length:Int)<=4*n))&&((List.range c.length).all (aIw l n c)&&(List.range c.length).any λi=>decide (wZ (c.getD i 0)∈c))
structure RefP (l:List Cl_q1) (n:Int) (c:List Int):Prop where
 one:1<=c.length
 len:(c.length:Int)<=4*n
 rng: ∀i,i<c.length->0<=c.getD i 0/\c.getD i 0<2*n
 ed: ∀i,i<c.length->Ed l (c.getD i 0) (c.getD ((i+1)% c.length) 0)
 both: ∃i,i<c.length/\wZ (c.getD i 0)∈c
theorem EW {l:List Cl_q1} {n:Int} {c:List Int}:WS l n c=true↔RefP l n c:=by
 unfold WS aIw;simp only[aW,aM,fU,kC,fO];constructor
 ·rintro⟨⟨f,g⟩,e,h⟩;exact⟨f,g,λi a=>(e i a).1,λi a=>(e i a).2,h⟩
 ·rintro⟨f,g,e,h,j⟩;exact⟨⟨f,g⟩,λi a=>⟨e i a,h i a⟩,j⟩
theorem RefP.around {l:List Cl_q1} {n:Int} {c:List Int} (h:RefP l n c) {vals:List Bool} (a:mm l vals) {i:Nat} (hi:i<c.length) (e:tv vals (c.getD i 0)=true): ∀d,tv vals (c.getD ((i+d)% c.length) 0)=true
 |0=>by rw[iL,kD hi];exact e
 |d+1=>by
  have f:=h.around a hi e d;have g:=(h.ed ((i+d)% c.length) (tZ _ J)).tru a f
  rwa [Nat.mod_add_mod] at g
theorem RefP.all {l:List Cl_q1} {n:Int} {c:List Int} (h:RefP l n c) {vals:List Bool} (f:mm l vals) {i:Nat} (hi:i<c.length) (g:tv vals (c.getD i 0)=true) {x:Int} (j:x∈c):tv vals x=true:=by
 obtain⟨k,a,rfl⟩:=tR j;have:=h.around f hi g (c.length-i+k);have e:(i+(c.length-i+k))% c.length=k:=by
  have:i+(c.length-i+k)=c.length+k:=J
  rw[this,Nat.add_mod_left,kD a]
 rwa [e] at this
theorem RefP.no {l:List Cl_q1} {n:Int} {c:List Int} (h:RefP l n c) (vals:List Bool): ¬mm l vals:=by
 intro j;obtain⟨i,f,g⟩:=h.both;cases a:tv vals (c.getD i 0) with
 |true=>have:=h.all j f a g;rw[T8,a] at this;cases this
 |false=>
  obtain⟨k,t,e⟩:=tR g;have q:tv vals (c.getD k 0)=true:=by rw[e,T8,a];rfl
  have:=h.all j t q (tQ f);rw[a] at this;cases this
structure PathOk (l:List Cl_q1) (a b:Int) (p:List Int):Prop where
 pos:0<p.length
 head:p.getD 0 0=a
 ed: ∀i,i+1<p.length->Ed l (p.getD i 0) (p.getD (i+1) 0)
 last:Ed l (p.getD (p.length-1) 0) b
 nodup:p.Nodup
theorem PathOk.src {l:List Cl_q1} {a b:Int} {p:List Int} (h:PathOk l a b p) {i:Nat} (hi:i<p.length): ∃y,Ed l (p.getD i 0) y:=by
 by_cases c:i+1<p.length
 ·exact⟨_,h.ed i c⟩
 ·have:i=p.length-1:=J
  subst this;exact⟨_,h.last⟩
theorem PathOk.rng {l:List Cl_q1} {a b n:Int} {p:List Int} (c:lN n l) (h:PathOk l a b p) {i:Nat} (hi:i<p.length):0<=p.getD i 0/\p.getD i 0<2*n:=by obtain⟨y,e⟩:=h.src hi;exact(e.ok c).1
theorem PathOk.len {l:List Cl_q1} {a b:Int} {n:Nat} {p:List Int} (e:lN n l) (h:PathOk l a b p):p.length<=2*n:=by refine vZ (m:=2*n) h.nodup λx f=> ?_;obtain⟨k,c,rfl⟩:=tR f;have:=h.rng e c;omega
theorem sM (p q:List Int) (i:Nat):(p++q).getD i 0=if i<p.length then p.getD i 0 else q.getD (i-p.length) 0:=by
 simp only[List.getD];split
 ·rename_i h;rw[fB h]
 ·rename_i h;rw[gJ J]
theorem Dh {l:List Cl_q1} {n:Nat} {a:Int} {p q:List Int} (g:lN n l) (c:PathOk l a (wZ a) p) (f:PathOk l (wZ a) a q):RefP l n (p++q):=by
 have j:=c.pos;have z:=f.pos;have x:(p++q).length=p.length+q.length:=bD;refine⟨J,?_,λi A=> ?_,λi A=> ?_,⟨0,J,?_⟩⟩
 ·have:=c.len g;have:=f.len g;rw[x];omega
 ·rw[sM];split
  ·rename_i h;exact c.rng g h
  ·exact f.rng g J
 ·rw[sM];by_cases t:i+1<p.length
  ·rw[aE J,kD J,sM,aE t];exact c.ed i t
  ·by_cases w:i<p.length
   ·have:i=p.length-1:=J;subst this;rw[aE w,kD J,sM,aB J];have e:p.length-1+1-p.length=0:=J
    rw[e,f.head];exact c.last
   ·rw[aB w];by_cases C:i+1<p.length+q.length
    ·rw[kD J,sM,aB J];have e:i+1-p.length=i-p.length+1:=J
     rw[e];exact f.ed (i-p.length) J
    ·have e:i+1=(p++q).length:=J;rw[e,Nat.mod_self,sM,aE j,c.head];have e:i-p.length=q.length-1:=J
     rw[e];exact f.last
 ·rw[sM,aE j,c.head,cR];refine .inr ?_;rw[<-f.head];exact tQ z
theorem Rc.last {l:List Cl_q1} {a b:Int} (h:Rc l a b) (c:a≠b): ∃x,Rc l a x/\Ed l x b:=by
 cases h with
 |refl=>exact absurd rfl c
 |step h e=>exact⟨_,h,e⟩
def si (l:List Cl_q1) (a b:Int):Option (List Int)->Prop
 |some p=>PathOk l a b p
 |none=> ∀x,Rc l a x-> ¬Ed l x b
theorem FirstInv.both {l:List Cl_q1} {n:Nat} {j S T c:List Int} {a:List Bool} (h:FirstInv l n j S a) (q:Adds l S c [2*(a.length:Int)+1]) (k:rX S c) (t:Adds l S T [2*(a.length:Int)]) (w:rX S T)
  (g: ¬(2*(a.length:Int)∈S\/2*(a.length:Int)+1∈S)):Rc l (2*(a.length:Int)) (2*(a.length:Int)+1)/\Rc l (2*(a.length:Int)+1) (2*(a.length:Int)):=by
 have e:=t.back w h.clo (by rw[i4];exact λh=>g (.inr h));have f:=q.back k h.clo (by rw[pi];exact λh=>g (.inl h));rw[i4] at e;rw[pi] at f;exact⟨e,f⟩
abbrev LI:=List (Int×Int)
def jW (L:LI) (j:Nat):Int:=(L.getD j (0,0)).1
def G3 (L:LI) (j:Nat):Int:=(L.getD j (0,0)).2
def oZ (L:LI):List Int:=L.map (·.1)
theorem wL (L:LI):(oZ L).length=L.length:=by simp[oZ]
theorem s6 (L:LI) (j:Nat) (h:j<L.length):(oZ L).getD j 0=jW L j:=by unfold oZ jW;simp[List.getD,h]
theorem sj {L:LI} {j:Nat} (h:j<L.length):jW L j∈oZ L:=by rw[<-s6 L j h];exact tQ (by rw[wL];exact h)
theorem Ir {L:LI} (c:(oZ L).Nodup) {i j:Nat} (hi:i<L.length) (a:j<L.length) (h:jW L i=jW L j):i=j:=by rw[<-s6 L i hi,<-s6 L j a] at h;exact N1 c (by rw[wL];exact hi) (by rw[wL];exact a) h
theorem sk {L:LI} {v:Int} (h:v∈oZ L): ∃j,j<L.length/\jW L j=v:=by obtain⟨j,a,e⟩:=tR h;rw[wL] at a;exact⟨j,a,by rw[<-s6 L j a,e]⟩
theorem s7 {L:LI} {x:Int×Int} {j:Nat} (h:j<L.length):jW (L++[x]) j=jW L j/\G3 (L++[x]) j=G3 L j:=by unfold jW G3;simp[List.getD,fB h]
theorem Is {L:LI} {x:Int×Int}:jW (L++[x]) L.length=x.1/\G3 (L++[x]) L.length=x.2:=by unfold jW G3;simp[List.getD]
theorem Z2 {L:LI} {x:Int×Int}:oZ (L++[x])=oZ L++[x.1]:=by simp[oZ]
structure Bf (l:List Cl_q1) (a b:Int) (L:LI) (p:Nat):Prop where
 nodup:(oZ L).Nodup
 pos:0<L.length
 head:jW L 0=a
 par: ∀j,0<j->j<L.length-> ∃q,q<j/\jW L q=G3 L j/\Ed l (G3 L j) (jW L j)
 done: ∀q,q<p-> ∀y,Ed l (jW L q) y->y∈oZ L/\y≠b
 le:p<=L.length
theorem Bf.init (l:List Cl_q1) (a b:Int):Bf l a b [(a,a)] 0:=
 ⟨by simp[oZ],jS,rfl,λj e c=>by simp at c;omega,λq h=>J,J⟩
structure BfJ (l:List Cl_q1) (a b:Int) (p:Nat) (x:Int) (L:LI) (k:Nat):Prop where
 bf:Bf l a b L p
 lt:p<L.length
 here:jW L p=x
 part: ∀y∈(lA l x).take k,y∈oZ L/\y≠b
section
variable {l : List Cl_q1} {a b x : Int} {p k : Nat} {L : LI}
theorem zh {o:List Int} {i:Int} (a:k<o.length) (h:i∈o.take (k+1)):i∈o.take k\/i=o.getD k 0:=by
 rw[bS a,cR,bV] at h;rcases h with h|h
 ·exact .inl h
 ·right;rw[h];simp[List.getD,a]
theorem BfJ.skip (h:BfJ l a b p x L k) (f:k<(lA l x).length) (e:(lA l x).getD k 0≠b) (g:(lA l x).getD k 0∈oZ L):BfJ l a b p x L (k+1):=
 ⟨h.bf,h.lt,h.here,λi c=>by
  rcases zh f c with c|rfl
  ·exact h.part i c
  ·exact⟨g,e⟩⟩
theorem BfJ.add (h:BfJ l a b p x L k) (n:k<(lA l x).length) (F:(lA l x).getD k 0≠b) (G:(lA l x).getD k 0∉oZ L):BfJ l a b p x (L++[((lA l x).getD k 0,x)]) (k+1):=by
 have c:=h.bf;have N:(L++[((lA l x).getD k 0,x)]).length=L.length+1:=jS
 refine⟨⟨?_,J,?_,λj E M=> ?_,λq t y e=> ?_,by have:=c.le;omega⟩,by have:=h.lt;omega,?_,λi f=> ?_⟩
 ·rw[Z2,iI];refine⟨c.nodup,jS,?_⟩;intro u H y w;simp at w;subst w;rintro rfl;exact G H
 ·rw[(s7 c.pos).1,c.head]
 ·by_cases g:j<L.length
  ·rw[(s7 g).1,(s7 g).2];obtain⟨q,A,C,D⟩:=c.par j E g;exact⟨q,A,by rw[(s7 J).1];exact C,D⟩
  ·have z:j=L.length:=J;subst z;rw[Is.1,Is.2];refine⟨p,h.lt,by rw[(s7 h.lt).1,h.here],tQ n⟩
 ·have K:=c.le;rw[(s7 J).1] at e;rw[Z2];exact⟨iE _ (c.done q t y e).1,(c.done q t y e).2⟩
 ·rw[(s7 h.lt).1,h.here]
 ·rw[Z2];rcases zh n f with f|rfl
  ·exact⟨iE _ (h.part i f).1,(h.part i f).2⟩
  ·exact⟨jS,F⟩
theorem Bf.start (h:Bf l a b L p) (e:p<L.length):BfJ l a b p (jW L p) L 0:=⟨h,e,rfl,λi c=>by simp at c⟩
theorem BfJ.fin (h:BfJ l a b p x L (lA l x).length):Bf l a b L (p+1):=by
 have c:=h.bf;refine⟨c.nodup,c.pos,c.head,c.par,λq g y e=> ?_,h.lt⟩;by_cases f:q<p
 ·exact c.done q f y e
 ·obtain rfl:q=p:=J
  rw[h.here] at e;exact h.part y (by rw[eJ];exact e)
theorem Bf.none (h:Bf l a b L L.length):si l a b none:=by
 have g: ∀x,Rc l a x->x∈oZ L:=by
  intro x f
  induction f with
  |refl=>
   have:=sj h.pos
   rwa [h.head] at this
  |step _ e k=>obtain⟨j,c,rfl⟩:=sk k;exact(h.done j c _ e).1
 intro x f e;obtain⟨j,c,rfl⟩:=sk (g x f);exact(h.done j c _ e).2 rfl
structure Bk (l:List Cl_q1) (a b:Int) (L:LI) (out:List Int) (j:Nat):Prop where
 lt:j<L.length
 pos:0<out.length
 last:out.getD (out.length-1) 0=jW L j
 head:Ed l (out.getD 0 0) b
 ed: ∀i,i+1<out.length->Ed l (out.getD (i+1) 0) (out.getD i 0)
 nd:out.Nodup
 ix: ∀y∈out,∃i,j<=i/\i<L.length/\jW L i=y
theorem Bk.init (c:p<L.length) (e:Ed l (jW L p) b):Bk l a b L [jW L p] p:=
 ⟨c,jS,rfl,e,λi f=>by simp at f,jS,λy g=>⟨p,aG _,c,(bV.1 g).symm⟩⟩
theorem Bk.next {q j:Nat} {f:List Int} (x:Bf l a b L q) (h:Bk l a b L f j) (A:jW L j≠a): ∃j',j'<j/\jW L j'=G3 L j/\Bk l a b L (f++[G3 L j]) j':=by
 have C:0<j:=by
  rcases g9 j with rfl|E
  ·exact absurd x.head A
  ·exact E
 obtain⟨j',F,g,G⟩:=x.par j C h.lt;have M:=h.lt;have z:=h.pos;refine⟨j',F,g,J,jS,?_,?_,λi H=> ?_,?_,λy c=> ?_⟩
 ·rw[sM];simp[g]
 ·rw[sM,aE z];exact h.head
 ·simp only[bD,gR,pQ] at H;rw[sM,sM];by_cases w:i+1<f.length
  ·rw[aE w,aE J];exact h.ed i w
  ·have:i=f.length-1:=J;subst this;rw[aB w,aE J,h.last];have e:f.length-1+1-f.length=0:=J
   rw[e];exact G
 ·rw[iI];refine⟨h.nd,jS,?_⟩;intro u K y c;simp at c;subst c;rintro rfl;obtain⟨i,D,n,t⟩:=h.ix _ K;have:=Ir x.nodup n J (t.trans g.symm);omega
 ·rcases cR.1 c with c|c
  ·obtain⟨i,D,n,t⟩:=h.ix y c;exact⟨i,J,n,t⟩
  ·exact⟨j',aG _,J,by rw[g];exact(bV.1 c).symm⟩
theorem N2 {o:List Int} {i:Nat} (hi:i<o.length):o.reverse.getD i 0=o.getD (o.length-1-i) 0:=by
 have a:o.length-1-i<o.length:=J
 simp[List.getD,List.getElem?_reverse hi,a]
theorem Bk.fin {j:Nat} {c:List Int} (h:Bk l a b L c j) (n:jW L j=a):si l a b (some c.reverse):=by
 have f:=h.pos;refine⟨by simpa using f,?_,λi g=> ?_,?_,List.pairwise_reverse.2 (h.nd.imp λh=>iS h)⟩
 ·rw[N2 f,rQ,h.last,n]
 ·rw[sC] at g;rw[N2 J,N2 g];have:=h.ed (c.length-1-(i+1)) J;have e:c.length-1-(i+1)+1=c.length-1-i:=J
  rwa [e] at this
 ·rw[sC,N2 J];have e:c.length-1-(c.length-1)=0:=J
  rw[e];exact h.head
end
end Go.Proofs.YtpnjmojpeaegoaaGreatDoor.Sb
namespace Go.Proofs.YtpnjmojpeaegoaaGreatDoor.Sb
open Classical in
theorem Uh {l:List Cl_q1} {n:Nat} (q:lN n l) (S:List Int) {r:Int} (h:0<=r/\r<2*(n:Int)): ∃T,Adds l S T [r]:=by
 have g: ∀{x:Int},0<=x/\x<2*(n:Int)->Rc l r x->x∈S++(((List.range (2*n)).map λi:Nat=>(i:Int)).filter λx=>decide (Rc l r x)):=by intro x a j;refine tL _ (eC.2 ⟨fL.2 ⟨x.toNat,fO.2 J,J⟩,by simpa using j⟩)
 have f: ∀{x:Int},x∈S++(((List.range (2*n)).map λi:Nat=>(i:Int)).filter λx=>decide (Rc l r x))->x∉S->Rc l r x:=by intro x a c;have:=(cR.1 a).resolve_left c;simpa using(eC.1 this).2
 refine⟨S++(((List.range (2*n)).map λi:Nat=>(i:Int)).filter λx=>decide (Rc l r x)),λx a=>iE _ a,λx a=> ?_,λx a c y e=> ?_,λx a c=>⟨r,jS,f a c⟩⟩
 ·rw[bV.1 a];exact g h (.refl _)
 ·exact g (e.ok q).2 (.step (f a c) e)
theorem Pb {l:List Cl_q1} {n:Nat} (j:lN n l) (h: ¬ ∃vals,Good l n [] vals): ∃v:Nat,v<n/\Rc l (2*(v:Int)) (2*(v:Int)+1)/\Rc l (2*(v:Int)+1) (2*(v:Int)):=by
 refine oH λE=>h ?_;have A: ∀k,k<=n-> ∃S a,a.length=k/\FirstInv l n [] S a:=by
  intro k
  induction k with
  |zero=>exact λ_=>⟨[],[],rfl,FirstInv.start (Adds.refl l []) (yU [])⟩
  |succ k D=>
   intro F;obtain⟨S,a,g,c⟩:=D J;subst g;by_cases q:2*(a.length:Int)∈S\/2*(a.length:Int)+1∈S
   ·exact⟨S,_,jS,c.known q⟩
   ·obtain⟨t,f⟩:=Uh j S (r:=2*(a.length:Int)+1) J;by_cases e:rX S t
    ·obtain⟨T,w⟩:=Uh j S (r:=2*(a.length:Int)) J;by_cases z:rX S T
     ·exact absurd ⟨a.length,J,c.both f e w z q⟩ E
     ·exact⟨T,_,jS,c.yes f e w z⟩
    ·exact⟨t,_,jS,c.no f e⟩
 obtain⟨S,a,g,c⟩:=A n (aG _);exact⟨a,c.good j g λx C=>by simp at C⟩
theorem si.some_of {l:List Cl_q1} {a b:Int} (c:a≠b) (h:Rc l a b) {y:Option (List Int)} (g:si l a b y): ∃p,y=some p:=by
 cases y with
 |some p=>exact⟨p,rfl⟩
 |none=>obtain⟨x,e,f⟩:=h.last c;exact absurd f (g x e)
end Go.Proofs.YtpnjmojpeaegoaaGreatDoor.Sb
