/-
  TopDelivered returns true whatever the input, and the input reads behind the call as it read before, where the three listed tables of Go's library hold what the program's text lays: a part of the proof.
-/
import Derived.Shelf.SortM.Plain
import Derived.Shelf.SortM.SortNone
import Derived.Shelf.Slices.CompactI
import Derived.Test.YtpnjmojpeaegoaaGreatDoorN19
set_option linter.unusedSimpArgs false
set_option linter.unusedVariables false
set_option maxRecDepth 100000
set_option maxHeartbeats 0
namespace Go.Proofs.YtpnjmojpeaegoaaGreatDoor.Sa
open Go.Eng
theorem RetIs.soI {k:IntKind} {c d:Int} {e sz n n':Nat} {get a:Nat->List AV} {id nid:Nat} {O:List OE} (hg:fK id O=some ([],.row e sz n' a)) (h:n'=n) (hget: ∀k,k<n->a k=get k) (g: ∀k,k<n->AV.freshs (get k)=true) (f:d=c):
  RetIs [.row e sz n get] (.tup [.so 0,.i k c]) (.tup [.so id,.i k d]) O nid:=by
 subst h;subst f;refine⟨[(0,id)],⟨⟨⟨rfl,rfl,?_⟩,trivial⟩,⟨⟨rfl,rfl,trivial,?_⟩,trivial⟩,rfl⟩,rfl,g⟩
 ·exact rfl
 ·exact mH
def U7 (l:List Ver) (k:Nat):Int:=if k=0 then 0 else(l.getD (k-1) dV).step
def Zv (l:List Ver) (j:Nat):Bool:=l5 (l.getD j dV)&& !decide ((l.getD j dV).step<U7 l j)
def okV (l:List Ver):Bool:=(List.range l.length).all (Zv l)
theorem YQ {a b:Bool} (h:(!a||b)=true):(a&& !b)=false:=by cases a<;>cases b<;>first|rfl|cases h
theorem aDq {a b:Bool} (h:(!a||b)=false):(a&& !b)=true:=by cases a<;>cases b<;>first|rfl|cases h
theorem HU {l:List Ver} (h: ∀j,j<l.length->Zv l j=true):okV l=true:=by unfold okV;rw[fU];intro j a;exact h j (fO.1 a)
theorem Zw {l:List Ver} {j:Nat} (a:j<l.length) (h:Zv l j=false):okV l=false:=by unfold okV;rw[oQ];exact⟨j,fO.2 a,by rw[h];simp⟩
def addV (l:List Ver) (v:Ver):List Ver×Int:=
 if(!l5 v||decide (l.length>50000))=true then([],1) else
 if okV l=false then([],1) else
 if v.step<U7 l l.length then([],15) else
 if l.length=50000 then([],6) else(l++[v],0)
theorem aDr (l:List Ver) (v:Ver): ∀k,k<(l++[v]).length->iJ l.length (rowsV l) (kJ 3 v.av) k=rowsV (l++[v]) k:=by
 intro k hk;unfold iJ rowsV;by_cases h:k<l.length
 ·exact nE
 ·exact nO
theorem AddV_fn (l:List Ver) (G:l.length<2^62) (v:Ver):cC 124 [.rs 3 l.length (rowsV l),.ag v.av] [.row 104 3 (addV l v).1.length (rowsV (addV l v).1)] (.tup [.so 0,.I (addV l v).2]):=by
 refine hZ Tryz.func124 [.tmp 4,.tmp 5] [(999999,[.nl 4 104 3]),(2000015,[.frz 0 [0]])] ?_;refine .inl (.inl ⟨[],_,Ag v,⟨λh=> ?_,λh=> ?_⟩⟩)
 ·have h:(!l5 v||decide ((l.length:Int)>50000))=true:=h;have h:(!l5 v||decide (l.length>50000))=true:=by
   cases t:l5 v
   ·rfl
   ·simp[t] at h|-;omega
  have e:addV l v=([],1):=by unfold addV;rw[aE h]
  rw[e];exact RetIs.soI rfl rfl (λk hk=>jk) (λk hk=>jk) rfl
 have h:(!l5 v||decide ((l.length:Int)>50000))=false:=h;have x:l5 v=true:=by
  cases t:l5 v
  ·simp[t] at h
  ·rfl
 have F:l.length<=50000:=by simp[x] at h;omega
 have f: ¬(!l5 v||decide (l.length>50000))=true:=by simp[x];omega
 refine .inl ⟨[],Nat,λk=>k<=l.length/\ ∀j,j<k->Zv l j=true,λk=>[⟨19,[],.I k⟩,⟨6,[],.I (U7 l k)⟩],λ_=>[],λk=>l.length-k,
  ⟨0,[],⟨bI _,λj E=>J⟩,rfl,rfl,rfl,rfl,rfl,⟨nT,rfl,rfl⟩,trivial⟩,?_⟩
 rintro k ⟨hk,w⟩;refine .inl ⟨λq=> ?_,λq=> ?_⟩
 ·have q:=pH q;refine .inl ⟨⟨J,J⟩,.inl (.inl ⟨[],_,Ag (l.getD (k:Int).toNat dV),⟨λa=> ?_,λa=> ?_⟩⟩)⟩
  ·have a:(!l5 (l.getD (k:Int).toNat dV)||decide ((l.getD (k:Int).toNat dV).step<U7 l k))=true:=a;rw[aQ] at a;have n:Zv l k=false:=YQ a;have e:addV l v=([],1):=by unfold addV;rw[aB f,aE (Zw J n)]
   rw[e];exact RetIs.soI rfl rfl (λk hk=>jk) (λk hk=>jk) rfl
  ·have a:(!l5 (l.getD (k:Int).toNat dV)||decide ((l.getD (k:Int).toNat dV).step<U7 l k))=false:=a;rw[aQ] at a;have n:Zv l k=true:=aDq a;have e:U7 l (k+1)=(l.getD (k:Int).toNat dV).step:=by simp[U7]
   refine⟨k+1,[],⟨J,λj E=> ?_⟩,jM,rfl,rfl,rfl,rfl,rfl,⟨nV,rfl,e.symm⟩,trivial⟩;by_cases z:j=k
   ·rw[z];exact n
   ·exact w j J
 ·have q:=iT q;have A:k=l.length:=J
  subst A;have D:=HU w;have g: ¬okV l=false:=by rw[D];simp
  refine .inl ⟨λa=> ?_,λa=> ?_⟩
  ·have e:addV l v=([],15):=by unfold addV;rw[aB f,aB g,aE (pH a)]
   rw[e];exact RetIs.soI rfl rfl (λk hk=>jk) (λk hk=>jk) rfl
  have a:=iT a;refine .inl ⟨λc=> ?_,λc=> ?_⟩
  ·have c:((l.length:Int)==50000)=true:=c;simp at c;have e:addV l v=([],6):=by unfold addV;rw[aB f,aB g,aB J,aE J]
   rw[e];exact RetIs.soI rfl rfl (λk hk=>jk) (λk hk=>jk) rfl
  have c:((l.length:Int)==50000)=false:=c;simp at c;have e:addV l v=(l++[v],0):=by unfold addV;rw[aB f,aB g,aB J,aB J]
  have C:(l.length+1)*24<=140737488355328:=J
  refine⟨.br 1 (.st 3 2 .leaf) 3 (.st 1 2 .leaf),V,Unit,λ_=>True,Function.const Unit ?_,?_,λ_ _=>⟨?_,?_⟩⟩
  rotate_left
  ·refine⟨?_,?_⟩
   ·refine eX ⟨_,_,cloneV_fn l J,?_⟩;refine⟨(),[],trivial,?_,xI ?_ ?_⟩
    rotate_left
    ·show _=id _;rfl
    ·exact mG
    ·rfl
   ·refine eX ⟨_,_,cloneV_fn l J,?_⟩;refine⟨(),[(1,2),(2,1)],trivial,rfl,?_,?_,rfl⟩<;>(repeat' first|exact rfl|exact trivial|refine⟨?_,?_⟩|intro _ _)
  ·rfl
  refine⟨C,?_⟩;rw[e];exact RetIs.soI rfl jS (aDr l v) (lg _) rfl
theorem keys_fn (L:List (Int×Bool)):cM 284 false [mpIB L] [.mo 0] (λ_:Unit=>True) (λ_=>[mpIB L]) (λ_=>[.cells 152 [.mo 0]]) (λ_=> .fn 331 [.p 1 0]):=by refine sE Tryz.func284 [.tmp 2] [] ?_;exact⟨⟨(),[],trivial,⟨nU,⟨⟨rfl,rfl,trivial,nr⟩,⟨⟨rfl,rfl,rfl,nT⟩,trivial⟩⟩,rfl⟩,rfl,λ_=>⟨rfl,⟨λ_ _=>nT,rfl⟩⟩⟩⟩
theorem keysRow (L:List (Int×Bool)) (i:Nat) (h:i<(iH L).length):(iH L).getD i 0=(L.getD i (0,false)).1:=by
 have a:i<L.length:=by simpa [iH] using h
 simp[iH,List.getD,a]
theorem sorted_fn (e:ie Tryz.prog 283 331 3) (L:List (Int×Bool)) (c: ∀k∈iH L,(Lit.int .i64 k).wf=true) (f:L.length*8<=140737488355328):
  cM 283 false [.cells 152 [.mo 1],mpIB L] [.fn 331 [.p 0 0]] (λ_:Unit=>True) (λ_=>[.cells 152 [.mo 1],mpIB L]) (λ_=>[.row 3 1 L.length (rI (kO (iH L)))]) (λ_=> .so 2):=by
 have a:(iH L).length=L.length:=by simp[iH]
 have h:=yz (mt:=152) e Tryz.underlying3 (iH L) (λi=> .I (L.getD i (0,false)).1) (λi=> .b (L.getD i (0,false)).2) (λi=>i) L.length (λi g=>by rw[keysRow L i g]) c (λ_ _=>rfl) (by rw[a];exact f);rw[a] at h;exact h
theorem mset_len {α a:Type} [DecidableEq α] (L:List (α×a)) (k:α) (v:a):(kE L k v).length<=L.length+1:=by
 induction L with
 |nil=>simp[kE]
 |cons p r c=>
  simp only[kE];split
  ·simp
  ·simp;omega
end Go.Proofs.YtpnjmojpeaegoaaGreatDoor.Sa
namespace Go.Proofs.YtpnjmojpeaegoaaGreatDoor.Sa
open Go.Eng Go.RowKit Go.Maps Go.Sort Go.Shelf
theorem YR (m:Nat):AnyZI.SortsIn Tryz.prog ld Fence.wide m:=
  ⟨λj e a h W g f c=>callsIn_wide.2 (AnyM.slices_Sort_int zy j e a h W g f c),
   λp a W=>callsIn_wide.2 (AnyM.slices_Sort_int_none zy p a W)⟩
theorem sortsKeys:ie Tryz.prog 283 331 3:=by
 refine⟨⟨_,Tryz.func283,V,rfl⟩,λw g b n D L M j z t=> ?_⟩;refine(W4 (R:=λe c=> ∃(v:Value) (a:List Int),e= .returned v/\a.Perm (intKeys D)/\c.ownsRow w.heap.size 3 1 v a.length ((a.mergeSort (λx y=>decide (x<=y))).map encZ)/\Go.RowKit.Below w.heap.size w c) ((callsIn_wide (n:=6)).1 ?_) ?_).mono ?_
 ·have q:SeqGives Fence.wide 3 Tryz.prog 331 #[.pointer (some ⟨g,0,none⟩)] encZ (λa=>a.Perm (intKeys D)) (Maps.size D) w:=
   AnyZI.keys_gives (ρ:=zz) {aDi with} Fence.wide _ trivial rfl J g b n D w L M j
  have f:=AnyZI.sorted_in PS Fence.wide 6 trivial trivial trivial trivial rfl J (YR _) (enters_of Tryz.func219 V rfl) 331 #[.pointer (some ⟨g,0,none⟩)] trivial (enters_of Tryz.func331 V rfl) _ _ z t _ q;change CallsIn _ _ Tryz.prog 283 _ _ _ at f;refine f.mono ?_;rintro e c ⟨v,a,rfl,H,l,_,K⟩;exact⟨v,a,rfl,H,l,K⟩
 ·rintro e c ⟨v,a,rfl,_⟩;exact λh=>jC
 ·rintro e c ⟨⟨v,a,A,C,E,F⟩,G⟩;exact⟨v,a,A,C,E,⟨F,G⟩⟩
end Go.Proofs.YtpnjmojpeaegoaaGreatDoor.Sa
namespace Go.Proofs.YtpnjmojpeaegoaaGreatDoor.Sa
open Go.Eng
structure Hld where
 id:Int
 ev:Int
 fr:Int
 to:Int
def Hld.av (n:Hld):List AV:=[.I n.id,.I n.ev,.I n.fr,.I n.to]
def dH:Hld:=⟨0,0,0,0⟩
def rowsH (l:List Hld) (k:Nat):List AV:=(l.getD k dH).av
theorem QU {l:List Hld} {k:Nat} (h:k<l.length):l.getD k dH=l[k]:=by simp[eR,h]
def aH4 (p:Hld->Bool) (l:List Hld):Int:=match l.findIdx? p with|some k=>k|none=> -1
theorem aHt (p:Hld->Bool) (l:List Hld) (k:Nat) (c:k<l.length) (e: ∀j,j<k->p (l.getD j dH)=false) (a:p (l.getD k dH)=true):aH4 p l=k:=by
 have:l.findIdx? p=some k:=by
  rw[eW];refine⟨c,?_,λj f=> ?_⟩
  ·rw[QU c] at a;exact a
  ·have:=e j f;rw[QU J] at this;simp[this]
 simp[aH4,this]
theorem aIi (p:Hld->Bool) (l:List Hld) (c: ∀j,j<l.length->p (l.getD j dH)=false):aH4 p l= -1:=by
 have:l.findIdx? p=none:=by rw[gF];intro x e;obtain⟨j,a,rfl⟩:=cU e;have:=c j a;rw[QU a] at this;exact this
 simp[aH4,this]
theorem aI1 (p:Hld->Bool) (l:List Hld):decide (aH4 p l>=0)=l.any p:=by
 unfold aH4;cases h:l.findIdx? p with
 |none=>
  rw[gF] at h;have:l.any p=false:=jH
  rw[this];rfl
 |some k=>
  rw[eW] at h;obtain⟨a,c,_⟩:=h;have:l.any p=true:=by rw[kC];exact⟨_,fN a,c⟩
  rw[this];simp
theorem pq (n:Int):cC 218 [.I n] [] (.b (decide (0<=n)&&decide (n<=1073741824))):=by refine hZ Tryz.func218 [.tmp 2] [] ?_;exact RetIs.b rfl
theorem aHu (l:List Hld) (g:l.length<2^62) (a:FuncId) (c:List AV) (p:Hld->Bool) (f: ∀x:Hld,cC a [.ag x.av,.rp c] [] (.b (p x))):
  cC 215 [.rs 4 l.length (rowsH l),.fn a [.rp c]] [] (.I (aH4 p l)):=by
 refine hZ Tryz.func215 [.tmp 4] [] ?_;refine .inl ⟨[],Nat,λk=>k<=l.length/\ ∀j,j<k->p (l.getD j dH)=false,λk=>[⟨8,[],.I k⟩],λ_=>[],λk=>l.length-k,
  na,?_⟩
 intro k e;obtain⟨e,hno⟩:=e;refine .inl ⟨λhc=> ?_,λhc=> ?_⟩
 ·have hc:=pH hc;refine .inl ⟨J,.inl ⟨[],_,f (l.getD k dH),⟨λh=> ?_,λh=> ?_⟩⟩⟩
  ·refine RetIs.i ?_;exact(aHt p l k J hno h).symm
  ·exact mF
 ·exact qT
theorem contains1_fn (l:List Hld) (e:l.length<2^62) (a:FuncId) (c:List AV) (p:Hld->Bool) (f: ∀x:Hld,cC a [.ag x.av,.rp c] [] (.b (p x))):
  cC 125 [.rs 4 l.length (rowsH l),.fn a [.rp c]] [] (.b (l.any p)):=by
 refine hZ Tryz.func125 [.tmp 4] [] ?_;refine .inl ⟨[],_,aHu l e a c p f,?_⟩;exact RetIs.b (aI1 p l)
theorem aIj (l:List Hld) (n:l.length<2^62) (a:FuncId) (c e:List AV) (p:Hld->Bool) (g: ∀x:Hld,cC a [.ag x.av,.rp c,.rp e] [] (.b (p x))):
  cC 215 [.rs 4 l.length (rowsH l),.fn a [.rp c,.rp e]] [] (.I (aH4 p l)):=by
 refine hZ Tryz.func215 [.tmp 4] [] ?_;refine .inl ⟨[],Nat,λk=>k<=l.length/\ ∀j,j<k->p (l.getD j dH)=false,λk=>[⟨8,[],.I k⟩],λ_=>[],λk=>l.length-k,
  na,?_⟩
 intro k f;obtain⟨f,hno⟩:=f;refine .inl ⟨λhc=> ?_,λhc=> ?_⟩
 ·have hc:=pH hc;refine .inl ⟨J,.inl ⟨[],_,g (l.getD k dH),⟨λh=> ?_,λh=> ?_⟩⟩⟩
  ·refine RetIs.i ?_;exact(aHt p l k J hno h).symm
  ·exact mF
 ·exact qT
theorem aI5 (l:List Hld) (f:l.length<2^62) (a:FuncId) (c e:List AV) (p:Hld->Bool) (g: ∀x:Hld,cC a [.ag x.av,.rp c,.rp e] [] (.b (p x))):
  cC 125 [.rs 4 l.length (rowsH l),.fn a [.rp c,.rp e]] [] (.b (l.any p)):=by
 refine hZ Tryz.func125 [.tmp 4] [] ?_;refine .inl ⟨[],_,aIj l f a c e p g,?_⟩;exact RetIs.b (aI1 p l)
theorem HV (h x:Hld):cC 279 [.ag x.av,.rp h.av] [] (.b (x.id==h.id)):=by refine hZ Tryz.func279 [.tmp 3] [] ?_;exact RetIs.b rfl
def heldBy (c a:Int) (h:Hld):Bool:=h.ev==c&&decide (h.fr<=a)&&(h.to== -1||decide (a<h.to))
theorem HW (a c:Int) (x:Hld):cC 308 [.ag x.av,.rp [.I a],.rp [.I c]] [] (.b (heldBy a c x)):=by refine hZ Tryz.func308 [.tmp 4] [] ?_;exact RetIs.b rfl
def Held (l:List Hld) (a c:Int):Bool:=l.any (heldBy a c)
theorem QV (l:List Hld) (e:l.length<2^62) (a c:Int):cC 260 [.rs 4 l.length (rowsH l),.I a,.I c] [] (.b (Held l a c)):=by refine hZ Tryz.func260 [.tmp 6] [] ?_;refine .inl ⟨[],_,aI5 l e 308 _ _ (heldBy a c) (HW a c),?_⟩;exact RetIs.b rfl
def YS (h:Hld):Bool:=decide (h.id<0)||decide (h.ev<0)|| !(decide (0<=h.fr)&&decide (h.fr<=1073741824))
def aIk (h:Hld):Bool:=h.to != -1&&(decide (h.to<h.fr)|| !(decide (0<=h.to)&&decide (h.to<=1073741824)))
def YT (l:List Hld) (j:Nat):Bool:=YS (l.getD j dH)||(l.take j).any λx=>x.id==(l.getD j dH).id
def YU (l:List Hld) (j:Nat):Bool:= !YT l j&& !aIk (l.getD j dH)
def E9 (l:List Hld):Bool:=(List.range l.length).all (YU l)
theorem Kl {l:List Hld} (h: ∀j,j<l.length->YU l j=true):E9 l=true:=by unfold E9;rw[fU];intro j a;exact h j (fO.1 a)
theorem ce {l:List Hld} {j:Nat} (a:j<l.length) (h:YU l j=false):E9 l=false:=by unfold E9;rw[oQ];exact⟨j,fO.2 a,by rw[h];simp⟩
theorem Qs (l:List Hld) (i:Nat) (hi:i<=l.length): ∀k,k<(l.take i).length->rowsH l (Int.toNat 0+k)=rowsH (l.take i) k:=by
 intro k c;have a:k<i:=by simp at c;omega
 have e:Int.toNat 0+k=k:=jS
 rw[e];unfold rowsH;simp only[List.getD];rw[dZ,aE a]
theorem Ah (l:List Hld) (D:l.length<2^62):cC 217 [.rs 4 l.length (rowsH l)] [] (.b (E9 l)):=by
 refine hZ Tryz.func217 [.tmp 2] [] ?_;refine .inl ⟨[],Nat,λk=>k<=l.length/\ ∀j,j<k->YU l j=true,λk=>[⟨8,[],.I k⟩],λ_=>[],λk=>l.length-k,
  na,?_⟩
 rintro k ⟨C,t⟩;refine .inl ⟨λn=> ?_,λn=> ?_⟩
 ·have n:=pH n;refine .inl ⟨⟨J,J⟩,?_⟩
  refine jc (pq _) ?_;have g:(k:Int).toNat=k:=aQ k;have A:cC 125 [.rs 4 ((k:Int)-0).toNat (λq=>rowsH l (Int.toNat 0+q)),.fn 279 [.rp (l.getD (k:Int).toNat dH).av]] [] (.b ((l.take k).any λx=>x.id==(l.getD (k:Int).toNat dH).id)):=
   j8.of_eq (args:=[.rs 4 (l.take k).length (rowsH (l.take k)),.fn 279 [.rp (l.getD (k:Int).toNat dH).av]]) ⟨⟨rfl,jO,Qs l k J⟩,eV.refl _⟩
    (contains1_fn (l.take k) jO 279 _ (λx=>x.id==(l.getD (k:Int).toNat dH).id) (HV (l.getD (k:Int).toNat dH)))
  refine⟨λ_=>⟨J,J,J⟩,?_⟩
  repeat apply jL
  refine⟨[],_,λ_=>A,⟨λe=> ?_,λe=> ?_⟩⟩
  ·have e:(YS (l.getD (k:Int).toNat dH)||(l.take k).any λx=>x.id==(l.getD (k:Int).toNat dH).id)=true:=e;rw[g] at e;refine RetIs.b ?_;rw[ce (j:=k) J (by unfold YU YT;rw[e];rfl)]
  ·have e:(YS (l.getD (k:Int).toNat dH)||(l.take k).any λx=>x.id==(l.getD (k:Int).toNat dH).id)=false:=e;rw[g] at e
   repeat apply jL
   refine⟨[],_,λ_=>pq _,⟨λf=> ?_,λf=> ?_⟩⟩
   ·have f:aIk (l.getD (k:Int).toNat dH)=true:=f;rw[g] at f;refine RetIs.b ?_;rw[ce (j:=k) J (by unfold YU;rw[f];simp)]
   ·have f:aIk (l.getD (k:Int).toNat dH)=false:=f;rw[g] at f;refine⟨k+1,[],⟨J,λj hj=> ?_⟩,jM,rfl,rfl,rfl,rfl,rfl,nV,trivial⟩;by_cases w:j=k
    ·rw[w];unfold YU YT;rw[e,f];rfl
    ·exact t j J
 ·have n:=iT n;have z:k=l.length:=J
  subst z;refine RetIs.b ?_;rw[Kl t]
end Go.Proofs.YtpnjmojpeaegoaaGreatDoor.Sa
namespace Go.Proofs.YtpnjmojpeaegoaaGreatDoor.Sa
open Go.Eng
structure Ord where
 kind:Int
 ev:Int
 by_:Int
 step:Int
def Ord.av (n:Ord):List AV:=[.I n.kind,.I n.ev,.I n.by_,.I n.step]
def dO:Ord:=⟨0,0,0,0⟩
def rowsO (l:List Ord) (k:Nat):List AV:=(l.getD k dO).av
theorem Ai {α:Type} (d:α) (l:List α) (p:α->Bool) (k:Nat) (h:k<l.length):(l.take (k+1)).any p=((l.take k).any p||p (l.getD k d)):=by rw[bS h,sO];simp[List.getD,h]
def Zx (c e a b:Int) (o:Ord):Bool:=o.ev==c&&decide (o.step<=e)&&(o.kind==a||o.kind==b)
def x7 (l:List Ord) (c e a b:Int):Bool:=l.any (Zx c e a b)
def Decide (h:List Hld) (l:List Ord) (a c:Int):Int:=
 if Held h a c=false then(if(x7 l a c 1 3||x7 l a c 0 2)=true then 1 else 0) else if x7 l a c 1 3=true then 2 else 0
def noO (a c:Int) (o:Ord):Bool:=o.ev !=a||decide (o.step>c)||decide (o.kind<0)||decide (o.kind>=4)
def NA (a c:Int) (o:Ord):Bool:= !noO a c o
def HX (a c:Int) (o:Ord):Bool:= !noO a c o&&(o.kind==3||o.kind==1)
theorem YV (a c:Int) (o:Ord):NA a c o=(Zx a c 1 3 o||Zx a c 0 2 o):=by unfold NA noO Zx;rw[hM];simp only[dQ,bT,fY,bH,eZ,aW,cH,aM];omega
theorem YW (a c:Int) (o:Ord):HX a c o=Zx a c 1 3 o:=by unfold HX noO Zx;rw[hM];simp only[dQ,bT,fY,bH,eZ,aW,cH,aM];omega
theorem YX {α:Type} (p q:α->Bool) (l:List α):l.any (λx=>p x||q x)=(l.any p||l.any q):=by
 induction l with
 |nil=>rfl
 |cons x r a=>simp only[List.any_cons,a];cases p x<;>cases q x<;>simp
theorem HY (l:List Ord) (a c:Int):l.any (NA a c)=(x7 l a c 1 3||x7 l a c 0 2):=by
 unfold x7;rw[<-YX]
 congr 1
 funext o
 exact YV a c o
theorem Zy (l:List Ord) (a c:Int):l.any (HX a c)=x7 l a c 1 3:=by
 unfold x7
 congr 1
 funext o
 exact YW a c o
theorem Decide_fn (h:List Hld) (A:h.length<2^62) (l:List Ord) (D:l.length<2^62) (c e:Int):cC 192 [.rs 4 h.length (rowsH h),.rs 4 l.length (rowsO l),.I c,.I e] [] (.I (Decide h l c e)):=by
 refine hZ Tryz.func192 [.tmp 8] [] ?_;refine .inl ⟨[],Nat,λk=>k<=l.length,λk=>[⟨16,[],.I k⟩,⟨9,[],.b ((l.take k).any (NA c e))⟩,⟨10,[],.b ((l.take k).any (HX c e))⟩],λ_=>[],λk=>l.length-k,
  qN,?_⟩
 intro k C;refine .inl ⟨λq=> ?_,λq=> ?_⟩
 ·have q:=pH q;have j:(k:Int).toNat=k:=aQ k;have t:=Ai dO l (NA c e) k J;have w:=Ai dO l (HX c e) k J;refine eX ⟨⟨J,J⟩,eX ⟨λf=> ?_,λf=> ?_⟩⟩
  ·have f:noO c e (l.getD (k:Int).toNat dO)=true:=f;rw[j] at f;have n:(l.take (k+1)).any (NA c e)=(l.take k).any (NA c e):=by rw[t];unfold NA;rw[f];simp
   have b2:(l.take (k+1)).any (HX c e)=(l.take k).any (HX c e):=by rw[w];unfold HX;rw[f];simp
   exact⟨k+1,[],jM,jM,rfl,rfl,rfl,rfl,rfl,⟨nV,n.symm,b2.symm⟩,trivial⟩
  ·have f:noO c e (l.getD (k:Int).toNat dO)=false:=f;have n:true=(l.take (k+1)).any (NA c e):=by rw[j] at f;rw[t];unfold NA;rw[f];simp
   have b2:((l.take k).any (HX c e)||(l.getD (k:Int).toNat dO).kind==3||(l.getD (k:Int).toNat dO).kind==1)=(l.take (k+1)).any (HX c e):=by rw[w,j];rw[j] at f;unfold HX;rw[f];simp[Bool.or_assoc]
   exact⟨k+1,[],jM,jM,rfl,rfl,rfl,rfl,rfl,⟨nV,n,b2⟩,trivial⟩
 ·have q:=iT q;have x:l.take k=l:=fR J;rw[x,HY,Zy];refine eX (eX ⟨[],_,QV h A c e,?_⟩)
  repeat apply jL
  refine⟨λf=> ?_,λf=> ?_⟩
  ·refine RetIs.i ?_;have f:((x7 l c e 1 3||x7 l c e 0 2)&& !Held h c e)=true:=f;rw[aW] at f;unfold Decide;rw[aE (by simpa using f.2),aE f.1]
  ·have f:((x7 l c e 1 3||x7 l c e 0 2)&& !Held h c e)=false:=f;refine⟨λg=> ?_,λg=> ?_⟩
   ·refine RetIs.i ?_;have g:x7 l c e 1 3=true:=g;unfold Decide;rw[g] at f;rw[aB (by simp at f;simp[f]),aE g]
   ·refine RetIs.i ?_;have g:x7 l c e 1 3=false:=g;unfold Decide;rw[g] at f|-;cases z:Held h c e<;>simp[z] at f|-;exact f
theorem yC (l:List Hld): ∀k,k<l.length->AV.freshs (rowsH l k)=true:=λ_ _=>rfl
theorem Zz (l:List Hld) (c:List AV): ∀k,k<l.length->iJ 0 (kJ 4 c) (rowsH l) k=rowsH l k:=λk _=>by simp[iJ]
theorem cloneH_fn (l:List Hld) (e:l.length*32<=140737488355328):cC 147 [.rs 4 l.length (rowsH l)] [.row 106 4 l.length (rowsH l)] (.so 0):=by
 refine hZ Tryz.func147 [.tmp 2] [(999999,[.nl 2 106 4])] ?_;have a:(0+l.length)*32<=140737488355328:=by rw[dR];exact e
 refine .inl λc hc=>⟨λh=> ?_,λh=>⟨a,?_⟩⟩
 ·exact mP
 ·exact RetIs.so rfl (dR _) (Zz l []) (yC l)
theorem HZ (id:Int) (x:Hld):cC 216 [.ag x.av,.rp [.I id]] [] (.b (x.id==id)):=by refine hZ Tryz.func216 [.tmp 3] [] ?_;exact RetIs.b rfl
end Go.Proofs.YtpnjmojpeaegoaaGreatDoor.Sa
namespace Go.Proofs.YtpnjmojpeaegoaaGreatDoor.Sa
open Go.Eng Go.RowKit Go.Maps Go.Sort Go.Shelf
theorem Km {α:Type} (p:α->Bool) (d:α) (l:List α) (k:Nat) (h:k<l.length):(l.take (k+1)).filter p=if p (l.getD k d) then(l.take k).filter p++[l.getD k d] else(l.take k).filter p:=by
 rw[bS h,gS];have e:l.getD k d=l[k]:=by simp[List.getD,h]
 rw[e];cases a:p l[k]<;>simp[a]
theorem snocI (o:List Int) (n:Int): ∀k,k<(o++[n]).length->iJ o.length (rI o) (kJ 1 [.I n]) k=rI (o++[n]) k:=by
 intro k a;unfold iJ rI;by_cases h:k<o.length
 ·exact nE
 ·rw[aB h];have:k=o.length:=by simp at a;omega
  subst this;simp[List.getD,kJ]
theorem aHq (zs:List Int):(Lib.compact zs).length<=zs.length:=by unfold Lib.compact Lib.compactUpTo;rw[fC];refine cO (gC _ _) ?_;simp
theorem sortsRow_q0:sd Tryz.prog 219:=
 ⟨⟨_,Tryz.func219,V,rfl⟩,λj e a h W g f c=>AnyM.slices_Sort_int zy j e a h W g f c,λp a W=>AnyM.slices_Sort_int_none zy p a W⟩
theorem compactsRow_q0:K0 Tryz.prog 220 Lib.compact:=
 ⟨⟨_,Tryz.func220,V,rfl⟩,aHq,λj c a h W g e f _=>Any.slices_Compact_int Vc j c a h W g e f,λp a W=>Any.slices_Compact_int_empty Vc p a W⟩
theorem aIa {zs:List Int} (h:zs.Pairwise (· <= ·)):(Lib.compact zs).Pairwise (· < ·)/\ ∀x,x∈Lib.compact zs↔x∈zs:=by
 exact m4
theorem aIy (l:List Int):(kO l).Pairwise (· <= ·):=by have:=wR (le:=λx y:Int=>decide (x<=y)) (λa b c e f=>by simp at*;omega) (λa b=>jO) l;exact this.imp λh=>jH
theorem aIl {l:List Int} {x:Int}:x∈kO l↔x∈l:=sP
def setI_q0 (l:List Int):List Int:=Lib.compact (kO l)
theorem setI_mem_q0 {l:List Int} {x:Int}:x∈setI_q0 l↔x∈l:=((aIa (aIy l)).2 x).trans aIl
theorem setI_len_q0 (l:List Int):(setI_q0 l).length<=l.length:=by have:=aHq (kO l);rw[oO] at this;exact this
def dueL (h:List Hld) (l:List Ord) (a:Int) (m:List Ord):List Int:=(m.filter λo=>Decide h l o.ev a !=0).map Ord.ev
def Due (h:List Hld) (l:List Ord) (a:Int):List Int:=setI_q0 (dueL h l a l)
theorem AA (h:List Hld) (l:List Ord) (a:Int) (k:Nat) (c:k<l.length):dueL h l a (l.take (k+1))=if(Decide h l (l.getD k dO).ev a !=0)=true then dueL h l a (l.take k)++[(l.getD k dO).ev] else dueL h l a (l.take k):=by unfold dueL;rw[Km _ dO l k c];split<;>simp
theorem ut (h:List Hld) (l:List Ord) (a:Int) (m:List Ord):(dueL h l a m).length<=m.length:=by unfold dueL;rw[fC];exact gC _ _
theorem Due_len (h:List Hld) (l:List Ord) (a:Int):(Due h l a).length<=l.length:=cO (setI_len_q0 _) (ut h l a l)
theorem Due_fn (h:List Hld) (A:h.length<2^62) (l:List Ord) (H:l.length<2^40) (c:Int):
  cC 128 [.rs 4 h.length (rowsH h),.rs 4 l.length (rowsO l),.I c] [.row 3 1 (Due h l c).length (rI (Due h l c))] (.so 0):=by
 refine hZ Tryz.func128 [.tmp 6] [] ?_;refine .inl ⟨[(7,3,1)],Nat,λk=>k<=l.length,λk=>[⟨12,[],.I k⟩,⟨7,[],.so 0⟩],λk=>[⟨0,[],.row 3 1 (dueL h l c (l.take k)).length (rI (dueL h l c (l.take k)))⟩],λk=>l.length-k,
  ⟨0,[],bI _,rfl,rfl,rfl,rfl,rfl,⟨nT,rfl⟩,⟨rfl,rfl,rfl,λj C=>by simp[dueL] at C⟩⟩,?_⟩
 intro k G;have E:=ut h l c (l.take k);rw[cT] at E;refine .inl ⟨λq=> ?_,λq=> ?_⟩
 ·have q:=pH q;have f:=AA h l c k J;have g:(k:Int).toNat=k:=aQ k;have z:=snocI (dueL h l c (l.take k)) (l.getD (k:Int).toNat dO).ev;generalize dueL h l c (l.take k)=o at*
  repeat apply jL
  refine⟨⟨J,J⟩,?_⟩
  repeat apply jL
  refine⟨[],_,Decide_fn h A l J _ c,⟨λe=> ?_,λe=> ?_⟩⟩
  ·have e:(Decide h l (l.getD (k:Int).toNat dO).ev c !=0)=true:=e;rw[g] at e;rw[aE e] at f;have n:(o.length+1)*8<=140737488355328:=J
   refine⟨n,k+1,[(0,3)],jM,jM,rfl,rfl,rfl,rfl,rfl,⟨nV,rfl⟩,?_⟩;have t:eN (.row 3 1 (dueL h l c (l.take (k+1))).length (rI (dueL h l c (l.take (k+1))))) (.row 3 1 (o.length+1) (iJ o.length (rI o) (kJ 1 [.I (l.getD (k:Int).toNat dO).ev]))):=by rw[f,<-g];exact⟨rfl,rfl,jS,z⟩
   exact t
  ·have e:(Decide h l (l.getD (k:Int).toNat dO).ev c !=0)=false:=e;rw[g] at e;rw[aB (by rw[e];simp)] at f;refine⟨k+1,[],jM,jM,rfl,rfl,rfl,rfl,rfl,⟨nV,rfl⟩,?_⟩;have t:eN (.row 3 1 (dueL h l c (l.take (k+1))).length (rI (dueL h l c (l.take (k+1))))) (.row 3 1 o.length (rI o)):=by rw[f];exact eN.refl _
   exact t
 ·have q:=iT q;have x:l.take k=l:=fR J;rw[x];have F:=ut h l c l;have n:(dueL h l c l).length<4611686018427387904:=J
  have D:(kO (dueL h l c l)).length=(dueL h l c l).length:=oO _;have w:=s5 compactsRow_q0 (kt:=3) (kO (dueL h l c l)) (λi=>[.I ((kO (dueL h l c l)).getD i 0)]) (λ_ _=>rfl) J;rw[D] at w;refine .inr (.inr ⟨false,[0],rfl,Unit,_,_,_,_,J9 sortsRow_q0 (kt:=3) (dueL h l c l) (rI (dueL h l c l)) (λ_ _=>rfl) n,λ_ _=> ?_⟩);refine .inr (.inr ⟨false,[0],rfl,Unit,_,_,_,_,w,λ_ _=> ?_⟩);exact RetIs.so rfl rfl (λ_ _=>rfl) (λ_ _=>rfl)
end Go.Proofs.YtpnjmojpeaegoaaGreatDoor.Sa
namespace Go.Proofs.YtpnjmojpeaegoaaGreatDoor.Sb
open Go.Eng Go.RowKit Go.Maps Go.Sort Go.Shelf
theorem aHr (zs:List Int):(Lib.compact zs).length<=zs.length:=by unfold Lib.compact Lib.compactUpTo;rw[fC];refine cO (gC _ _) ?_;simp
theorem aIz:sd Tryz.prog 219:=
 ⟨⟨_,Tryz.func219,V,rfl⟩,λj e a h W g f c=>AnyM.slices_Sort_int zy j e a h W g f c,λp a W=>AnyM.slices_Sort_int_none zy p a W⟩
theorem aIb:K0 Tryz.prog 220 Lib.compact:=
 ⟨⟨_,Tryz.func220,V,rfl⟩,aHr,λj c a h W g e f _=>Any.slices_Compact_int Vc j c a h W g e f,λp a W=>Any.slices_Compact_int_empty Vc p a W⟩
theorem aIc {zs:List Int} (h:zs.Pairwise (· <= ·)):(Lib.compact zs).Pairwise (· < ·)/\ ∀x,x∈Lib.compact zs↔x∈zs:=by
 exact m4
theorem aJ0 (l:List Int):(kO l).Pairwise (· <= ·):=by have:=wR (le:=λx y:Int=>decide (x<=y)) (λa b c e f=>by simp at*;omega) (λa b=>jO) l;exact this.imp λh=>jH
theorem aIm {l:List Int} {x:Int}:x∈kO l↔x∈l:=sP
def aIn (l:List Int):List Int:=Lib.compact (kO l)
theorem aJa {l:List Int} {x:Int}:x∈aIn l↔x∈l:=((aIc (aJ0 l)).2 x).trans aIm
theorem aJ1 (l:List Int):(aIn l).length<=l.length:=by have:=aHr (kO l);rw[oO] at this;exact this
end Go.Proofs.YtpnjmojpeaegoaaGreatDoor.Sb
namespace Go.Proofs.YtpnjmojpeaegoaaGreatDoor.Sb
open Go.Eng
section
variable {P : Program}
theorem Eo {k:Int} (h:k≠0):okCO ([],k)=[]/\okCR ([],k)= .tup [.val (.slice none 0 0),.I k]:=by unfold okCO okCR;rw[aB h,aB h];exact nT
theorem uu {C:List Cm} {P:List Pf_q1}:(E4 C P=true/\clausesY C P=(fP C P,0))\/(E4 C P=false/\ ∃k:Int,k≠0/\clausesY C P=([],k)):=by
 cases a:E4 C P with
 |true=>exact .inl ⟨rfl,Un a⟩
 |false=>obtain⟨c,e⟩:=Ix a;exact .inr ⟨rfl,(clausesY C P).2,e,zN c rfl⟩
end
theorem IA (x:Int) (a:0<=x) (c:x<1000000):cC 285 [.I x] [] (.I (2*x)):=by refine hZ Tryz.func285 [.tmp 2] [] ?_;refine RetIs.i ?_;exact wr J J
theorem Qt {C:List Cm} {a p:Int} {k:Nat} (h:(C.getD k dCm).acc=a/\(C.getD k dCm).per=p):k9 C a p (k+1)=k9 C a p k++[2*(k:Int)]:=by rw[K5,aE h]
theorem Qv {C:List Cm} {a p:Int} {k:Nat} (h: ¬((C.getD k dCm).acc=a/\(C.getD k dCm).per=p)):k9 C a p (k+1)=k9 C a p k:=by rw[K5,aB h,lE]
theorem lh (C:List Cm) (t:C.length<=1000) (a p:Int):cC 227 [.rs 2 C.length (rowsM C),.I a,.I p] [.row 3 1 (Q4 C a p).length (nB (Q4 C a p))] (.so 0):=by
 refine hZ Tryz.func227 [.tmp 6] [] ?_
 repeat apply jL
 refine⟨[(7,3,1)],Nat,λk=>k<=C.length,λk=>[⟨12,[],.I k⟩,⟨7,[],.so 0⟩],λk=>[⟨0,[],.row 3 1 (k9 C a p k).length (nB (k9 C a p k))⟩],λk=>C.length-k,
  q7,?_⟩
 intro k l;have l:k<=C.length:=l;have q:=U2 C a p k;refine .inl ⟨λf=> ?_,λf=> ?_⟩
 ·have f:=pH f;have f:(k:Int)<C.length:=f;have g:(k:Int).toNat=k:=aQ k
  repeat apply jL
  refine⟨⟨J,J⟩,?_⟩
  repeat apply jL
  refine jB (((C.getD (k:Int).toNat dCm).acc==a)&&((C.getD (k:Int).toNat dCm).per==p)) (λh=> ?_) λh=> ?_
  ·rw[g,aW,cH,cH] at h
   repeat apply jL
   refine⟨[],_,IA (k:Int) J J,?_⟩;refine⟨oJ J,?_⟩;refine⟨k+1,[(0,3)],jM,jM,rfl,rfl,rfl,rfl,rfl,⟨nV,rfl⟩,zV _ _ (Qt h)⟩
  ·rw[g] at h;refine⟨k+1,[],jM,jM,rfl,rfl,rfl,rfl,rfl,⟨nV,rfl⟩,K6 (Qv λn=> ?_)⟩;rw[n.1,n.2,uA,uA] at h;cases h
 ·have f:=iT f;have f:(C.length:Int)<=k:=f;obtain rfl:k=C.length:=J
  exact RetIs.so rfl rfl (λ_ _=>rfl) (λ_ _=>rfl)
def yX (C:List Cm) (a:Int) (k:Nat):List Int:=(List.range k).flatMap λi=>if(C.getD i dCm).acc=a then [(C.getD i dCm).per] else []
theorem U8 (C:List Cm) (a:Int) (k:Nat):yX C a (k+1)=yX C a k++(if(C.getD k dCm).acc=a then [(C.getD k dCm).per] else []):=by unfold yX;rw[iN,oX];simp
theorem ji (C:List Cm) (a:Int): ∀k,(yX C a k).length<=k
 |0=>by simp[yX]
 |k+1=>by have:=ji C a k;rw[U8,bD];split<;>simp<;>omega
def wS (C:List Cm) (a:Int):List Int:=aIn (yX C a C.length)
theorem AB (C:List Cm) (a:Int):(wS C a).length<=C.length:=cO (aJ1 _) (ji C a C.length)
theorem AC {C:List Cm} {a:Int} {k:Nat} (h:(C.getD k dCm).acc=a):yX C a (k+1)=yX C a k++[(C.getD k dCm).per]:=by rw[U8,aE h]
theorem AD {C:List Cm} {a:Int} {k:Nat} (h: ¬(C.getD k dCm).acc=a):yX C a (k+1)=yX C a k:=by rw[U8,aB h,lE]
theorem uv (C:List Cm) (x:C.length<=1000) (a:Int):cC 225 [.rs 2 C.length (rowsM C),.I a] [.row 3 1 (wS C a).length (nB (wS C a))] (.so 0):=by
 refine hZ Tryz.func225 [.tmp 4] [] ?_
 repeat apply jL
 refine⟨[(5,3,1)],Nat,λk=>k<=C.length,λk=>[⟨10,[],.I k⟩,⟨5,[],.so 0⟩],λk=>[⟨0,[],.row 3 1 (yX C a k).length (nB (yX C a k))⟩],λk=>C.length-k,
  q7,?_⟩
 intro k n;have n:k<=C.length:=n;have w:=ji C a k;refine .inl ⟨λf=> ?_,λf=> ?_⟩
 ·have f:=pH f;have f:(k:Int)<C.length:=f;have g:(k:Int).toNat=k:=aQ k
  repeat apply jL
  refine⟨⟨J,J⟩,?_⟩
  repeat apply jL
  refine jB ((C.getD (k:Int).toNat dCm).acc==a) (λh=> ?_) λh=> ?_
  ·rw[g,cH] at h;refine⟨oJ J,?_⟩;refine⟨k+1,[(0,3)],jM,jM,rfl,rfl,rfl,rfl,rfl,⟨nV,rfl⟩,zV _ (C.getD (k:Int).toNat dCm).per (by rw[g];exact AC h)⟩
  ·rw[g,cE] at h;refine⟨k+1,[],jM,jM,rfl,rfl,rfl,rfl,rfl,⟨nV,rfl⟩,K6 (AD h)⟩
 ·have f:=iT f;have f:(C.length:Int)<=k:=f;obtain rfl:k=C.length:=J
  have q:(yX C a C.length).length<4611686018427387904:=J
  have t:(kO (yX C a C.length)).length=(yX C a C.length).length:=oO _;have l:=s5 aIb (kt:=3) (kO (yX C a C.length)) (λi=>[.I ((kO (yX C a C.length)).getD i 0)]) (λ_ _=>rfl) J;rw[t] at l;refine .inr (.inr ⟨false,[0],rfl,Unit,_,_,_,_,J9 aIz (kt:=3) (yX C a C.length) (nB (yX C a C.length)) (λ_ _=>rfl) q,λ_ _=> ?_⟩);refine .inr (.inr ⟨false,[0],rfl,Unit,_,_,_,_,l,λ_ _=> ?_⟩);exact RetIs.so rfl rfl (λ_ _=>rfl) (λ_ _=>rfl)
def Ep (C:List Cm) (P:List Pf_q1):List AO:=if E4 C P=true then [.row 326 2 (fP C P).length (lL (fP C P))] else []
def Er (C:List Cm) (P:List Pf_q1):AV:= .tup [if E4 C P=true then .so 0 else .val (.slice none 0 0),.b (td C P)]
theorem Kn (C:List Cm) (P:List Pf_q1) (x:C.length<2^62) (z:P.length<2^62):cC 224 [.rs 2 C.length (rowsM C),.rs 3 P.length (rowsP P)] (Ep C P) (Er C P):=by
 refine hZ Tryz.func224 [.tmp 4,.tmp 5] [] ?_;have f:=Clauses_fn C P x z;unfold Ep Er td;rcases uu (C:=C) (P:=P) with ⟨g,e⟩|⟨g,k,j,e⟩
 ·obtain⟨A,w⟩:=i5.1 g;rw[e] at f;have f:cC 122 [.rs 2 C.length (rowsM C),.rs 3 P.length (rowsP P)] [.row 326 2 (fP C P).length (lL (fP C P))] (.tup [.so 0,.I 0]):=f;have l:=s8.2 (K4 A w);rw[g,oD,aE rfl,aE rfl]
  refine jb f ?_
  repeat apply jL
  refine⟨λh=>jC,λ_=> ?_⟩;refine .inr (.inr ⟨false,[],rfl,_,_,_,_,_,Je (fP C P) J C.length,λy t=> ?_⟩);cases n:pM (fP C P) C.length [] with
  |some D=>obtain rfl:=K7.of_sat t l n;exact RetIs.sob rfl rfl (λ_ _=>rfl) (λ_ _=>rfl) rfl
  |none=>obtain⟨c,rfl,_⟩:=K7.of_uns t l n;exact RetIs.sob rfl rfl (λ_ _=>rfl) (λ_ _=>rfl) rfl
 ·rw[e,(Eo j).1,(Eo j).2] at f;rw[g,tK,aB jD,aB jD]
  refine jb f ?_
  repeat apply jL
  refine⟨λ_=> ?_,λh=> ?_⟩
  ·exact mQ
  ·have h:(k !=0)=false:=h;rw[fY] at h;exact absurd h j
theorem AE {C:List Cm} {P:List Pf_q1} (a:C.length<2^62) (c:P.length<2^62) (h:E4 C P=true):
  cC 224 [.rs 2 C.length (rowsM C),.rs 3 P.length (rowsP P)] [.row 326 2 (fP C P).length (lL (fP C P))] (.tup [.so 0,.b (td C P)]):=by
 have:=Kn C P a c;unfold Ep Er at this;rw[h,aE rfl,aE rfl] at this;exact this
theorem IB {C:List Cm} {P:List Pf_q1} (a:C.length<2^62) (c:P.length<2^62) (h:E4 C P=false):
  cC 224 [.rs 2 C.length (rowsM C),.rs 3 P.length (rowsP P)] [] (.tup [.val (.slice none 0 0),.b false]):=by
 have:=Kn C P a c;unfold Ep Er td at this;rw[h,tK,aB jD,aB jD] at this;exact this
theorem L4 {p:Int->Bool} {L:List Int} (h: ∀j,j<L.length->p (L.getD j 0)=false):L.find? p=none:=by rw[pJ];intro x c;obtain⟨j,a,rfl⟩:=tR c;rw[h j a];simp
theorem QW {p:Int->Bool} {L:List Int} {k:Nat} (a:k<L.length) (h: ∀j,j<k->p (L.getD j 0)=false) (e:p (L.getD k 0)=true):L.find? p=some (L.getD k 0):=by rw[oM];refine⟨e,k,a,(gdX a).symm,λj c=> ?_⟩;have:=h j c;rw[gdX J] at this;rw[this];rfl
theorem RetIs.ib {k:IntKind} {c c':Int} {b a:Bool} {O:List OE} {nid:Nat} (h:c'=c) (e:a=b):RetIs [] (.tup [.i k c,.b b]) (.tup [.i k c',.b a]) O nid:=by subst h e;exact ng
theorem Aj (C:List Cm) (a p:Int):(Q4 C a p).length<=C.length:=U2 C a p C.length
theorem Ko {C:List Cm} {P:List Pf_q1} {L:List Int} {a:Int} (h:(L.find? λp=>td C P&&lY (fP C P) C.length (Q4 C a p))=none):ofY C P L a=(0,false):=by unfold ofY;rw[h]
theorem IC {C:List Cm} {P:List Pf_q1} {L:List Int} {a p:Int} (h:(L.find? λp=>td C P&&lY (fP C P) C.length (Q4 C a p))=some p):ofY C P L a=(p,true):=by unfold ofY;rw[h]
theorem Of_fn (C:List Cm) (P:List Pf_q1) (n:C.length<=1000) (x:P.length<2^62) (a:Int):cC 130 [.rs 2 C.length (rowsM C),.rs 3 P.length (rowsP P),.I a] [] (.tup [.I (ofY C P (wS C a) a).1,.b (ofY C P (wS C a) a).2]):=by
 refine hZ Tryz.func130 [.tmp 6,.tmp 7] [] ?_;have G:=AB C a;cases l:E4 C P with
 |true=>
  have F:=(i5.1 l).2;have w:=AE (C:=C) (P:=P) J x l
  refine jb w ?_
  refine jb (uv C n a) ?_
  repeat apply jL
  refine⟨[],Nat,λk=>k<=(wS C a).length/\ ∀j,j<k->(td C P&&lY (fP C P) C.length (Q4 C a ((wS C a).getD j 0)))=false,λk=>[⟨22,[],.I k⟩],λ_=>[],λk=>(wS C a).length-k,
   nc,?_⟩
  rintro k ⟨t,hno⟩;refine .inl ⟨λf=> ?_,λf=> ?_⟩
  ·have f:=pH f;have f:(k:Int)<(wS C a).length:=f;have ek:(k:Int).toNat=k:=aQ k;have z:=Aj C a ((wS C a).getD (k:Int).toNat 0)
   repeat apply jL
   refine⟨⟨J,J⟩,J,?_⟩
   repeat apply jL
   refine⟨_,_,λ_=>lh C n a ((wS C a).getD (k:Int).toNat 0),?_⟩
   repeat apply jL
   refine⟨[],_,λ_=>E5 (fP C P) J C.length (Q4 C a ((wS C a).getD (k:Int).toNat 0)) J,?_⟩;refine jB (td C P&&lY (fP C P) C.length (Q4 C a ((wS C a).getD (k:Int).toNat 0))) (λh=> ?_) λh=> ?_
   ·rw[ek] at h;rw[IC (QW J hno h)];exact RetIs.ib (by rw[ek]) rfl
   ·exact mL
  ·have f:=iT f;have f:((wS C a).length:Int)<=k:=f;obtain rfl:k=(wS C a).length:=J
   rw[Ko (L4 hno)];exact RetIs.ib rfl rfl
 |false=>
  have w:=IB (C:=C) (P:=P) J x l;have E:td C P=false:=by unfold td;rw[l];rfl
  rw[Ko (L4 λj _=>by rw[E];rfl)];have D: ∀g:List Int,g.length<=100000->cC 226 [.val (.slice none 0 0),.I C.length,.rs 1 g.length (nB g)] [] (.b (lY [] C.length g)):=λg h=>
   j8.of_eq (args:=[.rs 2 0 (lL []),.I C.length,.rs 1 g.length (nB g)]) ⟨nT,eV.refl _,eV.refl _⟩ (E5 [] jD C.length g h)
  refine jb w ?_
  refine jb (uv C n a) ?_
  repeat apply jL
  refine⟨[],Nat,λk=>k<=(wS C a).length,λk=>[⟨22,[],.I k⟩],λ_=>[],λk=>(wS C a).length-k,
   qC,?_⟩
  intro k t;have t:k<=(wS C a).length:=t;refine .inl ⟨λf=> ?_,λf=>RetIs.ib rfl rfl⟩;have f:=pH f;have f:(k:Int)<(wS C a).length:=f;have z:=Aj C a ((wS C a).getD (k:Int).toNat 0)
  repeat apply jL
  refine⟨⟨J,J⟩,J,?_⟩
  repeat apply jL
  refine⟨_,_,λ_=>lh C n a ((wS C a).getD (k:Int).toNat 0),?_⟩
  repeat apply jL
  refine⟨[],_,λ_=>D (Q4 C a ((wS C a).getD (k:Int).toNat 0)) J,?_⟩;refine⟨λh=>jC,λ_=> ?_⟩;exact⟨k+1,[],jM,jM,rfl,rfl,rfl,rfl,rfl,nV,trivial⟩
def aHo (g:Gt):Bool:=((((decide (g.grp<0)||decide (g.grp>=500))||decide (g.per<0))||decide (g.per>=2000))||decide (g.rig<0))||decide (g.rig>15)
def t6 (G:List Gt):Bool:= !G.any aHo
theorem QX {g:Gt}:aHo g=false↔(0<=g.grp/\g.grp<500)/\(0<=g.per/\g.per<2000)/\(0<=g.rig/\g.rig<=15):=by
 unfold aHo;simp only[bT,bH];constructor
 ·rintro⟨⟨⟨⟨⟨a,c⟩,e⟩,f⟩,h⟩,j⟩;omega
 ·rintro⟨⟨a,c⟩,⟨e,f⟩,h,j⟩;refine⟨⟨⟨⟨⟨?_,?_⟩,?_⟩,?_⟩,?_⟩,?_⟩<;>omega
theorem Kp {G:List Gt} {g:Gt}:t6 (G++[g])=(t6 G&& !aHo g):=by unfold t6;rw[sO,Bool.not_or];simp
def P1 (x:Int) (i:Nat):Bool:=x.toNat.testBit i
def grB (a p:Int) (i:Nat) (g:Gt):Bool:=((g.grp==a)&&(g.per==p))&&P1 g.rig i
def aHp (G:List Gt) (a p r:Int):Bool:=(List.range 4).all λi=> !P1 r i||G.any (grB a p i)
theorem ID {G:List Gt} {j p r:Int}:aHp G j p r=true↔ ∀i,i<4->P1 r i=true-> ∃g∈G,g.grp=j/\g.per=p/\P1 g.rig i=true:=by
 unfold aHp grB;simp only[fU,fO,eZ,dQ,kC,aW,cH];constructor
 ·intro h i f c;rcases h i f with a|⟨g,e,a⟩
  ·rw[c] at a;cases a
  ·exact⟨g,e,a.1.1,a.1.2,a.2⟩
 ·intro h i f;cases c:P1 r i with
  |false=>exact .inl rfl
  |true=>obtain⟨g,e,a,k,l⟩:=h i f c;exact .inr ⟨g,e,⟨a,k⟩,l⟩
theorem YY {r:Int} (a:1<=r) (c:r<=15): ∃i,i<4/\P1 r i=true:=by
 have:r=1\/r=2\/r=3\/r=4\/r=5\/r=6\/r=7\/r=8\/r=9\/r=10\/r=11\/r=12\/r=13\/r=14\/r=15:=J
 rcases this with rfl|rfl|rfl|rfl|rfl|rfl|rfl|rfl|rfl|rfl|rfl|rfl|rfl|rfl|rfl<;>first|exact⟨0,jD,jD⟩|exact⟨1,jD,jD⟩|exact⟨2,jD,jD⟩|exact⟨3,jD,jD⟩
def O1 (a:Int) (L:List (Int×Int)) (g:Gt):List (Int×Int):=if g.grp=a then kE L g.per (o3 .or .i64 ((hU L g.per).getD 0) g.rig) else L
def O8 (G:List Gt) (a:Int):List (Int×Int):=G.foldl (O1 a) []
theorem Qw (G:List Gt) (a:Int) {k:Nat} (h:k<G.length):O8 (G.take (k+1)) a=O1 a (O8 (G.take k) a) (G.getD k dGt):=by unfold O8;rw[bS h,iQ];simp[List.getD,h]
theorem Qx (G:List Gt) (g:Gt) (a:Int):O8 (G++[g]) a=O1 a (O8 G a) g:=by unfold O8;rw[iQ];rfl
structure SumP (G:List Gt) (grp:Int):Prop where
 rng: ∀p,0<=(hU (O8 G grp) p).getD 0/\(hU (O8 G grp) p).getD 0<=15
 bit: ∀p i,P1 ((hU (O8 G grp) p).getD 0) i=true↔ ∃g∈G,g.grp=grp/\g.per=p/\P1 g.rig i=true
 nd:(iH (O8 G grp)).Nodup
theorem YZ (j:Int): ∀n:Nat,∀G:List Gt,G.length=n->t6 G=true->SumP G j
 |0,G,h,_=>by obtain rfl:=fA h;refine⟨λp=>⟨kR _,by show(0:Int)<=15;decide⟩,λp i=>⟨λh=> ?_,λ⟨g,D,_⟩=>by cases D⟩,wH⟩;have h:(0:Nat).testBit i=true:=h;simp at h
 |n+1,G,h,A=>by
  obtain⟨H,g,rfl⟩: ∃H g,G=H++[g]:=⟨G.dropLast,G.getLast (by intro e;rw[e] at h;cases h),(pG _).symm⟩;rw[Kp,aW] at A;have q:=YZ j n H jH A.1;have D:=QX.1 (by simpa using A.2);have e:=Qx H g j;unfold O1 at e;by_cases z:g.grp=j
  ·rw[aE z] at e;have F:=q.rng g.per;have C:=OV (x:=(hU (O8 H j) g.per).getD 0) (y:=g.rig) J J;have E: ∀i,P1 (o3 .or .i64 ((hU (O8 H j) g.per).getD 0) g.rig) i=(P1 ((hU (O8 H j) g.per).getD 0) i||P1 g.rig i):=λi=>by rw[C];unfold P1;rw[aQ,Nat.testBit_or]
   refine⟨λp=> ?_,λp i=> ?_,by rw[e];exact T7 q.nd _ _⟩
   ·rw[e,rK];by_cases l:p=g.per
    ·rw[aE l,rN,C];have:((hU (O8 H j) g.per).getD 0).toNat|||g.rig.toNat<2^4:=n4 J J;omega
    ·rw[aB l];exact q.rng p
   ·rw[e,rK];by_cases l:p=g.per
    ·rw[aE l,rN,E,eZ,<-l,q.bit p i];constructor
     ·rintro(⟨f,a,c⟩|a)
      ·exact⟨f,iE _ a,c⟩
      ·exact⟨g,jS,z,l.symm,a⟩
     ·rintro⟨f,a,c,t,w⟩;rcases cR.1 a with a|a
      ·exact .inl ⟨f,a,c,t,w⟩
      ·rw[bV.1 a] at w;exact .inr w
    ·rw[aB l,q.bit p i];constructor
     ·rintro⟨f,a,c⟩;exact⟨f,iE _ a,c⟩
     ·rintro⟨f,a,c,t,w⟩;rcases cR.1 a with a|a
      ·exact⟨f,a,c,t,w⟩
      ·rw[bV.1 a] at t;exact absurd t.symm l
  ·rw[aB z] at e;refine⟨λp=>by rw[e];exact q.rng p,λp i=> ?_,by rw[e];exact q.nd⟩;rw[e,q.bit p i];constructor
   ·rintro⟨f,a,c⟩;exact⟨f,iE _ a,c⟩
   ·rintro⟨f,a,c,t⟩;rcases cR.1 a with a|a
    ·exact⟨f,a,c,t⟩
    ·rw[bV.1 a] at c;exact absurd c z
def li (s r:Int):Bool:=o3 .and .i64 s r==r
theorem Ak {s r:Int} (j:0<=s/\s<=15) (g:0<=r/\r<=15):li s r=true↔ ∀i,i<4->P1 r i=true->P1 s i=true:=by
 unfold li;rw[EZ J J,cH];have f:r=(r.toNat:Int):=J
 constructor
 ·intro h i _ a;have h:s.toNat&&&r.toNat=r.toNat:=J
  unfold P1 at a|-;rw[<-h,Nat.testBit_and,aW] at a;exact a.1
 ·intro h;have:s.toNat&&&r.toNat=r.toNat:=by
   refine Nat.eq_of_testBit_eq λi=> ?_;rw[Nat.testBit_and];cases a:r.toNat.testBit i with
   |false=>rw[pB]
   |true=>
    rw[j7];have e:i<4:=by
     rcases kM i 4 with c|c
     ·exact c
     ·have:r.toNat<2^i:=eS (show r.toNat<2^4 by omega) (yI jD c);rw[Nat.testBit_lt_two_pow this] at a;cases a
    exact h i e a
  omega
theorem IE {G:List Gt} (n:t6 G=true) {c p r:Int} (f:1<=r) (g:r<=15):((hU (O8 G c) p).isSome&&li ((hU (O8 G c) p).getD 0) r)=aHp G c p r:=by
 have S:=YZ c _ G rfl n;have l:=Ak (S.rng p) (show 0<=r/\r<=15 by omega);have a:li ((hU (O8 G c) p).getD 0) r=aHp G c p r:=by
  rw[hM,l,ID];constructor
  ·exact λh i e a=>(S.bit p i).1 (h i e a)
  ·exact λh i e a=>(S.bit p i).2 (h i e a)
 rw[a];cases j:hU (O8 G c) p with
 |some v=>rfl
 |none=>
  rw[<-a,j];have:li ((none:Option Int).getD 0) r=false:=by rw[<-uC,Ak ⟨jD,jD⟩ J];intro h;obtain⟨i,e,a⟩:=YY f g;have:=h i e a;unfold P1 at this;simp at this
  rw[this];rfl
theorem aIo (g:Gt):cC 362 [.ag g.av] [] (.b (aHo g)):=by refine hZ Tryz.func362 [.tmp 2] [] ?_;exact RetIs.b rfl
theorem aI2 (G:List Gt) (c:G.length<2^62):cC 348 [.rs 3 G.length (rowsG_q1 G)] [] (.b (t6 G)):=by
 refine hZ Tryz.func348 [.tmp 2] [] ?_
 repeat apply jL
 refine⟨[],_,xk G c 362 aHo (λx _=>aIo x),?_⟩;exact RetIs.b rfl
theorem IF {C:List Cm} {P:List Pf_q1} (c:C.length<2^62) (e:P.length<2^62) (a:E4 C P=true):
  cC 122 [.rs 2 C.length (rowsM C),.rs 3 P.length (rowsP P)] [.row 326 2 (fP C P).length (lL (fP C P))] (.tup [.so 0,.I 0]):=by
 have:=Clauses_fn C P c e;rw[Un a] at this;exact this
def AF (G:List Gt) (r:Int):Bool:=(decide (r<1)||decide (r>15))|| !t6 G
def poseE (C:List Cm) (P:List Pf_q1) (G:List Gt) (r:Int):Int:=
 if AF G r=true then 1 else if(clausesY C P).2=0 then(if lY (fP C P) C.length []=true then 17 else 0) else(clausesY C P).2
def ZA:Int×Bool:=(0,false)
def Es:Int×Int:=(0,0)
def aG6 (y:List (Int×Bool)):AV:= .rm y.length (λi=> .I (y.getD i ZA).1) (λi=> .b (y.getD i ZA).2)
def IG (C:List Cm) (P:List Pf_q1) (y:List (Int×Bool)):AV:= .rp [.rs 2 C.length (rowsM C),.rs 2 (fP C P).length (lL (fP C P)),aG6 y]
def Vn (G:List Gt) (a r:Int) (y:List (Int×Bool)):Prop:= ∀p,(hU y p).getD false=aHp G a p r
theorem lj (l:List Cl_q1) (a:l.length<2^62) (n:Int):cC 226 [.rs 2 l.length (lL l),.I n,.val (.slice none 0 0)] [] (.b (lY l n [])):=
 j8.of_eq (args:=[.rs 2 l.length (lL l),.I n,.rs 1 0 (nB [])]) ⟨eV.refl _,eV.refl _,nT⟩ (E5 l a n [] jD)
structure HasJ (L:List (Int×Int)) (r:Int) (seen:List Nat) (y:List (Int×Bool)):Prop where
 nd:seen.Nodup
 rg: ∀i∈seen,i<L.length
 at': ∀i∈seen,hU y (L.getD i Es).1=some (li (L.getD i Es).2 r)
 of: ∀p,(hU y p).isSome=true-> ∃i∈seen,(L.getD i Es).1=p
theorem HasJ.init (L:List (Int×Int)) (r:Int):HasJ L r [] []:=⟨jS,jS,jS,λp h=>jC⟩
theorem IH {L:List (Int×Int)} (h:(iH L).Nodup) {i j:Nat} (hi:i<L.length) (a:j<L.length) (e:(L.getD i Es).1=(L.getD j Es).1):i=j:=by
 have f: ∀k,k<L.length->(iH L).getD k 0=(L.getD k Es).1:=λk g=>by simp[iH,List.getD,g]
 have c:(iH L).length=L.length:=by simp[iH]
 exact N1 h (by rw[c];exact hi) (by rw[c];exact a) (by rw[f i hi,f j a];exact e)
theorem HasJ.step {L:List (Int×Int)} {r:Int} {f:List Nat} {y:List (Int×Bool)} (h:HasJ L r f y) (w:(iH L).Nodup) {i:Nat} (hi:i<L.length) (l:i∉f):
  HasJ L r (f++[i]) (kE y (L.getD i Es).1 (li (L.getD i Es).2 r)):=by
 refine⟨?_,λj c=> ?_,λj c=> ?_,λp g=> ?_⟩
 ·rw[iI];refine⟨h.nd,jS,λa q b t=> ?_⟩;rw[bV.1 t];rintro rfl;exact l q
 ·rcases cR.1 c with c|c
  ·exact h.rg j c
  ·rw[bV.1 c];exact hi
 ·rw[rK];rcases cR.1 c with c|c
  ·rw[aB ?_]
   ·exact h.at' j c
   ·intro e;have:=IH w (h.rg j c) hi e;rw[this] at c;exact l c
  ·rw[bV.1 c,aE rfl]
 ·rw[rK] at g;by_cases e:p=(L.getD i Es).1
  ·exact⟨i,jS,e.symm⟩
  ·rw[aB e] at g;obtain⟨j,c,n⟩:=h.of p g;exact⟨j,iE _ c,n⟩
theorem HasJ.fin {G:List Gt} (t:t6 G=true) {a r:Int} (n:1<=r) (q:r<=15) {f:List Nat} {y:List (Int×Bool)} (h:HasJ (O8 G a) r f y) (j: ∀i,i<(O8 G a).length->i∈f):Vn G a r y:=by
 intro p;rw[<-IE t n q];cases g:hU (O8 G a) p with
 |none=>
  cases w:hU y p with
  |none=>rfl
  |some b=>obtain⟨i,c,e⟩:=h.of p (by rw[w];rfl);exact absurd e (xY g Es i (h.rg i c))
 |some s=>obtain⟨i,c,k,l⟩:=o8 g Es;have:=h.at' i (j i c);rw[k] at this;rw[this,l];rfl
theorem II {L:List (Int×Int)} {c:List Nat} (w:c.Nodup) (z: ∀i∈c,i<L.length) {i:Nat} (hi:i<L.length) (j:i∉c):L.length-(c++[i]).length<L.length-c.length:=by
 have l:(c++[i]).Nodup:=by rw[iI];refine⟨w,jS,λa q b t=> ?_⟩;rw[bV.1 t];rintro rfl;exact j q
 have g:(c++[i]).length<=L.length:=by
  have n:((c++[i]).map λk:Nat=>(k:Int)).Nodup:=by rw[List.Nodup,gQ];exact l.imp λh e=>h J
  have:=vZ (m:=L.length) n (λx A=>by
   obtain⟨k,f,rfl⟩:=fL.1 A;have:k<L.length:=by
    rcases cR.1 f with f|f
    ·exact z k f
    ·rw[bV.1 f];exact hi
   omega)
  simpa using this
 rw[bD] at g|-;simp at g|-;omega
theorem QY (C:List Cm) (P:List Pf_q1) (G:List Gt) (t:C.length<2^62) (w:P.length<2^62) (z:G.length<2^62) (x r:Int) (f:poseE C P G r≠0):
  cC 309 [.rs 2 C.length (rowsM C),.rs 3 P.length (rowsP P),.rs 3 G.length (rowsG_q1 G),.I x,.I r] [] (.tup [.val (.pointer none),.I (poseE C P G r)]):=by
 refine hZ Tryz.func309 [.tmp 10,.tmp 11] [] ?_
 repeat apply jL
 refine⟨[],.b (t6 G),λ_=>aI2 G z,?_⟩
 repeat apply jL
 refine jB (AF G r) (λh=> ?_) λh=> ?_
 ·have e:poseE C P G r=1:=aE h;rw[e];exact⟨ng⟩
 unfold poseE at f|-;rw[aB jR] at f|-;rcases uu (C:=C) (P:=P) with ⟨n,e⟩|⟨_,k,l,e⟩
 ·rw[e,aE rfl] at f|-;have j:lY (fP C P) C.length []=true:=by
   cases j:lY (fP C P) C.length [] with
   |true=>rfl
   |false=>rw[j] at f;exact absurd rfl f
  have g:=IF (C:=C) (P:=P) t w n;have D:=(i5.1 n).2
  refine jb g ?_
  repeat apply jL
  refine⟨λh=>jC,λ_=> ?_⟩
  repeat apply jL
  refine⟨[],_,lj (fP C P) J C.length,?_⟩
  repeat apply jL
  refine⟨λ_=> ?_,λh2=> ?_⟩
  ·rw[aE j];exact⟨ng⟩
  ·have h2:lY (fP C P) C.length []=false:=h2;rw[j] at h2;cases h2
 ·have g:=Clauses_fn C P t w;rw[e,(Eo l).1,(Eo l).2] at g;rw[e,aB l]
  refine jb g ?_
  repeat apply jL
  refine⟨λ_=> ?_,λh=> ?_⟩
  ·exact mQ
  ·have h:(k !=0)=false:=h;rw[fY] at h;exact absurd h l
theorem Vo {C:List Cm} {P:List Pf_q1} {G:List Gt} {r:Int} (h:poseE C P G r=0):AF G r=false/\E4 C P=true/\lY (fP C P) C.length []=false:=by
 unfold poseE at h;split at h
 ·cases h
 ·rename_i c;split at h
  ·rename_i a;split at h
   ·cases h
   ·rename_i e;exact⟨by simpa using c,gH a,by simpa using e⟩
  ·rename_i a;exact absurd h a
theorem QZ {G:List Gt} {r:Int} (h:AF G r=false):1<=r/\r<=15/\t6 G=true:=by unfold AF at h;rw[bT,bT,bH,bH,hV] at h;exact⟨J,J,h.2⟩
theorem IJ (C:List Cm) (P:List Pf_q1) (G:List Gt) (O:C.length<2^62) (R:P.length<2^62) (Q:G.length<2^62) (f r:Int) (U:poseE C P G r=0):
  cM 309 true [] [.rs 2 C.length (rowsM C),.rs 3 P.length (rowsP P),.rs 3 G.length (rowsG_q1 G),.I f,.I r] (Vn G f r) (λ_=>[]) (λ_=>[]) (λy=> .tup [IG C P y,.I 0]):=by
 refine sE Tryz.func309 [.tmp 10,.tmp 11] [(1000020,[.frz 10 [0,2,4]])] ?_;obtain⟨F,D,W⟩:=Vo U;obtain⟨K,M,H⟩:=QZ F;have L:=IF (C:=C) (P:=P) O R D;have a0:=(i5.1 D).2
 repeat apply jL
 refine⟨[],.b (t6 G),λ_=>aI2 G Q,?_⟩
 repeat apply jL
 refine⟨λh=> ?_,λ_=> ?_⟩
 ·have h:AF G r=true:=h;rw[F] at h;cases h
 refine jb L ?_
 repeat apply jL
 refine⟨λh=>jC,λ_=> ?_⟩
 repeat apply jL
 refine⟨[],_,lj (fP C P) J C.length,?_⟩
 repeat apply jL
 refine⟨λh=> ?_,λ_=> ?_⟩
 ·have h:lY (fP C P) C.length []=true:=h;rw[W] at h;cases h
 repeat apply jL
 refine⟨[],Nat,λk=>k<=G.length,λk=>[⟨47,[],.I k⟩],λk=>[⟨1,[],Dc (.i .i64) (.i .i64) Es (O8 (G.take k) f)⟩],λk=>G.length-k,
  ⟨0,[],bI _,rfl,rfl,rfl,rfl,rfl,nT,qI⟩,?_⟩
 intro k hk;have hk:k<=G.length:=hk;refine .inl ⟨λt=> ?_,λt=> ?_⟩
 ·have t:=pH t;have n:(k:Int).toNat=k:=aQ k;have g:=Qw G f (k:=k) J
  repeat apply jL
  refine⟨⟨J,J⟩,?_⟩
  repeat apply jL
  refine jB ((G.getD (k:Int).toNat dGt).grp==f) (λh=> ?_) λh=> ?_
  ·rw[n,cH] at h;unfold O1 at g;rw[aE h] at g;have N:G.getD (k:Int).toNat dGt=G.getD k dGt:=by rw[n]
   repeat apply jL
   refine⟨_,_,⟨λ_ _=>rfl,rfl,lK sD _ 0⟩,?_⟩;refine⟨_,_,_,_,_,⟨λ_ _=>rfl,rfl,lJ (d:=Es) sD _ _⟩,?_⟩;refine⟨k+1,[],jM,jM,rfl,rfl,rfl,rfl,rfl,nV,?_⟩;have l:eN (Dc (.i .i64) (.i .i64) Es (O8 (G.take (k+1)) f)) (Dc (.i .i64) (.i .i64) Es (kE (O8 (G.take k) f) (G.getD (k:Int).toNat dGt).per (o3 .or .i64 ((hU (O8 (G.take k) f) (G.getD (k:Int).toNat dGt).per).getD 0) (G.getD (k:Int).toNat dGt).rig))):=by rw[g,N];exact eN.refl _
   exact l
  ·rw[n,cE] at h;unfold O1 at g;rw[aB h] at g;refine⟨k+1,[],jM,jM,rfl,rfl,rfl,rfl,rfl,nV,?_⟩;have l:eN (Dc (.i .i64) (.i .i64) Es (O8 (G.take (k+1)) f)) (Dc (.i .i64) (.i .i64) Es (O8 (G.take k) f)):=by rw[g];exact eN.refl _
   exact l
 ·have t:=iT t;obtain rfl:k=G.length:=J
  rw[eJ];have S:=YZ f _ G rfl H
  repeat apply jL
  refine⟨[],List Nat×List (Int×Bool),λx=>HasJ (O8 G f) r x.1 x.2,λ_=>[],λx=>[⟨2,[],Dc (.i .i64) .b ZA x.2⟩,⟨3,[],.it 1 (O8 G f).length x.1⟩],λx=>(O8 G f).length-x.1.length,
   ⟨([],[]),[],HasJ.init _ _,rfl,rfl,rfl,rfl,rfl,trivial,⟨qI,⟨rfl,rfl,rfl⟩⟩⟩,?_⟩
  rintro⟨z,y⟩ j;have j:HasJ (O8 G f) r z y:=j;refine⟨rfl,λi w E=> ?_,λY=> ?_⟩
  ·repeat apply jL
   refine⟨λ_=> ?_,λh=>jC⟩
   repeat apply jL
   refine⟨i,⟨w,jS,rfl⟩,?_⟩
   repeat apply jL
   refine⟨_,_,_,_,_,⟨λ_ _=>rfl,rfl,lJ (d:=ZA) sD _ _⟩,?_⟩;exact⟨(z++[i],kE y ((O8 G f).getD i Es).1 (li ((O8 G f).getD i Es).2 r)),[],j.step S.nd w (by simpa using E),II j.nd j.rg w (by simpa using E),rfl,rfl,rfl,rfl,rfl,trivial,⟨nr,⟨rfl,rfl,rfl⟩⟩⟩
  ·repeat apply jL
   refine⟨λh=>jC,λ_=> ?_⟩;exact⟨⟨y,[],j.fin H K M Y,⟨nR,trivial,rfl⟩,rfl,λh=>jC⟩⟩
def Vp (C:List Cm) (G:List Gt) (c a r:Int) (i:Nat):Bool:=(C.getD i dCm).acc==a&&aHp G c (C.getD i dCm).per r
def x8 (C:List Cm) (G:List Gt) (c a r:Int) (k:Nat):List Int:=(List.range k).flatMap λi=>if Vp C G c a r i=true then [2*(i:Int)] else []
def uw (C:List Cm) (G:List Gt) (c a r:Int):List Int:=x8 C G c a r C.length
theorem cf (C:List Cm) (G:List Gt) (c a r:Int) (k:Nat):x8 C G c a r (k+1)=x8 C G c a r k++(if Vp C G c a r k=true then [2*(k:Int)] else []):=by unfold x8;rw[iN,oX];simp
theorem L5 (C:List Cm) (G:List Gt) (c a r:Int): ∀k,(x8 C G c a r k).length<=k
 |0=>by simp[x8]
 |k+1=>by have:=L5 C G c a r k;rw[cf,bD];split<;>simp<;>omega
theorem AG (C:List Cm) (G:List Gt) (c a r:Int):(uw C G c a r).length<=C.length:=L5 _ _ _ _ _ _
def aJ4 (y:List (Int×Bool)) (p:Int):Bool:=(hU y p).getD false
theorem aDs (y:List (Int×Bool)) (p:Int):k4 y.length (λi=> .I (y.getD i ZA).1) (λi=> .b (y.getD i ZA).2) (.I p) (.b (aJ4 y p)) (.b false) (hU y p).isSome:=lK (kf:= .i .i64) (vf:= .b) (d:=ZA) sD p false
theorem Et (C:List Cm) (P:List Pf_q1) (G:List Gt) (D:C.length<=1000) (f r:Int) (y:List (Int×Bool)) (x:Vn G f r y) (a:Int):
  cC 349 [IG C P y,.I a] [.row 3 1 (uw C G f a r).length (nB (uw C G f a r))] (.so 0):=by
 refine hZ Tryz.func349 [.tmp 4] [] ?_
 repeat apply jL
 refine⟨[(5,3,1)],Nat,λk=>k<=C.length,λk=>[⟨13,[],.I k⟩,⟨5,[],.so 0⟩],λk=>[⟨0,[],.row 3 1 (x8 C G f a r k).length (nB (x8 C G f a r k))⟩],λk=>C.length-k,
  ⟨0,[],bI _,rfl,rfl,rfl,rfl,rfl,⟨nT,rfl⟩,⟨rfl,rfl,rfl,λj w=>by cases w⟩⟩,?_⟩
 intro k n;have n:k<=C.length:=n;have z:=L5 C G f a r k;refine .inl ⟨λl=> ?_,λl=> ?_⟩
 ·have l:=pH l;have t:(k:Int).toNat=k:=aQ k;have g:=cf C G f a r k;have q:((C.getD (k:Int).toNat dCm).acc==a&&aJ4 y (C.getD (k:Int).toNat dCm).per)=Vp C G f a r k:=by rw[t];unfold Vp aJ4;rw[x]
  repeat apply jL
  refine⟨⟨J,J⟩,?_⟩
  repeat apply jL
  refine⟨_,_,⟨λ_=>⟨λ_ _=>rfl,rfl,aDs y _⟩,?_⟩⟩
  repeat apply jL
  refine jB ((C.getD (k:Int).toNat dCm).acc==a&&aJ4 y (C.getD (k:Int).toNat dCm).per) (λh=> ?_) λh=> ?_
  ·rw[q] at h;rw[aE h] at g;refine⟨oJ J,?_⟩;refine⟨k+1,[(0,3)],jM,jM,rfl,rfl,rfl,rfl,rfl,⟨nV,rfl⟩,zV _ _ ?_⟩;rw[g,wr J J]
  ·rw[q] at h;rw[aB jR,lE] at g;refine⟨k+1,[],jM,jM,rfl,rfl,rfl,rfl,rfl,⟨nV,rfl⟩,K6 g⟩
 ·have l:=iT l;obtain rfl:k=C.length:=J
  exact RetIs.so rfl rfl (λ_ _=>rfl) (λ_ _=>rfl)
theorem AH (C:List Cm) (P:List Pf_q1) (G:List Gt) (f:C.length<=1000) (g:(fP C P).length<2^62) (e r:Int) (y:List (Int×Bool)) (j:Vn G e r y) (a:Int):
  cC 310 [IG C P y,.I a] [] (.b (lY (fP C P) C.length (uw C G e a r))):=by
 refine hZ Tryz.func310 [.tmp 4] [] ?_;have l:=AG C G e a r
 refine jb (Et C P G f e r y j a) ?_
 repeat apply jL
 refine⟨[],_,E5 (fP C P) g C.length (uw C G e a r) J,?_⟩;exact RetIs.b rfl
def holdsY (C:List Cm) (P:List Pf_q1) (G:List Gt) (c a r:Int):Bool:=decide (poseE C P G r=0)&&lY (fP C P) C.length (uw C G c a r)
theorem Holds_fn (C:List Cm) (P:List Pf_q1) (G:List Gt) (l:C.length<=1000) (j:P.length<2^62) (g:G.length<2^62) (c a r:Int):
  cC 262 [.rs 2 C.length (rowsM C),.rs 3 P.length (rowsP P),.rs 3 G.length (rowsG_q1 G),.I c,.I a,.I r] [] (.tup [.b (holdsY C P G c a r),.I (poseE C P G r)]):=by
 refine hZ Tryz.func262 [.tmp 12,.tmp 13] [] ?_;by_cases e:poseE C P G r=0
 ·have q:=(i5.1 (Vo e).2.1).2;have f:holdsY C P G c a r=lY (fP C P) C.length (uw C G c a r):=by unfold holdsY;rw[gH e,oD]
  rw[f,e];refine .inr (.inr ⟨true,[],rfl,_,_,_,_,_,IJ C P G J j g c r e,λy n=> ?_⟩)
  repeat apply jL
  refine⟨λh=>jC,λ_=> ?_⟩
  repeat apply jL
  refine⟨[],_,AH C P G l J c r y n a,?_⟩;exact⟨ng⟩
 ·have f:holdsY C P G c a r=false:=by unfold holdsY;rw[gZ e,tK]
  rw[f]
  repeat apply jL
  refine⟨[],_,QY C P G J j g c r e,?_⟩
  repeat apply jL
  refine⟨λ_=> ?_,λh=> ?_⟩
  ·exact mQ
  ·have h:(poseE C P G r !=0)=false:=h;rw[fY] at h;exact absurd h e
end Go.Proofs.YtpnjmojpeaegoaaGreatDoor.Sb
namespace Go.Proofs.YtpnjmojpeaegoaaGreatDoor.Sc
open Go.Eng
theorem F0 (n a b:Int):cC 315 [.I n,.I a,.I b] [] (.b (decide (a<=n)&&decide (n<=b))):=by refine hZ Tryz.func315 [.tmp 6] [] ?_;exact RetIs.b rfl
structure Note where
 m:Int
 w:Int
 l:Int
 s:Int
 n:Bool
def Note.av (n:Note):List AV:=[.I n.m,.I n.w,.I n.l,.I n.s,.b n.n]
def ZB (n:Note) (b:Bool) (a c:Int):Bool:= !n.n&&n.w==c&&(n.m==a||b&&decide (n.m>a))
theorem RA (n:Note) (b:Bool) (a c:Int):cC 317 [.ag n.av,.b b,.ag [.I a,.I c]] [] (.b (ZB n b a c)):=by refine hZ Tryz.func317 [.tmp 6] [] ?_;exact RetIs.b rfl
def Vq (n:Note):Bool:=(decide (0<=n.m)&&decide (n.m<=99999))&&(decide (0<=n.w)&&decide (n.w<=1999))&&(decide (1<=n.l)&&decide (n.l<=4))&&(decide (0<=n.s)&&decide (n.s<=1073741824))
def dN:Note:=⟨0,0,0,0,false⟩
def rowsN (l:List Note) (k:Nat):List AV:=(l.getD k dN).av
def low (l:List Note) (b:Bool) (c e:Int):Int:=l.foldl (λa n=>if ZB n b c e then max a n.l else a) 0
theorem IK (l:List Note) (b:Bool) (a c:Int) (k:Nat) (h:k<l.length):low (l.take (k+1)) b a c=if ZB (l.getD k dN) b a c then max (low (l.take k) b a c) (l.getD k dN).l else low (l.take k) b a c:=
 uK _ _ l k dN h
theorem ZC (l:List Note) (j:l.length<2^62) (b:Bool) (a c:Int):cC 271 [.rs 5 l.length (rowsN l),.b b,.ag [.I a,.I c]] [] (.I (low l b a c)):=by
 refine hZ Tryz.func271 [.tmp 6] [] ?_;refine .inl ⟨[],Nat,λk=>k<=l.length,λk=>[⟨12,[],.I k⟩,⟨7,[],.I (low (l.take k) b a c)⟩],λ_=>[],λk=>l.length-k,
  qN,?_⟩
 intro k g;refine .inl ⟨λe=> ?_,λe=> ?_⟩
 ·have e:=pH e;have f:=IK l b a c k J;refine .inl ⟨J,.inl ⟨[],_,RA (l.getD k dN) _ _ _,⟨λh=> ?_,λh=> ?_⟩⟩⟩
  ·refine⟨k+1,[],jM,jM,rfl,rfl,rfl,rfl,rfl,⟨nV,rfl,?_⟩,trivial⟩;rw[f,h,aE rfl];rfl
  ·refine⟨k+1,[],jM,jM,rfl,rfl,rfl,rfl,rfl,⟨nV,rfl,?_⟩,trivial⟩;rw[f,h,aB jS]
 ·have e:=iT e;refine RetIs.i ?_;rw[fR J]
theorem aIp (n:Note):cC 314 [.ag n.av] [] (.b (!Vq n)):=by
 refine hZ Tryz.func314 [.tmp 2] [] ?_;refine .inl ⟨[],_,F0 _ _ _,?_⟩
 refine jc (F0 _ _ _) ?_
 refine jc (F0 _ _ _) ?_
 refine jc (F0 _ _ _) ?_;refine RetIs.b ?_;simp[Vq,Bool.not_and]
theorem gd {l:List Note} {k:Nat} (h:k<l.length):l.getD k dN=l[k]:=by simp[eR,h]
def aHf (p:Note->Bool) (l:List Note):Int:=match l.findIdx? p with|some k=>k|none=> -1
theorem aHv (p:Note->Bool) (l:List Note) (k:Nat) (c:k<l.length) (e: ∀j,j<k->p (l.getD j dN)=false) (a:p (l.getD k dN)=true):aHf p l=k:=by
 have:l.findIdx? p=some k:=by
  rw[eW];refine⟨c,?_,λj f=> ?_⟩
  ·rw[gd c] at a;exact a
  ·have:=e j f;rw[gd J] at this;simp[this]
 simp[aHf,this]
theorem aIq (p:Note->Bool) (l:List Note) (c: ∀j,j<l.length->p (l.getD j dN)=false):aHf p l= -1:=by
 have:l.findIdx? p=none:=by rw[gF];intro x e;obtain⟨j,a,rfl⟩:=cU e;have:=c j a;rw[gd a] at this;exact this
 simp[aHf,this]
theorem aI3 (p:Note->Bool) (l:List Note):decide (aHf p l>=0)=l.any p:=by
 unfold aHf;cases h:l.findIdx? p with
 |none=>
  rw[gF] at h;have:l.any p=false:=jH
  rw[this];rfl
 |some k=>
  rw[eW] at h;obtain⟨a,c,_⟩:=h;have:l.any p=true:=by rw[kC];exact⟨_,fN a,c⟩
  rw[this];simp
theorem AI (l:List Note) (f:l.length<2^62) (a:FuncId) (p:Note->Bool) (e: ∀x:Note,cC a [.ag x.av] [] (.b (p x))):
  cC 316 [.rs 5 l.length (rowsN l),.fn a []] [] (.I (aHf p l)):=by
 refine hZ Tryz.func316 [.tmp 4] [] ?_;refine .inl ⟨[],Nat,λk=>k<=l.length/\ ∀j,j<k->p (l.getD j dN)=false,λk=>[⟨8,[],.I k⟩],λ_=>[],λk=>l.length-k,
  na,?_⟩
 intro k c;obtain⟨c,hno⟩:=c;refine .inl ⟨λhc=> ?_,λhc=> ?_⟩
 ·have hc:=pH hc;refine .inl ⟨J,.inl ⟨[],_,e (l.getD k dN),⟨λh=> ?_,λh=> ?_⟩⟩⟩
  ·refine RetIs.i ?_;exact(aHv p l k J hno h).symm
  ·exact mF
 ·exact qU
theorem Eu (l:List Note) (c:l.length<2^62) (a:FuncId) (p:Note->Bool) (e: ∀x:Note,cC a [.ag x.av] [] (.b (p x))):
  cC 269 [.rs 5 l.length (rowsN l),.fn a []] [] (.b (l.any p)):=by
 refine hZ Tryz.func269 [.tmp 4] [] ?_;refine .inl ⟨[],_,AI l c a p e,?_⟩;exact RetIs.b (aI3 p l)
def IL (l:List Note):Bool:=decide (l.length<=1000)&& !l.any λn=> !Vq n
theorem aJ2 (l:List Note) (c:l.length<2^62):cC 268 [.rs 5 l.length (rowsN l)] [] (.b (IL l)):=by
 refine hZ Tryz.func268 [.tmp 2] [] ?_
 repeat apply jL
 refine⟨[],_,λ_=>Eu l c 314 (λn=> !Vq n) aIp,?_⟩;refine RetIs.b ?_;have:decide ((l.length:Int)<=1000)=decide (l.length<=1000):=uB.2 J;simp[IL,this]
def den (n:Note) (a c:Int):Bool:=n.n&&n.m==a&&n.w==c
def AJ (l:List Note) (c e:Int):Int:=l.foldl (λa n=>if den n c e then min a (IntKind.i64.wrap (n.l-1)) else a) 4
theorem AK (l:List Note) (a c:Int) (k:Nat) (h:k<l.length):AJ (l.take (k+1)) a c=if den (l.getD k dN) a c then min (AJ (l.take k) a c) (IntKind.i64.wrap ((l.getD k dN).l-1)) else AJ (l.take k) a c:=
 uK _ _ l k dN h
theorem RB (l:List Note) (j:l.length<2^62) (a c:Int):cC 272 [.rs 5 l.length (rowsN l),.ag [.I a,.I c]] [] (.I (AJ l a c)):=by
 refine hZ Tryz.func272 [.tmp 4] [] ?_;refine .inl ⟨[],Nat,λk=>k<=l.length,λk=>[⟨10,[],.I k⟩,⟨5,[],.I (AJ (l.take k) a c)⟩],λ_=>[],λk=>l.length-k,
  qN,?_⟩
 intro k g;refine .inl ⟨λe=> ?_,λe=> ?_⟩
 ·have e:=pH e;have f:=AK l a c k J;refine .inl ⟨J,⟨λh=> ?_,λh=> ?_⟩⟩
  ·have h:den (l.getD k dN) a c=true:=h;refine⟨k+1,[],jM,jM,rfl,rfl,rfl,rfl,rfl,⟨nV,rfl,?_⟩,trivial⟩;rw[f,h,aE rfl];rfl
  ·have h:den (l.getD k dN) a c=false:=h;refine⟨k+1,[],jM,jM,rfl,rfl,rfl,rfl,rfl,⟨nV,rfl,?_⟩,trivial⟩;rw[f,h,aB jS]
 ·have e:=iT e;refine RetIs.i ?_;rw[fR J]
def bad (l:List Note) (b:Bool) (n:Note):Bool:=n.n&&decide (low l b n.m n.w>AJ l n.m n.w)
theorem aIr (l:List Note) (e:l.length<2^62) (b:Bool) (n:Note):cC 270 [.ag n.av,.rp [.rs 5 l.length (rowsN l)],.rp [.b b]] [] (.b (bad l b n)):=by
 refine hZ Tryz.func270 [.tmp 4] [(2000002,[.frz 0 [1]])] ?_
 refine jc (ZC l e b _ _) ?_
 refine jc (RB l e _ _) ?_;exact RetIs.b rfl
theorem aIs (l:List Note) (n:l.length<2^62) (a:FuncId) (c e:List AV) (p:Note->Bool) (g: ∀x:Note,cC a [.ag x.av,.rp c,.rp e] [] (.b (p x))):
  cC 316 [.rs 5 l.length (rowsN l),.fn a [.rp c,.rp e]] [] (.I (aHf p l)):=by
 refine hZ Tryz.func316 [.tmp 4] [] ?_;refine .inl ⟨[],Nat,λk=>k<=l.length/\ ∀j,j<k->p (l.getD j dN)=false,λk=>[⟨8,[],.I k⟩],λ_=>[],λk=>l.length-k,
  na,?_⟩
 intro k f;obtain⟨f,hno⟩:=f;refine .inl ⟨λhc=> ?_,λhc=> ?_⟩
 ·have hc:=pH hc;refine .inl ⟨J,.inl ⟨[],_,g (l.getD k dN),⟨λh=> ?_,λh=> ?_⟩⟩⟩
  ·refine RetIs.i ?_;exact(aHv p l k J hno h).symm
  ·exact mF
 ·exact qU
theorem aI6 (l:List Note) (f:l.length<2^62) (a:FuncId) (c e:List AV) (p:Note->Bool) (g: ∀x:Note,cC a [.ag x.av,.rp c,.rp e] [] (.b (p x))):
  cC 269 [.rs 5 l.length (rowsN l),.fn a [.rp c,.rp e]] [] (.b (l.any p)):=by
 refine hZ Tryz.func269 [.tmp 4] [] ?_;refine .inl ⟨[],_,aIs l f a c e p g,?_⟩;exact RetIs.b (aI3 p l)
def t7 (l:List Note) (b:Bool):Bool:=IL l&& !l.any (bad l b)
theorem aHn (l:List Note) (a:l.length<2^62) (b:Bool):cC 205 [.rs 5 l.length (rowsN l),.b b] [] (.b (t7 l b)):=by
 refine hZ Tryz.func205 [.tmp 4] [] ?_;refine .inl (.inl ⟨[],_,aJ2 l a,⟨λh=> ?_,λh=> .inl ⟨[],_,aI6 l a 270 _ _ (bad l b) (aIr l a b),?_⟩⟩⟩)
 ·exact RetIs.b (by simp at h;simp[t7,h])
 ·exact RetIs.b (by simp at h;simp[t7,h])
theorem RetIs.soI {k:IntKind} {c d:Int} {e sz n n':Nat} {get a:Nat->List AV} {id nid:Nat} {O:List OE} (hg:fK id O=some ([],.row e sz n' a)) (h:n'=n) (hget: ∀k,k<n->a k=get k) (g: ∀k,k<n->AV.freshs (get k)=true) (f:d=c):
  RetIs [.row e sz n get] (.tup [.so 0,.i k c]) (.tup [.so id,.i k d]) O nid:=by
 subst h;subst f;refine⟨[(0,id)],⟨⟨⟨rfl,rfl,?_⟩,trivial⟩,⟨⟨rfl,rfl,trivial,?_⟩,trivial⟩,rfl⟩,rfl,g⟩
 ·exact rfl
 ·exact mH
theorem ll (l:List Note): ∀k,k<l.length->AV.freshs (rowsN l k)=true:=λ_ _=>rfl
theorem VG (l:List Note) (n:Note): ∀k,k<(l++[n]).length->iJ l.length (rowsN l) (kJ 5 n.av) k=rowsN (l++[n]) k:=by
 intro k hk;unfold iJ rowsN;by_cases h:k<l.length
 ·exact nE
 ·exact nO
theorem AL (l:List Note): ∀k,k<l.length->iJ 0 (kJ 5 []) (rowsN l) k=rowsN l k:=λ_ _=>rfl
def aJe (l:List Int) (k:Nat):List AV:=[.I (l.getD k 0)]
theorem cloneN_fn (l:List Note) (a:l.length<=100000):cC 146 [.rs 5 l.length (rowsN l)] [.row 100 5 l.length (rowsN l)] (.so 0):=by
 refine hZ Tryz.func146 [.tmp 2] [(999999,[.nl 2 100 5])] ?_;refine .inl λc hc=>⟨λh=> ?_,λh=>⟨oJ J,?_⟩⟩
 ·exact mP
 ·exact RetIs.so rfl (dR _) (AL l) (ll l)
theorem aG7 (n:Note): ∀k,k<1->kJ 5 n.av k=rowsN [n] k:=by
 intro k a;have:k=0:=J
 subst this;rfl
theorem aDt (n:Note):eV (.rs 5 [n].length (rowsN [n])) (.rs 5 1 (kJ 5 n.av)):=⟨rfl,rfl,λk a=>aG7 n k a⟩
theorem Qy (n:Note):cC 206 [.ag n.av] [] (.b (t7 [n] false)):=by
 refine hZ Tryz.func206 [.tmp 2] [] ?_
 repeat apply jL
 refine⟨[],_,j8.of_eq (args:=[.rs 5 [n].length (rowsN [n]),.b false]) ⟨aDt n,eV.refl _⟩ (aHn [n] jS false),?_⟩;exact RetIs.b rfl
instance:DecidableEq Note:=λa b=>
 if h:a.m=b.m/\a.w=b.w/\a.l=b.l/\a.s=b.s/\a.n=b.n then isTrue (by obtain⟨c,e,f,g,j⟩:=a;obtain⟨k,b2,q,t,x⟩:=b;simp at h;obtain⟨rfl,rfl,rfl,rfl,rfl⟩:=h;rfl) else isFalse (by rintro rfl;exact h ⟨rfl,rfl,rfl,rfl,rfl⟩)
def addY (l:List Note) (n:Note) (b:Bool):List Note×Int:=
 if(!t7 l b|| !t7 [n] false)=true then([],1) else if 1000<=l.length then([],6) else if t7 (l++[n]) b=false then([],17) else(l++[n],0)
theorem Add_fn (l:List Note) (t:l.length<2^62) (n:Note) (b:Bool):cC 120 [.rs 5 l.length (rowsN l),.ag n.av,.b b] [.row 100 5 (addY l n b).1.length (rowsN (addY l n b).1)] (.tup [.so 0,.I (addY l n b).2]):=by
 refine hZ Tryz.func120 [.tmp 6,.tmp 7] [(999999,[.nl 6 100 5]),(2000005,[.frz 0 [0]])] ?_
 refine jb (aHn l t b) ?_
 repeat apply jL
 refine⟨[],_,λ_=>Qy n,⟨λh=> ?_,λh=> ?_⟩⟩
 ·have h:(!t7 l b|| !t7 [n] false)=true:=h;have e:addY l n b=([],1):=by unfold addY;rw[aE h]
  rw[e];exact RetIs.soI rfl rfl (λk hk=>jk) (λk hk=>jk) rfl
 have h:(!t7 l b|| !t7 [n] false)=false:=h;have f: ¬(!t7 l b|| !t7 [n] false)=true:=by rw[h];simp
 repeat apply jL
 refine jB (decide ((l.length:Int)>=1000)) (λh2=> ?_) λh2=> ?_
 ·rw[aM] at h2;have e:addY l n b=([],6):=by unfold addY;rw[aB f,aE J]
  rw[e];exact RetIs.soI rfl rfl (λk hk=>jk) (λk hk=>jk) rfl
 rw[bH] at h2;have g:(l++[n]).length=l.length+1:=jS
 repeat apply jL
 refine⟨.br 1 (.st 3 2 .leaf) 3 (.st 1 2 .leaf),V,Unit,λ_=>True,Function.const Unit ?_,?_,λ_ _=>⟨?_,?_⟩⟩
 rotate_left
 ·refine⟨?_,?_⟩
  ·refine eX ⟨_,_,cloneN_fn l J,?_⟩;refine⟨(),[],trivial,?_,xI ?_ ?_⟩
   rotate_left
   ·show _=id _;rfl
   ·exact mG
   ·rfl
  ·refine eX ⟨_,_,cloneN_fn l J,?_⟩;refine⟨(),[(1,2),(2,1)],trivial,rfl,?_,?_,rfl⟩<;>(repeat' first|exact rfl|exact trivial|refine⟨?_,?_⟩|intro _ _)
 ·rfl
 refine⟨oJ J,?_⟩;have j:eV (.rs 5 (l++[n]).length (rowsN (l++[n]))) (.rs 5 (l.length+1) (iJ l.length (rowsN l) (kJ 5 n.av))):=⟨rfl,g.symm,λk hk=>VG l n k hk⟩
 repeat apply jL
 refine⟨[],_,j8.of_eq (args:=[.rs 5 (l++[n]).length (rowsN (l++[n])),.b b]) ⟨j,eV.refl _⟩ (aHn (l++[n]) J b),⟨λh3=> ?_,λh3=> ?_⟩⟩
 ·have h3:(!t7 (l++[n]) b)=true:=h3;have e:addY l n b=([],17):=by unfold addY;rw[aB f,aB J,aE j3]
  rw[e];exact RetIs.soI rfl rfl (λk hk=>jk) (λk hk=>jk) rfl
 have h3:(!t7 (l++[n]) b)=false:=h3;have e:addY l n b=(l++[n],0):=by unfold addY;rw[aB f,aB J,aB j3]
 rw[e];exact RetIs.soI rfl g.symm (VG l n) (ll _) rfl
end Go.Proofs.YtpnjmojpeaegoaaGreatDoor.Sc
namespace Go.Proofs.YtpnjmojpeaegoaaGreatDoor.Sa
open Go.Eng
def aHw (n:Int):Bool:=decide (0<=n)&&decide (n<=1073741824)
theorem AM (p:Hld->Bool) (l:List Hld):(aH4 p l= -1/\ ∀j,j<l.length->p (l.getD j dH)=false)\/ ∃k,k<l.length/\aH4 p l=k/\p (l.getD k dH)=true/\ ∀j,j<k->p (l.getD j dH)=false:=by
 cases h:l.findIdx? p with
 |none=>left;refine⟨by simp[aH4,h],λj a=> ?_⟩;rw[gF] at h;rw[QU a];exact h _ (fN a)
 |some k=>
  right;refine⟨k,?_⟩;rw[eW] at h;obtain⟨c,f,e⟩:=h;refine⟨c,?_,by rw[QU c];exact f,λj a=> ?_⟩
  ·unfold aH4;rw[eW.2 ⟨c,f,e⟩]
  ·rw[QU J];simpa using e j a
def Hld.lift (h:Hld) (a:Int):Hld:=⟨h.id,h.ev,h.fr,a⟩
def liftK (l:List Hld) (a:Int) (k:Nat):List Hld×Int:=
 if(l.getD k dH).fr>a then(l,15) else
 if((l.getD k dH).to != -1&&decide ((l.getD k dH).to<=a))=true then(l,16) else(l.set k ((l.getD k dH).lift a),0)
def Lift (l:List Hld) (id a:Int):List Hld×Int:=
 if(!E9 l|| !aHw a)=true then(l,1) else
 match l.findIdx? (λx=>x.id==id) with
 |none=>(l,4)
 |some k=>liftK l a k
theorem AN {l:List Hld} {p:Hld->Bool} (h: ∀j,j<l.length->p (l.getD j dH)=false):l.findIdx? p=none:=by rw[gF];intro x c;obtain⟨j,a,rfl⟩:=cU c;have:=h j a;rw[QU a] at this;exact this
theorem AP {l:List Hld} {p:Hld->Bool} {k:Nat} (c:k<l.length) (a:p (l.getD k dH)=true) (e: ∀j,j<k->p (l.getD j dH)=false):l.findIdx? p=some k:=by rw[eW];refine⟨c,by rw[QU c] at a;exact a,λj f=> ?_⟩;have:=e j f;rw[QU J] at this;simp[this]
theorem AQ (l:List Hld) (k:Nat) (a:Int) (c:k<l.length): ∀q,q<(l.set k ((l.getD k dH).lift a)).length->
  (if q=k then over_q0 3 [.I a] (rowsH l q) else rowsH l q)=rowsH (l.set k ((l.getD k dH).lift a)) q:=by
 intro q f;rw[iD] at f;unfold rowsH;by_cases h:q=k
 ·subst h;rw[aE rfl];have e:(l.set q ((l.getD q dH).lift a)).getD q dH=(l.getD q dH).lift a:=by simp[List.getD,c]
  rw[e];rfl
 ·rw[aB h];have e:(l.set k ((l.getD k dH).lift a)).getD q dH=l.getD q dH:=by simp[List.getD,iS h]
  rw[e]
theorem Lift_fn (l:List Hld) (C:l.length*32<=140737488355328) (id now:Int):
  cC 127 [.rs 4 l.length (rowsH l),.I id,.I now] [.row 106 4 (Lift l id now).1.length (rowsH (Lift l id now).1)] (.tup [.so 0,.I (Lift l id now).2]):=by
 refine hZ Tryz.func127 [.tmp 6,.tmp 7] [] ?_;have nl:l.length<2^62:=J
 have n:=aHu l nl 216 _ (λx=>x.id==id) (HZ id);rcases AM (λx=>x.id==id) l with ⟨w,t⟩|⟨k,A,w,E,t⟩
 ·rw[w] at n;refine .inl ⟨_,_,cloneH_fn l C,.inl ⟨[],_,n,?_⟩⟩
  refine jb (Ah l nl) ?_
  repeat apply jL
  refine⟨[],_,λ_=>pq now,⟨λh=> ?_,λh=> ?_⟩⟩
  ·exact qS
  ·have h:(!E9 l|| !aHw now)=false:=h;refine⟨λz=> ?_,λz=> ?_⟩
   ·unfold Lift;rw[aB (by rw[h];simp),AN t];exact RetIs.soI rfl rfl (λ_ _=>rfl) (yC l) rfl
   ·exact absurd z jD
 ·rw[w] at n;have j:(k:Int).toNat=k:=aQ k;refine .inl ⟨_,_,cloneH_fn l C,.inl ⟨[],_,n,?_⟩⟩
  refine jb (Ah l nl) ?_
  repeat apply jL
  refine⟨[],_,λ_=>pq now,⟨λh=> ?_,λh=> ?_⟩⟩
  ·exact qS
  have h:(!E9 l|| !aHw now)=false:=h;have D:Lift l id now=liftK l now k:=by unfold Lift;rw[aB (by rw[h];simp),AP A E t]
  rw[D];refine⟨λz=> ?_,λz=> ?_⟩
  ·have z:=pH z;omega
  refine⟨⟨J,J⟩,J,⟨λf=> ?_,λf=> ?_⟩⟩
  ·have f:decide ((l.getD (k:Int).toNat dH).fr>now)=true:=f;rw[j,aM] at f;have e:liftK l now k=(l,15):=by unfold liftK;rw[aE f]
   rw[e];exact RetIs.soI rfl rfl (λ_ _=>rfl) (yC l) rfl
  have f:decide ((l.getD (k:Int).toNat dH).fr>now)=false:=f;rw[j,bH] at f;refine⟨⟨J,J⟩,J,λ_=>J,λ_=>J,⟨λg=> ?_,λg=> ?_⟩⟩
  ·have g:((l.getD (k:Int).toNat dH).to != -1&&decide ((l.getD (k:Int).toNat dH).to<=now))=true:=g;rw[j] at g;have e:liftK l now k=(l,16):=by unfold liftK;rw[aB f,aE g]
   rw[e];exact RetIs.soI rfl rfl (λ_ _=>rfl) (yC l) rfl
  ·have g:((l.getD (k:Int).toNat dH).to != -1&&decide ((l.getD (k:Int).toNat dH).to<=now))=false:=g;rw[j] at g;have e:liftK l now k=(l.set k ((l.getD k dH).lift now),0):=by unfold liftK;rw[aB f,aB (by rw[g];simp)]
   rw[e];refine⟨⟨J,J⟩,J,?_⟩;refine RetIs.soI rfl jS (λq F=> ?_) (yC _) rfl;rw[<-AQ l k now A q F];show(if q=(k:Int).toNat then _ else _)=_;rw[j];rfl
def lm:List Int->Int->Nat
 |[],_=>0
 |x::r,n=>if x<n then lm r n+1 else 0
def aH8 (o:List Int) (n:Int):List Int:=if lm o n=o.length\/o.getD (lm o n) 0≠n then o.take (lm o n)++n::o.drop (lm o n) else o
theorem Vr (n:Int):aH8 [] n=[n]:=by simp[aH8,lm]
theorem Kq (x:Int) (r:List Int) (n:Int):aH8 (x::r) n=if x<n then x::aH8 r n else if x=n then x::r else n::x::r:=by
 have e:lm (x::r) n=if x<n then lm r n+1 else 0:=rfl;unfold aH8;rw[e];by_cases h:x<n
 ·rw[aE h,aE h];simp only[gR,rR,lU,List.take_succ_cons,zG,xK];split<;>rfl
 ·rw[aB h,aB h];by_cases a:x=n
  ·simp[a]
  ·simp[a]
theorem Vs (o:List Int) (n x:Int):x∈aH8 o n↔x=n\/x∈o:=by
 induction o with
 |nil=>simp[Vr]
 |cons y r c=>
  rw[Kq];by_cases h:y<n
  ·rw[aE h,eF,c,eF];constructor
   ·exact nP
   ·exact nP
  ·rw[aB h];by_cases a:y=n
   ·rw[aE a,eF,a];constructor
    ·exact .inr
    ·rintro(h1|h1)
     ·exact .inl h1
     ·exact h1
   ·rw[aB a,eF]
theorem RC {o:List Int} (h:o.Pairwise (· < ·)) (n:Int):(aH8 o n).Pairwise (· < ·):=by
 induction o with
 |nil=>simp[Vr]
 |cons y r f=>
  rw[jP] at h;rw[Kq];by_cases c:y<n
  ·rw[aE c,jP];refine⟨λx a=> ?_,f h.2⟩;rcases(Vs r n x).1 a with rfl|a
   ·exact c
   ·exact h.1 x a
  ·rw[aB c];by_cases e:y=n
   ·rw[aE e,jP];exact h
   ·rw[aB e,jP,jP];refine⟨λx a=> ?_,h⟩;rcases eF.1 a with rfl|a
    ·omega
    ·have:=h.1 x a;omega
theorem Al {o:List Int} (h:o.Pairwise (· < ·)):kO o=o:=
 List.mergeSort_of_pairwise (h.imp λa=>jO)
structure Sta_q1 where
 acc:Int
 grp:Int
 fr:Int
 to:Int
def dS:Sta_q1:=⟨0,0,0,0⟩
def Vt (e:Ev) (a g:Int):Bool:=e.k==5&&e.w==a&&e.g==g
def yY (e:Ev) (a g:Int):Bool:=e.g==g&&((e.k==6&&e.a==a)||(e.k==7&&e.w==a))
def CQ (e:Nat->Ev) (a g:Int):Nat->Bool
 |0=>false
 |k+1=>if Vt (e k) a g=true then true else if yY (e k) a g=true then false else CQ e a g k
def rY (e:Nat->Ev) (i:Nat):Bool:=(e i).k==5&& !CQ e (e i).w (e i).g i
def endN (e:Nat->Ev) (a g:Int) (i:Nat):Nat->Int
 |0=> -1
 |n+1=>if endN e a g i n= -1/\i<=n/\yY (e n) a g=true then n else endN e a g i n
def aHh (e:Nat->Ev) (n i:Nat):Sta_q1:=⟨(e i).w,(e i).g,i,endN e (e i).w (e i).g (i+1) n⟩
def wW (e:Nat->Ev) (n:Nat):List Nat:=(List.range n).filter (rY e)
def stays (e:Nat->Ev) (n:Nat):List Sta_q1:=(wW e n).map (aHh e n)
def U9 (ev:Ev) (n:Nat) (s:Sta_q1):Sta_q1:=if s.to= -1/\yY ev s.acc s.grp=true then⟨s.acc,s.grp,s.fr,n⟩ else s
theorem F1 {e:Ev} (h:e.k=5) (a g:Int):yY e a g=false:=by unfold yY;rw[h];simp
theorem O2 (e:Nat->Ev) (a g:Int) (i:Nat): ∀n,endN e a g i n= -1↔ ∀q,i<=q->q<n->yY (e q) a g=false
 |0=>⟨λ_ q _ h=>J,λ_=>rfl⟩
 |n+1=>by
  have l:=O2 e a g i n;unfold endN;constructor
  ·intro h q c t;split at h
   ·omega
   ·rename_i z;have f:=l.1 h;by_cases A:q=n
    ·subst A;cases x:yY (e q) a g
     ·rfl
     ·exact(z ⟨h,c,x⟩).elim
    ·exact f q c J
  ·intro h;have f:=l.2 λq c t=>h q c J;rw[aB]
   ·exact f
   ·rintro⟨_,w,j⟩;rw[h n w J] at j;cases j
theorem jm (e:Nat->Ev) (a g:Int) (i:Nat): ∀n,endN e a g i n≠ -1-> ∃q:Nat,endN e a g i n=q/\i<=q/\q<n/\yY (e q) a g=true
 |0,h=>(h rfl).elim
 |n+1,h=>by
  unfold endN at h|-;split
  ·rename_i c;exact⟨n,rfl,c.2.1,J,c.2.2⟩
  ·rename_i c;rw[aB c] at h;obtain⟨q,f,j,t,l⟩:=jm e a g i n h;exact⟨q,f,j,J,l⟩
theorem Am (e:Nat->Ev) (a g:Int) (i m:Nat) (c:endN e a g i m≠ -1): ∀n,m<=n->endN e a g i n=endN e a g i m
 |0,h=>by
  have:m=0:=J
  subst this;rfl
 |n+1,h=>by
  by_cases l:m=n+1
  ·subst l;rfl
  ·have f:=Am e a g i m c n J;have j:endN e a g i (n+1)=if endN e a g i n= -1/\i<=n/\yY (e n) a g=true then(n:Int) else endN e a g i n:=rfl;rw[j,aB (by rw[f];exact λq=>c q.1),f]
theorem ux (e:Nat->Ev) (a g:Int) (i n:Nat) (h:n<=i):endN e a g i n= -1:=(O2 e a g i n).2 λq c f=>J
theorem Kr (e:Nat->Ev) (n:Nat):wW e (n+1)=wW e n++if rY e n=true then [n] else []:=by
 unfold wW;rw[iN,gS]
 congr 1
 simp only[iW,yJ]
theorem tH {e:Nat->Ev} {n i:Nat}:i∈wW e n↔i<n/\rY e i=true:=by unfold wW;rw[eC,fO]
theorem IM (e:Nat->Ev) (n i:Nat) (h:i<n):aHh e (n+1) i=U9 (e n) n (aHh e n i):=by
 unfold aHh U9;have c:endN e (e i).w (e i).g (i+1) (n+1)=if endN e (e i).w (e i).g (i+1) n= -1/\i+1<=n/\yY (e n) (e i).w (e i).g=true then(n:Int) else endN e (e i).w (e i).g (i+1) n:=rfl;rw[c];dsimp only;by_cases a:endN e (e i).w (e i).g (i+1) n= -1/\yY (e n) (e i).w (e i).g=true
 ·rw[aE ⟨a.1,J,a.2⟩,aE a]
 ·rw[aB λh=>a ⟨h.1,h.2.2⟩,aB a]
theorem RD (e:Nat->Ev) (n:Nat):aHh e (n+1) n=⟨(e n).w,(e n).g,n, -1⟩:=by unfold aHh;rw[ux e _ _ _ _ (aG _)]
theorem V0 (e:Nat->Ev) (n:Nat):stays e (n+1)=(stays e n).map (U9 (e n) n)++if rY e n=true then [⟨(e n).w,(e n).g,n, -1⟩] else []:=by
 unfold stays;rw[Kr,fJ,pK]
 congr 1
 ·apply oY;intro i a;exact IM e n i (tH.1 a).1
 ·split
  ·simp only[gP,p4,RD]
  ·rfl
theorem ps (e:Nat->Ev) (a g:Int): ∀n,CQ e a g n=true↔ ∃i,i<n/\rY e i=true/\(e i).w=a/\(e i).g=g/\endN e a g (i+1) n= -1
 |0=>⟨λh=>jC,λ⟨i,h,_⟩=>J⟩
 |n+1=>by
  have G:=ps e a g n;unfold CQ;by_cases x:Vt (e n) a g=true
  ·rw[aE x];refine⟨λ_=> ?_,λ_=>rfl⟩;unfold Vt at x;simp only[aW,cH] at x;obtain⟨⟨E,F⟩,C⟩:=x;cases A:CQ e a g n with
   |true=>obtain⟨i,z,c,j,l,f⟩:=G.1 A;refine⟨i,J,c,j,l,?_⟩;unfold endN;rw[aB (by rw[F1 E];rintro⟨_,_,h⟩;cases h)];exact f
   |false=>refine⟨n,J,?_,F,C,ux _ _ _ _ _ (aG _)⟩;unfold rY;rw[E,F,C,A];rfl
  ·rw[aB x];by_cases t:yY (e n) a g=true
   ·rw[aE t];refine⟨λh=>jC,?_⟩;rintro⟨i,z,c,j,l,f⟩;by_cases D:i=n
    ·subst D;unfold rY at c;rw[aW,cH] at c;rw[F1 c.1] at t;cases t
    ·have:=(O2 e a g (i+1) (n+1)).1 f n J J;rw[this] at t;cases t
   ·rw[aB t,G];constructor
    ·rintro⟨i,z,c,j,l,f⟩;refine⟨i,J,c,j,l,?_⟩;unfold endN;rw[aB (λh=>t h.2.2)];exact f
    ·rintro⟨i,z,c,j,l,f⟩;have D:i≠n:=by rintro rfl;apply x;unfold rY at c;rw[aW,cH] at c;unfold Vt;rw[c.1,j,l];simp
     refine⟨i,J,c,j,l,?_⟩;rw[O2] at f|-;exact λq H K=>f q H J
theorem apart {e:Nat->Ev} {i j:Nat} (hi:rY e i=true) (c:rY e j=true) (l:i<j) (A:(e i).w=(e j).w) (x:(e i).g=(e j).g) {n:Nat} (z:j<=n):
  ∃q:Nat,endN e (e i).w (e i).g (i+1) n=q/\i<q/\q<j:=by
 have f:endN e (e i).w (e i).g (i+1) j≠ -1:=by intro h;have a:=(ps e (e i).w (e i).g j).2 ⟨i,l,hi,rfl,rfl,h⟩;unfold rY at c;rw[<-A,<-x,a] at c;simp at c
 obtain⟨q,a,C,t,_⟩:=jm e _ _ _ j f;exact⟨q,by rw[Am e _ _ _ _ f n z,a],J,t⟩
theorem IN {e:Nat->Ev} {i j n:Nat} (hi:rY e i=true) (c:rY e j=true) (l:i<n) (t:j<n) (f:(e i).w=(e j).w) (a:(e i).g=(e j).g)
  (x:endN e (e i).w (e i).g (i+1) n= -1) (z:endN e (e j).w (e j).g (j+1) n= -1):i=j:=by
 rcases kL i j with h|h|h
 ·obtain⟨q,k,_⟩:=apart hi c h f a (by omega:j<=n);omega
 ·exact h
 ·obtain⟨q,k,_⟩:=apart c hi h f.symm a.symm (by omega:i<=n);omega
theorem An {e f:Nat->Ev} {a g:Int}: ∀{n:Nat},(∀i,i<n->e i=f i)->CQ e a g n=CQ f a g n
 |0,_=>rfl
 |n+1,h=>by unfold CQ;rw[h n J,An (n:=n) λi c=>h i J]
theorem Ew {e f:Nat->Ev} {n i:Nat} (h: ∀i,i<n->e i=f i) (hi:i<n):rY e i=rY f i:=by unfold rY;rw[h i hi,An λj a=>h j J]
theorem uy {e f:Nat->Ev} {a g:Int} {i:Nat}: ∀{n:Nat},(∀i,i<n->e i=f i)->endN e a g i n=endN f a g i n
 |0,_=>rfl
 |n+1,h=>by unfold endN;rw[h n J,uy (n:=n) λi c=>h i J]
theorem Ex {e f:Nat->Ev} {n:Nat} (h: ∀i,i<n->e i=f i):wW e n=wW f n:=by unfold wW;apply List.filter_congr;intro i a;exact Ew h (fO.1 a)
theorem Ks {e f:Nat->Ev} {n:Nat} (h: ∀i,i<n->e i=f i):stays e n=stays f n:=by unfold stays;rw[Ex h];apply oY;intro i a;have a:=(tH.1 a).1;unfold aHh;rw[h i a,uy h]
theorem Qz (e:Nat->Ev) (n:Nat):(wW e n).Pairwise (· < ·):=List.pairwise_lt_range.filter _
theorem Ra (e:Nat->Ev) (n:Nat):(wW e n).length<=n:=by unfold wW;refine cO (gC _ _) ?_;simp
theorem stays_len (e:Nat->Ev) (n:Nat):(stays e n).length<=n:=by unfold stays;rw[fC];exact Ra e n
def j4 (g:Int) (s:Sta_q1):Bool:=s.grp==g&&s.to== -1
def ln (e:Nat->Ev) (g:Int) (m:Nat):List Int:=((stays e m).filter (j4 g)).map Sta_q1.acc
theorem jn {e:Nat->Ev} {g a:Int} {m:Nat}:a∈ln e g m↔CQ e a g m=true:=by
 unfold ln stays j4;rw[ps];simp only[fL,eC,aW,cH];constructor
 ·rintro⟨s,⟨⟨i,f,rfl⟩,c,h⟩,rfl⟩;have f:=tH.1 f;have c:(e i).g=g:=c;subst c;exact⟨i,f.1,f.2,rfl,rfl,h⟩
 ·rintro⟨i,c,h,j,k,l⟩;subst j k;exact⟨aHh e m i,⟨⟨i,tH.2 ⟨c,h⟩,rfl⟩,rfl,l⟩,rfl⟩
theorem Kt (e:Nat->Ev) (g:Int) (m:Nat):(ln e g m).Nodup:=by unfold ln stays;rw[vE,pK];rw[pU,gQ];refine vO ?_ ((Qz e m).filter _);intro i j h k q;rw[eC] at h k;have l:=tH.1 h.1;have n:=tH.1 k.1;have a:=h.2;have c:=k.2;unfold j4 at a c;simp only[Function.comp,aW,cH] at a c;intro f;have f:(e i).w=(e j).w:=f;have:=IN l.2 n.2 l.1 n.1 f (a.1.trans c.1.symm) a.2 c.2;omega
theorem ZD {a b:List Int} (c:a.Pairwise (· < ·)) (e:b.Pairwise (· < ·)) (h: ∀k,k∈a↔k∈b):a=b:=by have f:a.Perm b:=(uQ (c.imp λg=>J) (e.imp λg=>J)).2 h;rw[<-Al c,<-Al e];exact Go.mergeSort_of_perm_i f
def RE (m:List Int):List Int:=m.foldl aH8 []
theorem Ku (m:List Int):(RE m).Pairwise (· < ·)/\ ∀x,x∈RE m↔x∈m:=by
 have: ∀(m o:List Int),o.Pairwise (· < ·)->(m.foldl aH8 o).Pairwise (· < ·)/\ ∀x,x∈m.foldl aH8 o↔x∈o\/x∈m:=by
  intro m
  induction m with
  |nil=>intro o f;exact⟨f,jS⟩
  |cons a r g=>
   intro o f;obtain⟨c,e⟩:=g (aH8 o a) (RC f a);refine⟨c,λx=> ?_⟩;rw[gK,e,Vs,eF];constructor
   ·rintro((h|h)|h)
    ·exact .inr (.inl h)
    ·exact .inl h
    ·exact .inr (.inr h)
   ·rintro(h|h|h)
    ·exact .inl (.inr h)
    ·exact .inl (.inl h)
    ·exact .inr h
 obtain⟨c,e⟩:=this m [] List.Pairwise.nil;exact⟨c,λx=>by rw[show RE m=m.foldl aH8 [] from rfl,e];simp⟩
def Memb (e:Nat->Ev) (g:Int) (m:Nat):List Int:=RE (ln e g m)
theorem Kv (e:Nat->Ev) (g:Int) (m:Nat):(Memb e g m).Pairwise (· < ·):=(Ku _).1
theorem Kw {e:Nat->Ev} {g a:Int} {m:Nat}:a∈Memb e g m↔CQ e a g m=true:=((Ku _).2 a).trans jn
theorem Kx (e:Nat->Ev) (g:Int) (m:Nat):(Memb e g m).length=(ln e g m).length:=by
 have c:(Memb e g m).Perm (ln e g m):=(uQ ((Kv e g m).imp λf=>J) (Kt e g m)).2 λa=>by rw[Kw,jn]
 exact c.length_eq
theorem Memb_len (e:Nat->Ev) (g:Int) (m:Nat):(Memb e g m).length<=m:=by rw[Kx];unfold ln;rw[fC];exact cO (gC _ _) (stays_len e m)
structure Gra where
 grp:Int
 per:Int
 rig:Int
def dG_q1:Gra:=⟨0,0,0⟩
def IP (e:Ev) (g p:Int):Bool:=e.k==9&&e.g==g&&e.w==p
def Q9 (l:List Gra) (g p:Int):Int:=l.foldl (λr x=>if(x.grp==g&&x.per==p)=true then o3 .or .i64 r x.rig else r) 0
def pv (b:Int) (e:Nat->Ev) (g p:Int):Nat->Int
 |0=>b
 |k+1=>if IP (e k) g p=true then(e k).n else pv b e g p k
def evs (l:List Ev) (i:Nat):Ev:=l.getD i dE
def cut (l:List Ev) (t:Int):Nat:=(max 0 (min t l.length)).toNat
theorem cut_le (l:List Ev) (t:Int):cut l t<=l.length:=by unfold cut;omega
theorem IQ (l:List Ev) (m:Nat): ∀i,i<m->evs (l.take m) i=evs l i:=λi a=>zd dE l m i a
def Sta_q1.av (s:Sta_q1):List AV:=[.I s.acc,.I s.grp,.I s.fr,.I s.to]
def Gra.av (g:Gra):List AV:=[.I g.grp,.I g.per,.I g.rig]
def rowsS (l:List Sta_q1) (k:Nat):List AV:=(l.getD k dS).av
def rowsG_q0 (l:List Gra) (k:Nat):List AV:=(l.getD k dG_q1).av
theorem Ky (l:List Sta_q1): ∀k,k<l.length->AV.freshs (rowsS l k)=true:=λ_ _=>rfl
instance:DecidableEq Sta_q1:=λa b=>
 if h:a.acc=b.acc/\a.grp=b.grp/\a.fr=b.fr/\a.to=b.to then isTrue (by obtain⟨c,e,f,g⟩:=a;obtain⟨j,b2,k,l⟩:=b;simp at h;obtain⟨rfl,rfl,rfl,rfl⟩:=h;rfl) else isFalse (by rintro rfl;exact h ⟨rfl,rfl,rfl,rfl⟩)
theorem RetIs.ib {k:IntKind} {c c':Int} {b a:Bool} {O:List OE} {nid:Nat} (h:c'=c) (e:a=b):RetIs [] (.tup [.i k c,.b b]) (.tup [.i k c',.b a]) O nid:=by subst h e;exact ng
theorem AR (l:List Ev) (t:Int):((max (0:Int) (min t l.length))-0).toNat=cut l t:=by unfold cut;omega
theorem Rb (l:List Ev) (m:Nat) (c:m<=l.length): ∀k,k<(l.take m).length->rE l (Int.toNat 0+k)=rE (l.take m) k:=by
 intro k a;have e:Int.toNat 0+k=k:=jS
 rw[e];unfold rE;rw[zd dE l m k (by simp at a;omega)]
theorem RF (l:List Ev) (t:Int):(l.take (cut l t)).length=cut l t:=by rw[cT];have:=cut_le l t;omega
theorem Rd (l:List Gra) (g p:Int) (k:Nat) (h:k<l.length):Q9 (l.take (k+1)) g p=if((l.getD k dG_q1).grp==g&&(l.getD k dG_q1).per==p)=true then o3 .or .i64 (Q9 (l.take k) g p) (l.getD k dG_q1).rig else Q9 (l.take k) g p:=
 uK _ _ l k dG_q1 h
def RightsG (a:List Gra) (l:List Ev) (g p t:Int):Int:=pv (Q9 a g p) (evs l) g p (cut l t)
theorem Rights_fn (f:List Gra) (G:f.length<2^62) (l:List Ev) (H:l.length<2^62) (g p t:Int):
  cC 311 [.rs 3 f.length (rowsG_q0 f),.rs 12 l.length (rE l),.I g,.I p,.I t] [] (.I (RightsG f l g p t)):=by
 refine hZ Tryz.func311 [.tmp 10] [] ?_;have F:=cut_le l t;have C:((max (0:Int) (min t l.length)))=(cut l t:Int):=by unfold cut;omega
 refine .inl ⟨[],Nat,λk=>k<=cut l t/\RightsG f l g p t=pv (Q9 f g p) (evs l) g p k,λk=>[⟨11,[],.I ((k:Int)-1)⟩],λ_=>[],λk=>k,
  ⟨cut l t,[],⟨aG _,rfl⟩,rfl,rfl,rfl,rfl,rfl,⟨rfl,?_⟩,trivial⟩,?_⟩
 ·show IntKind.i64.wrap (max (0:Int) (min t l.length)-1)=(cut l t:Int)-1;rw[C];exact wr J J
 rintro k ⟨D,w⟩;refine .inl ⟨λj=> ?_,λj=> ?_⟩
 ·have j:decide ((k:Int)-1>=0)=true:=j;rw[aM] at j;obtain⟨q,rfl⟩: ∃q,k=q+1:=⟨k-1,J⟩;have eq:(((q+1:Nat):Int)-1).toNat=q:=J
  have E:IntKind.i64.wrap (((q+1:Nat):Int)-1-1)=(q:Int)-1:=by rw[wr J J];omega
  have w:RightsG f l g p t=if IP (l.getD q dE) g p=true then(l.getD q dE).n else pv (Q9 f g p) (evs l) g p q:=w
  repeat apply jL
  refine⟨⟨J,J⟩,?_⟩
  repeat apply jL
  refine jB (IP (l.getD (((q+1:Nat):Int)-1).toNat dE) g p) (λh2=> ?_) λh2=> ?_
  ·rw[eq] at h2;refine RetIs.i ?_;show(l.getD (((q+1:Nat):Int)-1).toNat dE).n=_;rw[eq,w,aE h2]
  ·rw[eq] at h2;exact⟨q,[],⟨J,by rw[w,aB jK]⟩,gA q,rfl,rfl,rfl,rfl,rfl,⟨rfl,E⟩,trivial⟩
 ·have j:decide ((k:Int)-1>=0)=false:=j;rw[bH] at j;obtain rfl:k=0:=J
  have w:RightsG f l g p t=Q9 f g p:=w;refine .inl ⟨[],Nat,λk=>k<=f.length,λk=>[⟨49,[],.I k⟩,⟨13,[],.I (Q9 (f.take k) g p)⟩],λ_=>[],λk=>f.length-k,
   qN,?_⟩
  intro k D;refine .inl ⟨λj=> ?_,λj=> ?_⟩
  ·have j:=pH j;have x:(k:Int).toNat=k:=aQ k;have z:=Rd f g p k J
   repeat apply jL
   refine⟨⟨J,J⟩,?_⟩
   repeat apply jL
   refine jB ((f.getD (k:Int).toNat dG_q1).grp==g&&(f.getD (k:Int).toNat dG_q1).per==p) (λh2=> ?_) λh2=> ?_
   ·refine⟨k+1,[],jM,jM,rfl,rfl,rfl,rfl,rfl,⟨nV,rfl,?_⟩,trivial⟩;show o3 .or .i64 (Q9 (f.take k) g p) (f.getD (k:Int).toNat dG_q1).rig=_;rw[x] at h2|-;rw[z,aE h2]
   ·refine⟨k+1,[],jM,jM,rfl,rfl,rfl,rfl,rfl,⟨nV,rfl,?_⟩,trivial⟩;show Q9 (f.take k) g p=_;rw[x] at h2;rw[z,aB jK]
  ·have j:=iT j;refine RetIs.i ?_;rw[w,fR J]
def uz (S:List Sta_q1) (a g:Int) (q:Nat):Prop:=q<S.length/\(S.getD q dS).acc=a/\(S.getD q dS).grp=g/\(S.getD q dS).to= -1
structure OIS (S:List Sta_q1) (O:List ((Int×Int)×Int)):Prop where
 nodup:(iH O).Nodup
 get: ∀(a g v:Int),hU O (a,g)=some v↔ ∃q:Nat,v=q/\uz S a g q
theorem OIS.noOpen {S:List Sta_q1} {O:List ((Int×Int)×Int)} (h:OIS S O) {a g:Int} (c:hU O (a,g)=none) (q:Nat): ¬uz S a g q:=λe=>by have:=(h.get a g q).2 ⟨q,rfl,e⟩;rw[c] at this;cases this
theorem OIS.empty:OIS [] []:=⟨wH,λa g v=>⟨λh=>jC,λ⟨q,_,h,_⟩=>jh⟩⟩
theorem OIS.join {S:List Sta_q1} {O:List ((Int×Int)×Int)} (h:OIS S O) {a g:Int} (n:hU O (a,g)=none) (k:Int):OIS (S++[⟨a,g,k, -1⟩]) (kE O (a,g) S.length):=by
 refine⟨T7 h.nodup _ _,λw l v=> ?_⟩;rw[rK];by_cases f:(w,l)=(a,g)
 ·rw[aE f];simp only[iF] at f;obtain⟨rfl,rfl⟩:=f;constructor
  ·intro t;refine⟨S.length,(cK t).symm,jS,?_⟩;rw[yT dS _ _ _ (aG _)];simp
  ·rintro⟨q,rfl,j,c⟩;by_cases e:q<S.length
   ·rw[vY dS _ _ _ e] at c;exact(h.noOpen n q ⟨e,c⟩).elim
   ·have:q=S.length:=by simp at j;omega
    rw[this]
 ·rw[aB f,h.get];constructor
  ·rintro⟨q,rfl,j,c⟩;exact⟨q,rfl,jO,by rw[vY dS _ _ _ j];exact c⟩
  ·rintro⟨q,rfl,j,c⟩;by_cases e:q<S.length
   ·rw[vY dS _ _ _ e] at c;exact⟨q,rfl,e,c⟩
   ·have:q=S.length:=by simp at j;omega
    subst this;rw[yT dS _ _ _ (aG _)] at c;simp at c;exact(f (by rw[c.1,c.2])).elim
theorem OIS.close {S:List Sta_q1} {O:List ((Int×Int)×Int)} (h:OIS S O) {a g:Int} {q:Nat} (n:uz S a g q) (k:Nat):OIS (S.set q ⟨a,g,(S.getD q dS).fr,k⟩) (k8 O (a,g)):=by
 refine⟨Ov h.nodup _,λx w v=> ?_⟩;rw[za h.nodup];have t:=ze dS S q ⟨a,g,(S.getD q dS).fr,k⟩ n.1;by_cases l:(x,w)=(a,g)
 ·rw[aE l];simp only[iF] at l;obtain⟨rfl,rfl⟩:=l;refine⟨λC=>(by cases C),?_⟩;rintro⟨j,rfl,e,c⟩;exfalso;rw[t] at c;rw[iD] at e;by_cases f:j=q
  ·rw[aE f] at c;have:=c.2.2;dsimp only at this;omega
  ·rw[aB f] at c;have A:=(h.get x w j).2 ⟨j,rfl,e,c⟩;have z:=(h.get x w q).2 ⟨q,rfl,n⟩;rw[A] at z;have:=cK z;omega
 ·rw[aB l,h.get];constructor
  ·rintro⟨j,rfl,e,c⟩;refine⟨j,rfl,by rw[iD];exact e,?_⟩;rw[t,aB]
   ·exact c
   ·rintro rfl;exact l (by rw[<-c.1,<-c.2.1,n.2.1,n.2.2.1])
  ·rintro⟨j,rfl,e,c⟩;rw[iD] at e;rw[t] at c;by_cases f:j=q
   ·rw[aE f] at c;have:=c.2.2;dsimp only at this;omega
   ·rw[aB f] at c;exact⟨j,rfl,e,c⟩
theorem AS {e:Nat->Ev} {n q:Nat} (h:q<(stays e n).length): ∃i,i<n/\rY e i=true/\(stays e n).getD q dS=aHh e n i/\(wW e n).getD q 0=i:=by unfold stays at h|-;rw[fC] at h;have a:(wW e n).getD q 0∈wW e n:=zc 0 h;refine⟨_,(tH.1 a).1,(tH.1 a).2,?_,rfl⟩;rw[zf 0 dS _ _ _ h]
theorem Ao {e:Nat->Ev} {n:Nat} {O:List ((Int×Int)×Int)} (h:OIS (stays e n) O) (a g:Int):(hU O (a,g)).isSome=CQ e a g n:=by
 rw[hM,ps,oL];constructor
 ·rintro⟨v,C⟩;obtain⟨q,_,c,l,t,f⟩:=(h.get a g v).1 C;obtain⟨i,j,k,z,_⟩:=AS c;rw[z] at l t f;subst l t;exact⟨i,j,k,rfl,rfl,f⟩
 ·rintro⟨i,j,k,rfl,rfl,f⟩;have A:i∈wW e n:=tH.2 ⟨j,k⟩;obtain⟨q,c,x⟩:=cU A;refine⟨q,(h.get _ _ q).2 ⟨q,rfl,?_⟩⟩;have w:(stays e n).getD q dS=aHh e n i:=by unfold stays;rw[zf 0 dS _ _ _ c];simp[List.getD,c,x]
  refine⟨by unfold stays;rw[fC];exact c,?_⟩;rw[w];exact⟨rfl,rfl,f⟩
theorem Kz {S:List Sta_q1} {ev:Ev} {n:Nat} (h: ∀q a g,uz S a g q->yY ev a g=false):S.map (U9 ev n)=S:=by
 refine iV jS λq l c=> ?_;rw[iO];unfold U9;rw[aB];rintro⟨j,f⟩;have e:S.getD q dS=S[q]:=by simp[List.getD,c]
 have:=h q S[q].acc S[q].grp ⟨c,by rw[e],by rw[e],by rw[e];exact j⟩;rw[this] at f;cases f
theorem AT {S:List Sta_q1} {O:List ((Int×Int)×Int)} (h:OIS S O) {ev:Ev} {n:Nat} {a g:Int} (x: ∀l w,yY ev l w=true↔l=a/\w=g) {q:Nat} (f:uz S a g q):
  S.map (U9 ev n)=S.set q ⟨a,g,(S.getD q dS).fr,n⟩:=by
 refine iV jS λj c G=> ?_;rw[fC] at c;rw[iO,List.getElem_set];have e:S.getD j dS=S[j]:=by simp[List.getD,c]
 unfold U9;by_cases z:q=j
 ·subst z;rw[aE rfl,aE]
  ·have:=f.2;rw[e] at this|-;rw[this.1,this.2.1]
  ·have:=f.2;rw[e] at this;exact⟨this.2.2,(x _ _).2 ⟨this.1,this.2.1⟩⟩
 ·rw[aB z,aB];rintro⟨C,D⟩;obtain⟨E,F⟩:=(x _ _).1 D;have A:=(h.get a g j).2 ⟨j,rfl,c,by rw[e,E],by rw[e,F],by rw[e];exact C⟩;have t:=(h.get a g q).2 ⟨q,rfl,f⟩;rw[A] at t;have:=cK t;omega
def nf (e:Ev):Int×Int:=if e.k=6 then(e.a,e.g) else(e.w,e.g)
theorem La {e:Ev} (h:e.k=6\/e.k=7) (a g:Int):yY e a g=true↔a=(nf e).1/\g=(nf e).2:=by
 unfold yY nf;rcases h with h|h
 ·rw[aE h,h];simp only[aW,cH,eZ];constructor
  ·rintro⟨f,c⟩;rcases c with ⟨_,c⟩|⟨c,_⟩
   ·exact⟨c.symm,f.symm⟩
   ·omega
  ·rintro⟨f,c⟩;exact⟨c.symm,.inl ⟨trivial,f.symm⟩⟩
 ·rw[aB J,h];simp only[aW,cH,eZ];constructor
  ·rintro⟨f,c⟩;rcases c with ⟨c,_⟩|⟨_,c⟩
   ·omega
   ·exact⟨c.symm,f.symm⟩
  ·rintro⟨f,c⟩;exact⟨c.symm,.inr ⟨trivial,f.symm⟩⟩
theorem AU {e:Ev} {a g:Int} (h:yY e a g=true):e.k=6\/e.k=7:=by
 unfold yY at h;simp only[aW,cH,eZ] at h;rcases h.2 with h|h
 ·exact .inl h.1
 ·exact .inr h.1
section
variable {e : Nat -> Ev} {k : Nat} {O : List ((Int × Int) × Int)} (h : OIS (stays e k) O)
include h
theorem RG (h5:(e k).k=5) (hn:hU O (nf (e k))=none):stays e (k+1)=stays e k++[⟨(nf (e k)).1,(nf (e k)).2,k, -1⟩]/\OIS (stays e (k+1)) (kE O (nf (e k)) (stays e k).length):=by
 have hp:nf (e k)=((e k).w,(e k).g):=by unfold nf;rw[aB J]
 have hin:CQ e (e k).w (e k).g k=false:=by rw[<-Ao h,<-hp,hn];rfl
 have hst:rY e k=true:=by unfold rY;rw[h5,hin];rfl
 have hS:stays e (k+1)=stays e k++[⟨(nf (e k)).1,(nf (e k)).2,k, -1⟩]:=by rw[V0,Kz (λq a g _=>F1 h5 a g),aE hst,hp]
 rw[hS];refine⟨rfl,?_⟩;rw[hp] at hn|-;exact h.join hn k
theorem ZE (hk:(e k).k=6\/(e k).k=7) {v:Int} (hv:hU O (nf (e k))=some v): ∃q:Nat,v=q/\q<(stays e k).length/\
  stays e (k+1)=(stays e k).set q ⟨((stays e k).getD q dS).acc,((stays e k).getD q dS).grp,((stays e k).getD q dS).fr,k⟩/\OIS (stays e (k+1)) (k8 O (nf (e k))):=by
 obtain⟨q,rfl,hq⟩:=(h.get (nf (e k)).1 (nf (e k)).2 v).1 hv;have hst: ¬rY e k=true:=by unfold rY;rw[cE.2 (by omega:(e k).k≠5)];simp
 have hS:stays e (k+1)=(stays e k).set q ⟨(nf (e k)).1,(nf (e k)).2,((stays e k).getD q dS).fr,k⟩:=by rw[V0,aB hst,lE,AT h (La hk) hq]
 refine⟨q,rfl,hq.1,?_,?_⟩
 ·rw[hS,hq.2.1,hq.2.2.1]
 ·rw[hS];exact h.close hq k
theorem RH (h1:(e k).k=5->(hU O (nf (e k))).isSome=true) (h2:(e k).k=6\/(e k).k=7->hU O (nf (e k))=none):stays e (k+1)=stays e k:=by
 have hst: ¬rY e k=true:=by
  unfold rY;by_cases h5:(e k).k=5
  ·have hp:nf (e k)=((e k).w,(e k).g):=by unfold nf;rw[aB J]
   have hin:=h1 h5;rw[hp,Ao h] at hin;rw[hin];simp
  ·rw[cE.2 h5];simp
 rw[V0,aB hst,lE,Kz];intro q a g hq;cases hE:yY (e k) a g
 ·rfl
 ·have hk:=AU hE;obtain⟨rfl,rfl⟩:=(La hk a g).1 hE;exact(h.noOpen (h2 hk) q hq).elim
end
def kfP (p:Int×Int):AV:= .ag [.I p.1,.I p.2]
def dP:(Int×Int)×Int:=((0,0),0)
theorem Ey: ∀a b,kfP a=kfP b->a=b:=by rintro⟨c,e⟩ ⟨f,b2⟩ h;simp only[kfP,AV.ag.injEq,lS,AV.i.injEq] at h;rw[h.1.2,h.2.1.2]
abbrev mpP (O:List ((Int×Int)×Int)) (born:Nat->Nat) (a:Nat):AO:=aJb kfP (λv:Int=> .I v) dP O born a
theorem aDu (S:List Sta_q1) (s:Sta_q1): ∀k,k<(S++[s]).length->iJ S.length (rowsS S) (kJ 4 s.av) k=rowsS (S++[s]) k:=by
 intro k a;unfold iJ rowsS;by_cases h:k<S.length
 ·rw[aE h,vY dS _ _ _ h]
 ·rw[aB h];have:k=S.length:=by simp at a;omega
  subst this;rw[yT dS _ _ _ (aG _)];simp;rfl
theorem Ap (S:List Sta_q1) (q:Nat) (k:Int) (a:q<S.length) (s:Sta_q1) (c:s=⟨(S.getD q dS).acc,(S.getD q dS).grp,(S.getD q dS).fr,k⟩): ∀j,j<(S.set q s).length->
  (if j=q then over_q0 3 [.I k] (rowsS S j) else rowsS S j)=rowsS (S.set q s) j:=by
 intro j e;subst c;unfold rowsS;rw[ze dS S q _ a];by_cases h:j=q
 ·subst h;rw[aE rfl,aE rfl];rfl
 ·rw[aB h,aB h]
theorem Stays_fn (l:List Ev) (hl:l.length<1000000):
  cC 191 [.rs 12 l.length (rE l)] [.row 367 4 (stays (evs l) l.length).length (rowsS (stays (evs l) l.length))] (.so 0):=by
 refine hZ Tryz.func191 [.tmp 2] [] ?_;refine .inl ⟨[(3,367,4)],Nat×List ((Int×Int)×Int)×(Nat->Nat)×Nat,λx=>x.1<=l.length/\OIS (stays (evs l) x.1) x.2.1,λx=>[⟨13,[],.I x.1⟩,⟨3,[],.so 1⟩],
  λx=>[⟨0,[],mpP x.2.1 x.2.2.1 x.2.2.2⟩,⟨1,[],.row 367 4 (stays (evs l) x.1).length (rowsS (stays (evs l) x.1))⟩],λx=>l.length-x.1,
  ⟨(0,[],λ_=>0,0),[],⟨bI _,OIS.empty⟩,rfl,rfl,rfl,rfl,rfl,⟨nT,rfl⟩,⟨⟨rfl,rfl,λj hj=>jj⟩,⟨rfl,rfl,rfl,λj hj=>by cases hj⟩⟩⟩,?_⟩
 rintro⟨k,O,born,clock⟩ ⟨hk,hO⟩;dsimp only at hk hO;have hsl:=stays_len (evs l) k;refine .inl ⟨λhc=> ?_,λhc=> ?_⟩
 ·have hc:=pH hc;have ek:(k:Int).toNat=k:=aQ k;have w:IntKind.i64.wrap ((k:Int)+1)=((k+1:Nat):Int):=wr J J;have aq:evs l k=l.getD (k:Int).toNat dE:=by rw[ek];rfl
  have gj:=RG hO;have ge:=ZE hO;have gs:=RH hO;have rowEq:stays (evs l) (k+1)=stays (evs l) k->eN (.row 367 4 (stays (evs l) (k+1)).length (rowsS (stays (evs l) (k+1)))) (.row 367 4 (stays (evs l) k).length (rowsS (stays (evs l) k))):=λh=>by rw[h];exact eN.refl _
  rw[aq] at gj ge gs;generalize hE:l.getD (k:Int).toNat dE=E at*
  repeat apply jL
  refine⟨⟨J,J⟩,?_⟩
  repeat apply jL
  rw[hE];refine jB (E.k==6) (λh6=> ?_) λh6=> ?_
  ·have h6:E.k=6:=by simpa using h6
   have hp:nf E=(E.a,E.g):=by unfold nf;rw[aE h6]
   rw[hp] at gj ge gs
   repeat apply jL
   refine⟨_,_,⟨λ_ _=>rfl,rfl,lK (L:=O) (d:=dP) (vf:=λv:Int=>AV.I v) Ey (E.a,E.g) 0⟩,?_⟩
   repeat apply jL
   refine⟨λh3=> ?_,λ_=> ?_⟩
   ·exfalso;have h3:(E.k==5&& !(hU O (E.a,E.g)).isSome)=true:=h3;rw[h6] at h3;cases h3
   refine jB ((E.k==6||E.k==7)&&(hU O (E.a,E.g)).isSome) (λh4=> ?_) λh4=> ?_
   ·have h4:=(tW.1 h4).2;obtain⟨v,hv⟩:=oL.1 h4;obtain⟨q,rfl,hq,hS,hO2⟩:=ge (.inl h6) hv;have hv0:(hU O (E.a,E.g)).getD 0=q:=by rw[hv];rfl
    rw[hv0];obtain⟨born2,hd⟩:=D8 (kf:=kfP) (vf:=λv:Int=>AV.I v) (d:=dP) (born:=born) h4;have eq:(q:Int).toNat=q:=aQ q;refine⟨⟨J,by(dsimp only;omega)⟩,by(dsimp only;omega),?_⟩;refine⟨_,_,_,_,⟨λ_ _=>rfl,rfl,hd⟩,?_⟩;refine⟨(k+1,k8 O (E.a,E.g),born2,clock),[],⟨jM,hO2⟩,jM,rfl,rfl,rfl,rfl,rfl,⟨⟨rfl,w⟩,rfl⟩,⟨eN.refl _,?_⟩⟩;have hr:=Ap (stays (evs l) k) q k hq _ rfl;have hv:eN (.row 367 4 (stays (evs l) (k+1)).length (rowsS (stays (evs l) (k+1)))) (.row 367 4 (stays (evs l) k).length (λj=>if j=(q:Int).toNat then over_q0 3 [.I k] (rowsS (stays (evs l) k) j) else rowsS (stays (evs l) k) j)):=by rw[hS,eq];exact⟨rfl,rfl,jS,hr⟩
    exact hv
   ·have h4:(hU O (E.a,E.g)).isSome=false:=by rw[h6] at h4;exact h4
    have hS:=gs (λh=>J) (λ_=>by simpa using h4);have hO2:OIS (stays (evs l) (k+1)) O:=by rw[hS];exact hO
    exact⟨(k+1,O,born,clock),[],⟨jM,hO2⟩,jM,rfl,rfl,rfl,rfl,rfl,⟨⟨rfl,w⟩,rfl⟩,⟨eN.refl _,rowEq hS⟩⟩
  ·have h6n:E.k≠6:=by simpa using h6
   have hp:nf E=(E.w,E.g):=by unfold nf;rw[aB h6n]
   rw[hp] at gj ge gs
   repeat apply jL
   refine⟨_,_,⟨λ_ _=>rfl,rfl,lK (L:=O) (d:=dP) (vf:=λv:Int=>AV.I v) Ey (E.w,E.g) 0⟩,?_⟩
   repeat apply jL
   refine jB (E.k==5&& !(hU O (E.w,E.g)).isSome) (λh3=> ?_) λh3=> ?_
   ·rw[aW,cH] at h3;have hn:hU O (E.w,E.g)=none:=by simpa using h3.2
    obtain⟨hS,hO2⟩:=gj h3.1 hn;refine⟨_,_,_,_,_,⟨λ_ _=>rfl,rfl,Xr (vf:=λv:Int=>AV.I v) (d:=dP) Ey hn ((stays (evs l) k).length:Int)⟩,?_⟩;refine⟨oJ (by(dsimp only;omega)),?_⟩;refine⟨(k+1,kE O (E.w,E.g) ((stays (evs l) k).length:Int),(λj=>if j<O.length then born j else clock),clock+1),[(1,5)],⟨jM,hO2⟩,jM,rfl,rfl,rfl,rfl,rfl,⟨⟨rfl,w⟩,rfl⟩,⟨eN.refl _,?_⟩⟩;have hr:=aDu (stays (evs l) k) ⟨E.w,E.g,k, -1⟩;have hv:eN (.row 367 4 (stays (evs l) (k+1)).length (rowsS (stays (evs l) (k+1)))) (.row 367 4 ((stays (evs l) k).length+1) (iJ (stays (evs l) k).length (rowsS (stays (evs l) k)) (kJ 4 (Sta_q1.mk E.w E.g k (-1)).av))):=by rw[hS];exact⟨rfl,rfl,jS,hr⟩
    exact hv
   have h5:E.k=5->(hU O (E.w,E.g)).isSome=true:=λh=>by rw[h] at h3;simpa using h3
   refine jB ((E.k==6||E.k==7)&&(hU O (E.w,E.g)).isSome) (λh4=> ?_) λh4=> ?_
   ·rw[h6,xH,aW,cH] at h4;obtain⟨v,hv⟩:=oL.1 h4.2;obtain⟨q,rfl,hq,hS,hO2⟩:=ge (.inr h4.1) hv;have hv0:(hU O (E.w,E.g)).getD 0=q:=by rw[hv];rfl
    rw[hv0];obtain⟨born2,hd⟩:=D8 (kf:=kfP) (vf:=λv:Int=>AV.I v) (d:=dP) (born:=born) h4.2;have eq:(q:Int).toNat=q:=aQ q;refine⟨⟨J,by(dsimp only;omega)⟩,by(dsimp only;omega),?_⟩;refine⟨_,_,_,_,⟨λ_ _=>rfl,rfl,hd⟩,?_⟩;refine⟨(k+1,k8 O (E.w,E.g),born2,clock),[],⟨jM,hO2⟩,jM,rfl,rfl,rfl,rfl,rfl,⟨⟨rfl,w⟩,rfl⟩,⟨eN.refl _,?_⟩⟩;have hr:=Ap (stays (evs l) k) q k hq _ rfl;have hv:eN (.row 367 4 (stays (evs l) (k+1)).length (rowsS (stays (evs l) (k+1)))) (.row 367 4 (stays (evs l) k).length (λj=>if j=(q:Int).toNat then over_q0 3 [.I k] (rowsS (stays (evs l) k) j) else rowsS (stays (evs l) k) j)):=by rw[hS,eq];exact⟨rfl,rfl,jS,hr⟩
    exact hv
   ·have hS:=gs h5 (λh7=>by
     have h8:(E.k==6||E.k==7)=true:=(by simpa using h7);rw[h8] at h4;simpa using h4)
    have hO2:OIS (stays (evs l) (k+1)) O:=by rw[hS];exact hO
    exact⟨(k+1,O,born,clock),[],⟨jM,hO2⟩,jM,rfl,rfl,rfl,rfl,rfl,⟨⟨rfl,w⟩,rfl⟩,⟨eN.refl _,rowEq hS⟩⟩
 ·have hc:=iT hc;obtain rfl:k=l.length:=J
  exact RetIs.so rfl rfl (λ_ _=>rfl) (Ky _)
theorem endN_ge (e:Nat->Ev) (a g:Int) (i n:Nat):endN e a g i n= -1\/0<=endN e a g i n:=by
 by_cases h:endN e a g i n= -1
 ·exact .inl h
 ·obtain⟨q,c,_⟩:=jm e a g i n h;right;omega
theorem IR {l:List Int} (h:l.Nodup):(kO l).Pairwise (· < ·):=by
 exact m7
theorem AW {l:List Int} {x:Int}:x∈kO l↔x∈l:=sP
def F2 (p:Sta_q1->Bool) (S:List Sta_q1):List (Int×Bool):=S.foldl (λL s=>if p s=true then kE L s.acc true else L) []
theorem AX (p:Sta_q1->Bool) (S:List Sta_q1) (k:Nat) (h:k<S.length):F2 p (S.take (k+1))=if p (S.getD k dS)=true then kE (F2 p (S.take k)) (S.getD k dS).acc true else F2 p (S.take k):=
 uK _ _ S k dS h
theorem vd (p:Sta_q1->Bool) (S:List Sta_q1):(iH (F2 p S)).Nodup/\(F2 p S).length<=S.length/\ ∀a,a∈iH (F2 p S)↔a∈(S.filter p).map Sta_q1.acc:=by
 have: ∀(S:List Sta_q1) (L:List (Int×Bool)),(iH L).Nodup->(iH (S.foldl (λL s=>if p s=true then kE L s.acc true else L) L)).Nodup/\
   (S.foldl (λL s=>if p s=true then kE L s.acc true else L) L).length<=L.length+S.length/\
   ∀a,a∈iH (S.foldl (λL s=>if p s=true then kE L s.acc true else L) L)↔a∈iH L\/a∈(S.filter p).map Sta_q1.acc:=by
  intro S
  induction S with
  |nil=>intro L h;exact⟨h,jS,λa=>jS⟩
  |cons s r l=>
   intro L h;simp only[gK,gR];by_cases g:p s=true
   ·rw[aE g];obtain⟨c,j,e⟩:=l (kE L s.acc true) (T7 h _ _);have n:=mset_len L s.acc true;refine⟨c,J,λa=> ?_⟩;rw[e,iW,aE g,gP,eF,uV,rK,uV];by_cases f:a=s.acc
    ·rw[aE f];simp[f]
    ·rw[aB f];simp[f]
   ·rw[aB g];obtain⟨c,j,e⟩:=l L h;refine⟨c,J,λa=> ?_⟩;rw[e,iW,aB g]
 obtain⟨c,j,e⟩:=this S [] wH;exact⟨c,by simpa [F2] using j,λa=>by rw[show F2 p S=S.foldl _ [] from rfl,e];simp[iH]⟩
theorem IS (e:Nat->Ev) (g:Int) (m:Nat):kO (iH (F2 (j4 g) (stays e m)))=Memb e g m:=by refine ZD (IR (vd _ _).1) (Kv e g m) λa=> ?_;rw[AW,(vd _ _).2.2,Kw,<-jn];rfl
theorem RI {p:Sta_q1->Bool} {l:List Ev} (f: ∀x∈l,(Lit.int .i64 x.w).wf=true) {m:Nat} (h:m<=l.length): ∀a,a∈((stays (evs l) m).filter p).map Sta_q1.acc->(Lit.int .i64 a).wf=true:=by intro a e;simp only[fL,eC] at e;obtain⟨s,⟨c,_⟩,rfl⟩:=e;unfold stays at c;rw[fL] at c;obtain⟨i,g,rfl⟩:=c;have:=(tH.1 g).1;exact f (l.getD i dE) (zc dE J)
theorem Members_fn (l:List Ev) (Y:l.length<1000000) (O: ∀x∈l,(Lit.int .i64 x.w).wf=true) (g t:Int):
  cC 261 [.rs 12 l.length (rE l),.I g,.I t] [.row 3 1 (Memb (evs l) g (cut l t)).length (rI (Memb (evs l) g (cut l t)))] (.so 0):=by
 refine hZ Tryz.func261 [.tmp 6] [] ?_;have H:=RF l t;have D:=cut_le l t;have P:stays (evs (l.take (cut l t))) (l.take (cut l t)).length=stays (evs l) (cut l t):=by rw[H];exact Ks (IQ l _)
 have E:=Stays_fn (l.take (cut l t)) J;rw[P] at E;have N:cC 191 [.rs 12 ((max (0:Int) (min t l.length))-0).toNat (λq=>rE l (Int.toNat 0+q))] [.row 367 4 (stays (evs l) (cut l t)).length (rowsS (stays (evs l) (cut l t)))] (.so 0):=
  j8.of_eq (args:=[.rs 12 (l.take (cut l t)).length (rE (l.take (cut l t)))]) ⟨rfl,by rw[H];exact AR l t,Rb l (cut l t) D⟩ E
 have W:=stays_len (evs l) (cut l t);have U:=RI (p:=j4 g) O D;have F:=IS (evs l) g (cut l t);have K:=vd (j4 g) (stays (evs l) (cut l t))
 repeat apply jL
 refine⟨⟨J,J,J⟩,?_⟩
 refine jb N ?_;generalize stays (evs l) (cut l t)=S at*
 repeat apply jL
 refine⟨[],Nat,λk=>k<=S.length,λk=>[⟨20,[],.I k⟩],λk=>[⟨0,[],mpIB (F2 (j4 g) (S.take k))⟩],λk=>S.length-k,
  ⟨0,[],bI _,rfl,rfl,rfl,rfl,rfl,nT,⟨rfl,rfl,λj Q=>by simp[F2] at Q⟩⟩,?_⟩
 intro k G;refine .inl ⟨λz=> ?_,λz=> ?_⟩
 ·have z:=pH z;have f:=AX (j4 g) S k J;have n:(k:Int).toNat=k:=aQ k
  repeat apply jL
  refine⟨⟨J,J⟩,J,?_⟩
  repeat apply jL
  refine jB (j4 g (S.getD (k:Int).toNat dS)) (λh2=> ?_) λh2=> ?_
  ·rw[n] at h2;rw[aE h2] at f;refine⟨_,_,_,_,_,⟨λ_ _=>rfl,rfl,lJ (L:=F2 (j4 g) (S.take k)) (vf:=λb=>AV.b b) sD (S.getD (k:Int).toNat dS).acc true⟩,?_⟩;refine⟨k+1,[],jM,jM,rfl,rfl,rfl,rfl,rfl,nV,?_⟩;have C:eN (mpIB (F2 (j4 g) (S.take (k+1)))) (mpIB (kE (F2 (j4 g) (S.take k)) (S.getD (k:Int).toNat dS).acc true)):=by rw[f,n];exact eN.refl _
   exact C
  ·rw[n] at h2;rw[aB jK] at f;refine⟨k+1,[],jM,jM,rfl,rfl,rfl,rfl,rfl,nV,?_⟩;have C:eN (mpIB (F2 (j4 g) (S.take (k+1)))) (mpIB (F2 (j4 g) (S.take k))):=by rw[f];exact eN.refl _
   exact C
 ·have z:=iT z;have M:S.take k=S:=fR J;rw[M];have R:(Memb (evs l) g (cut l t)).length=(F2 (j4 g) S).length:=by rw[<-F,oO];simp[iH]
  refine .inr (.inr ⟨false,[0],rfl,Unit,_,_,_,_,keys_fn (F2 (j4 g) S),λ_ _=> ?_⟩);refine .inr (.inr ⟨false,[2,0],rfl,Unit,_,_,_,_,sorted_fn sortsKeys (F2 (j4 g) S) (λk G=>U k ((K.2.2 k).1 G)) (oJ J),λ_ _=> ?_⟩);exact RetIs.so rfl R.symm (λ_ _=>by rw[F]) (λ_ _=>rfl)
end Go.Proofs.YtpnjmojpeaegoaaGreatDoor.Sa
namespace Go.Proofs.YtpnjmojpeaegoaaGreatDoor
open Go.Eng
theorem AY (a b:List Bool) (f:a.length<2^62) (g:b.length<2^62):cC 161 [.rs 1 a.length (Qi a),.rs 1 b.length (Qi b)] [] (.b (decide (a=b))):=by
 refine hZ Tryz.func161 [.tmp 4] [] ?_;refine .inl ⟨λh=> ?_,λh=> ?_⟩
 ·exact nG
 have h:((a.length:Int) !=b.length)=false:=h;simp at h;have hl:a.length=b.length:=J
 refine .inl ⟨[],Nat,λk=>k<=a.length/\eqU false a b k,λk=>[⟨13,[],.I k⟩],λ_=>[],λk=>a.length-k,
  na,?_⟩
 rintro k ⟨l,he⟩;refine .inl ⟨λhc=> ?_,λhc=> ?_⟩
 ·have hc:=pH hc;have hc:(k:Int)<a.length:=hc
  repeat apply jL
  refine⟨⟨J,J⟩,⟨J,J⟩,λc=> ?_,λc=> ?_⟩
  ·refine RetIs.b ?_;have c:(a.getD (k:Int).toNat false !=b.getD (k:Int).toNat false)=true:=c;rw[aQ,lM] at c;symm;rw[bH];rintro rfl;exact c rfl
  ·have c:(a.getD (k:Int).toNat false !=b.getD (k:Int).toNat false)=false:=c;rw[aQ,fY] at c;refine⟨k+1,[],⟨J,λj hj=> ?_⟩,jM,rfl,rfl,rfl,rfl,rfl,nV,trivial⟩;by_cases e:j=k
   ·rw[e];exact c
   ·exact he j J
 ·exact nN
structure Rw where
 a:Int
 s:Int
 k:Int
 g:Int
 on:Int
 q:Int
 w:Int
 n:Int
 x:ByteArray
 fs:List Int
structure Inp where
 k:Int
 net:Int
 ev:Int
 loc:Int
 n:Int
 raw:Rw
 note:Sc.Note
 pf:Sb.Pf_q1
 ver:Sa.Ver
 hold:Sa.Hld
 ord:Sa.Ord
 up:List Bool
def Rw.av (r:Rw):List AV:=[.I r.a,.I r.s,.I r.k,.I r.g,.I r.on,.I r.q,.I r.w,.I r.n,.s r.x,.rs 1 r.fs.length (rI r.fs)]
def Inp.av (i:Inp):List AV:=[.I i.k,.I i.net,.I i.ev,.I i.loc,.I i.n,
 .I i.raw.a,.I i.raw.s,.I i.raw.k,.I i.raw.g,.I i.raw.on,.I i.raw.q,.I i.raw.w,.I i.raw.n,.s i.raw.x,.rs 1 i.raw.fs.length (rI i.raw.fs),
 .I i.note.m,.I i.note.w,.I i.note.l,.I i.note.s,.b i.note.n,.I i.pf.kind,.I i.pf.a,.I i.pf.b,.I i.ver.name,.I i.ver.step,.b i.ver.bad,
 .I i.hold.id,.I i.hold.ev,.I i.hold.fr,.I i.hold.to,.I i.ord.kind,.I i.ord.ev,.I i.ord.by_,.I i.ord.step,.rs 1 i.up.length (Qi i.up)]
def dRw:Rw:=⟨0,0,0,0,0,0,0,0,gB,[]⟩
def H3:Inp:=⟨0,0,0,0,0,dRw,⟨0,0,0,0,false⟩,⟨0,0,0⟩,⟨0,0,false⟩,⟨0,0,0,0⟩,⟨0,0,0,0⟩,[]⟩
def ZF (l:List Inp) (k:Nat):List AV:=(l.getD k H3).av
def wi (n a b:Int):Bool:=decide (n>=a)&&decide (n<=b)
theorem iP (n a b:Int):cC 97 [.I n,.I a,.I b] [] (.b (wi n a b)):=by refine hZ Tryz.func97 [.tmp 6] [] ?_;exact RetIs.b rfl
theorem ve (n:Int):cC 157 [.I n] [] (.b (wi n 0 11)):=by
 refine hZ Tryz.func157 [.tmp 2] [] ?_
 repeat apply jL
 exact⟨[],_,iP _ _ _,RetIs.b rfl⟩
theorem ch (n:Int):cC 98 [.I n] [] (.b (wi n 0 1999)):=by
 refine hZ Tryz.func98 [.tmp 2] [] ?_
 repeat apply jL
 exact⟨[],_,iP _ _ _,RetIs.b rfl⟩
theorem cj (n:Int):cC 158 [.I n] [] (.b (wi n 0 99999)):=by
 refine hZ Tryz.func158 [.tmp 2] [] ?_
 repeat apply jL
 exact⟨[],_,iP _ _ _,RetIs.b rfl⟩
theorem cn (n:Int):cC 159 [.I n] [] (.b (wi n 0 1099511627776)):=by
 refine hZ Tryz.func159 [.tmp 2] [] ?_
 repeat apply jL
 exact⟨[],_,iP _ _ _,RetIs.b rfl⟩
theorem IT (n:Int):cC 239 [.I n] [] (.b (!wi n 0 1073741824)):=by
 refine hZ Tryz.func239 [.tmp 2] [] ?_
 repeat apply jL
 exact⟨[],_,iP _ _ _,RetIs.b rfl⟩
theorem RJ (l:List Int) (c:l.length<2^62) (a:FuncId) (p:Int->Bool) (hp: ∀x∈l,cC a [.I x] [] (.b (p x))):cC 278 [.rs 1 l.length (rI l),.fn a []] [] (.I (fx l.length λk=>p (l.getD k 0))):=by
 refine hZ Tryz.func278 [.tmp 4] [] ?_
 let dq:=0
 exact m3
theorem IU (l:List Int) (c:l.length<2^62) (a:FuncId) (p:Int->Bool) (e: ∀x∈l,cC a [.I x] [] (.b (p x))):cC 240 [.rs 1 l.length (rI l),.fn a []] [] (.b (l.any p)):=by refine hZ Tryz.func240 [.tmp 4] [] ?_;exact .inl ⟨[],_,RJ l c a p e,RetIs.b ((l3 _ _).trans (rL l 0 p))⟩
def rwB (r:Rw):Bool:=((((((((((wi r.a 0 1999&&wi r.s 0 1099511627776)&&wi r.k 0 9)&&wi r.g 0 499)&&wi r.on (-1) 1099511627776)&&wi r.q (-1) 1099511627776)&&wi r.w (-1) 1999)&&wi r.n 0 100)&&decide ((r.x.size:Int)<=4000))&&decide ((r.fs.length:Int)<=4))&& !r.fs.any λn=> !wi n 0 1073741824)
theorem Lb (r:Rw) (e:r.fs.length<2^62):cC 156 [.ag r.av] [] (.b (rwB r)):=by
 refine hZ Tryz.func156 [.tmp 2] [] ?_
 refine jb (ch _) ?_
 refine jc (cn _) ?_
 refine jc (iP _ _ _) ?_
 refine jc (iP _ _ _) ?_
 refine jc (iP _ _ _) ?_
 refine jc (iP _ _ _) ?_
 refine jc (iP _ _ _) ?_
 refine jc (iP _ _ _) ?_
 repeat apply jL
 refine⟨[],_,λ_=>IU r.fs e 239 _ (λx _=>IT x),?_⟩;exact RetIs.b rfl
def smR (a b:Rw):Bool:=(((((((((a.a==b.a&&a.s==b.s)&&a.k==b.k)&&a.g==b.g)&&a.on==b.on)&&a.q==b.q)&&a.w==b.w)&&a.n==b.n)&&fG a.x b.x)&&decide (a.fs=b.fs))
theorem Re (a b:Rw) (e:a.fs.length<2^62) (f:b.fs.length<2^62):cC 160 [.ag a.av,.ag b.av] [] (.b (smR a b)):=by
 refine hZ Tryz.func160 [.tmp 4] [] ?_
 refine jc (uj a.fs b.fs e f) ?_;exact RetIs.b rfl
def smI (a b:Inp):Bool:=(((((((((((a.k==b.k&&a.net==b.net)&&a.ev==b.ev)&&a.loc==b.loc)&&a.n==b.n)&&smR a.raw b.raw)&&vS [.I a.note.m,.I a.note.w,.I a.note.l,.I a.note.s,.b a.note.n] [.I b.note.m,.I b.note.w,.I b.note.l,.I b.note.s,.b b.note.n])
 &&vS [.I a.pf.kind,.I a.pf.a,.I a.pf.b] [.I b.pf.kind,.I b.pf.a,.I b.pf.b])&&vS [.I a.ver.name,.I a.ver.step,.b a.ver.bad] [.I b.ver.name,.I b.ver.step,.b b.ver.bad])
 &&vS [.I a.hold.id,.I a.hold.ev,.I a.hold.fr,.I a.hold.to] [.I b.hold.id,.I b.hold.ev,.I b.hold.fr,.I b.hold.to])&&vS [.I a.ord.kind,.I a.ord.ev,.I a.ord.by_,.I a.ord.step] [.I b.ord.kind,.I b.ord.ev,.I b.ord.by_,.I b.ord.step])
 &&decide (a.up=b.up))
theorem RK (a b:Inp) (e:a.raw.fs.length<2^62) (f:b.raw.fs.length<2^62) (g:a.up.length<2^62) (j:b.up.length<2^62):cC 84 [.ag a.av,.ag b.av] [] (.b (smI a b)):=by
 refine hZ Tryz.func84 [.tmp 4] [] ?_
 refine jc (Re a.raw b.raw e f) ?_
 refine jc (AY a.up b.up g j) ?_;exact RetIs.b rfl
def xA (i:Inp):Inp×Bool:=
 if i.k=0 then({H3 with k:=i.k,raw:=i.raw},rwB i.raw)
 else if i.k=1 then({H3 with k:=i.k,net:=i.net,ev:=i.ev,n:=i.n,loc:=i.loc},((wi i.net 0 11&&wi i.ev 0 99999)&&wi i.n 0 19)&&wi i.loc 0 1099511627776)
 else if i.k=2 then({H3 with k:=i.k,net:=i.net,note:=i.note},(((wi i.net 0 11&&wi i.note.m 0 99999)&&wi i.note.w 0 1999)&&wi i.note.l 1 4)&&(i.note.s==0))
 else if i.k=3 then({H3 with k:=i.k,pf:=i.pf},(wi i.pf.kind 0 4&&wi i.pf.a 0 199)&&wi i.pf.b 0 199)
 else if i.k=4 then({H3 with k:=i.k,ver:=i.ver},wi i.ver.name 0 1073741824&&(i.ver.step==0))
 else if i.k=5 then({H3 with k:=i.k,hold:=i.hold},((wi i.hold.id 0 1099511627776&&wi i.hold.ev 0 99999)&&(i.hold.fr==0))&&(i.hold.to==0))
 else if i.k=6 then({H3 with k:=i.k,n:=i.n},wi i.n 0 1099511627776)
 else if i.k=7 then({H3 with k:=i.k,ord:=i.ord},((wi i.ord.kind 0 3&&wi i.ord.ev 0 99999)&&wi i.ord.by_ 0 1999)&&(i.ord.step==0))
 else if i.k=8 then({H3 with k:=i.k,net:=i.net,ev:=i.ev},wi i.net 0 11&&wi i.ev 0 99999)
 else if i.k=9 then({H3 with k:=i.k,up:=i.up},decide ((i.up.length:Int)<=12))
 else({H3 with k:=i.k},false)
theorem Rf (i:Inp) (A:i.raw.fs.length<2^62) (C:i.up.length<2^62):cA 83 [.ag i.av] (.tup [.ag (xA i).1.av,.b (xA i).2]):=by
 refine MX Tryz.func83 [.cell 2 110,.tmp 3] [(1000001,[.ex 2]),(2000007,[.frz 0 [0]]),(2000008,[.frz 1 [0,2]]),(2000010,[.frz 0 [0]]),(2000012,[.frz 0 [0,2,3]]),(2000016,[.frz 1 [0,2,3]]),(2000019,[.frz 0 [0,2]]),(2000022,[.frz 0 [0,2]]),(2000029,[.frz 0 [0,2,3]]),(2000031,[.frz 0 [0]]),(2000032,[.frz 1 [0,2]]),(2000035,[.frz 0 [0,2]]),(2000005,[.frz 1 [2]]),(2000025,[.frz 1 [2]])] ?_;refine⟨.cells 110 ({H3 with k:=i.k}:Inp).av,?_,?_⟩
 ·refine⟨rfl,?_⟩
  repeat' first|exact rfl|apply hY
 repeat apply jL
 refine⟨λh=> ?_,λe=> ?_⟩
 ·have h:(i.k==0)=true:=h;rw[cH] at h
  refine jb (Lb i.raw A) ?_;refine⟨rfl,?_⟩;rw[show xA i=_ from by unfold xA;rw[aE h]];exact rfl
 have e:(i.k==0)=false:=e;rw[cE] at e
 repeat apply jL
 refine⟨λh=> ?_,λf=> ?_⟩
 ·have h:(i.k==1)=true:=h;rw[cH] at h
  refine jb (ve _) ?_
  refine jc (cj _) ?_
  refine jc (iP _ _ _) ?_
  refine jc (cn _) ?_;refine⟨rfl,?_⟩;rw[show xA i=_ from by unfold xA;rw[aB J,aE h]];exact rfl
 have f:(i.k==1)=false:=f;rw[cE] at f
 repeat apply jL
 refine⟨λh=> ?_,λg=> ?_⟩
 ·have h:(i.k==2)=true:=h;rw[cH] at h
  refine jb (ve _) ?_
  refine jc (cj _) ?_
  refine jc (ch _) ?_
  refine jc (iP _ _ _) ?_;refine⟨rfl,?_⟩;rw[show xA i=_ from by unfold xA;rw[aB J,aB J,aE h]];exact rfl
 have g:(i.k==2)=false:=g;rw[cE] at g
 repeat apply jL
 refine⟨λh=> ?_,λj=> ?_⟩
 ·have h:(i.k==3)=true:=h;rw[cH] at h
  refine jb (iP _ _ _) ?_
  refine jc (iP _ _ _) ?_
  refine jc (iP _ _ _) ?_;refine⟨rfl,?_⟩;rw[show xA i=_ from by unfold xA;rw[aB J,aB J,aB J,aE h]];exact rfl
 have j:(i.k==3)=false:=j;rw[cE] at j
 repeat apply jL
 refine⟨λh=> ?_,λl=> ?_⟩
 ·have h:(i.k==4)=true:=h;rw[cH] at h
  refine jb (iP _ _ _) ?_;refine⟨rfl,?_⟩;rw[show xA i=_ from by unfold xA;rw[aB J,aB J,aB J,aB J,aE h]];exact rfl
 have l:(i.k==4)=false:=l;rw[cE] at l
 repeat apply jL
 refine⟨λh=> ?_,λn=> ?_⟩
 ·have h:(i.k==5)=true:=h;rw[cH] at h
  refine jb (cn _) ?_
  refine jc (cj _) ?_;refine⟨rfl,?_⟩;rw[show xA i=_ from by unfold xA;rw[aB J,aB J,aB J,aB J,aB J,aE h]];exact rfl
 have n:(i.k==5)=false:=n;rw[cE] at n
 repeat apply jL
 refine⟨λh=> ?_,λt=> ?_⟩
 ·have h:(i.k==6)=true:=h;rw[cH] at h
  refine jb (cn _) ?_;refine⟨rfl,?_⟩;rw[show xA i=_ from by unfold xA;rw[aB J,aB J,aB J,aB J,aB J,aB J,aE h]];exact rfl
 have t:(i.k==6)=false:=t;rw[cE] at t
 repeat apply jL
 refine⟨λh=> ?_,λw=> ?_⟩
 ·have h:(i.k==7)=true:=h;rw[cH] at h
  refine jb (iP _ _ _) ?_
  refine jc (cj _) ?_
  refine jc (ch _) ?_;refine⟨rfl,?_⟩;rw[show xA i=_ from by unfold xA;rw[aB J,aB J,aB J,aB J,aB J,aB J,aB J,aE h]];exact rfl
 have w:(i.k==7)=false:=w;rw[cE] at w
 repeat apply jL
 refine⟨λh=> ?_,λx=> ?_⟩
 ·have h:(i.k==8)=true:=h;rw[cH] at h
  refine jb (ve _) ?_
  refine jc (cj _) ?_;refine⟨rfl,?_⟩;rw[show xA i=_ from by unfold xA;rw[aB J,aB J,aB J,aB J,aB J,aB J,aB J,aB J,aE h]];exact rfl
 have x:(i.k==8)=false:=x;rw[cE] at x
 repeat apply jL
 refine⟨λh=> ?_,λz=> ?_⟩
 ·have h:(i.k==9)=true:=h;rw[cH] at h;refine⟨rfl,?_⟩;rw[show xA i=_ from by unfold xA;rw[aB J,aB J,aB J,aB J,aB J,aB J,aB J,aB J,aB J,aE h]];exact rfl
 have z:(i.k==9)=false:=z;rw[cE] at z;refine⟨rfl,?_⟩;rw[show xA i=_ from by unfold xA;rw[aB e,aB f,aB g,aB j,aB l,aB n,aB t,aB w,aB x,aB z]];exact rfl
def sI (i:Inp):Bool:=(xA i).2&&smI (xA i).1 i
theorem ZG (i:Inp):(xA i).1.raw.fs.length<=i.raw.fs.length/\(xA i).1.up.length<=i.up.length:=by
 by_cases a:i.k=0
 ·rw[show xA i=_ from by unfold xA;rw[aE a]];exact⟨aG _,bI _⟩
 by_cases c:i.k=1
 ·rw[show xA i=_ from by unfold xA;rw[aB a,aE c]];exact⟨bI _,bI _⟩
 by_cases e:i.k=2
 ·rw[show xA i=_ from by unfold xA;rw[aB a,aB c,aE e]];exact⟨bI _,bI _⟩
 by_cases f:i.k=3
 ·rw[show xA i=_ from by unfold xA;rw[aB a,aB c,aB e,aE f]];exact⟨bI _,bI _⟩
 by_cases g:i.k=4
 ·rw[show xA i=_ from by unfold xA;rw[aB a,aB c,aB e,aB f,aE g]];exact⟨bI _,bI _⟩
 by_cases h:i.k=5
 ·rw[show xA i=_ from by unfold xA;rw[aB a,aB c,aB e,aB f,aB g,aE h]];exact⟨bI _,bI _⟩
 by_cases j:i.k=6
 ·rw[show xA i=_ from by unfold xA;rw[aB a,aB c,aB e,aB f,aB g,aB h,aE j]];exact⟨bI _,bI _⟩
 by_cases l:i.k=7
 ·rw[show xA i=_ from by unfold xA;rw[aB a,aB c,aB e,aB f,aB g,aB h,aB j,aE l]];exact⟨bI _,bI _⟩
 by_cases n:i.k=8
 ·rw[show xA i=_ from by unfold xA;rw[aB a,aB c,aB e,aB f,aB g,aB h,aB j,aB l,aE n]];exact⟨bI _,bI _⟩
 by_cases q:i.k=9
 ·rw[show xA i=_ from by unfold xA;rw[aB a,aB c,aB e,aB f,aB g,aB h,aB j,aB l,aB n,aE q]];exact⟨bI _,aG _⟩
 rw[show xA i=_ from by unfold xA;rw[aB a,aB c,aB e,aB f,aB g,aB h,aB j,aB l,aB n,aB q]];exact⟨bI _,bI _⟩
theorem aI4 (i:Inp) (c:i.raw.fs.length<2^62) (e:i.up.length<2^62):cC 41 [.ag i.av] [] (.b (sI i)):=by
 refine hZ Tryz.func41 [.tmp 2] [] ?_;refine aN (eX ?_);refine⟨_,Rf i c e,?_⟩;have f:=ZG i
 repeat apply jL
 refine⟨[],_,λ_=>RK (xA i).1 i J c J e,?_⟩;exact RetIs.b rfl
structure Stp0 where
 nets:List ByteArray
 cl:List Sb.Cm
 gr:List Sb.Gt
 keep:Int
 need:Int
 wait:Int
 pup:List Int
 near:Int
def Stp0.av (s:Stp0):List AV:=[.rs 1 s.nets.length (rS s.nets),.rs 2 s.cl.length (Sb.rowsM s.cl),.rs 3 s.gr.length (Sb.rowsG_q1 s.gr),.I s.keep,.I s.need,.I s.wait,.rs 1 s.pup.length (rI s.pup),.I s.near]
structure Stp0.fit (s:Stp0):Prop where
 n:s.nets.length<2^62
 c:s.cl.length<2^62
 g:s.gr.length<2^62
 p:s.pup.length<2^62
 t: ∀x∈s.nets,x.size<9223372036854775807
def AZ (l:List Int) (i:Nat):Bool:= !wi (l.getD i 0) 0 1999||decide (l.getD i 0∈l.take i)
def Aq (x:Sb.Gt):Bool:=(!wi x.grp 0 499|| !wi x.per 0 1999)|| !wi x.rig 0 15
def vg (s:Stp0):Bool:= !(((((!wi s.keep 1 20|| !wi s.need 1 s.keep)|| !wi s.wait 1 1073741824)|| !wi s.near 0 1073741824)||decide ((s.pup.length:Int)>80))||decide ((s.gr.length:Int)>200))
 &&(List.range s.pup.length).all (λi=> !AZ s.pup i)&&s.gr.all λx=> !Aq x
theorem Rg (s:Stp0) (w:s.fit):cC 58 [.ag s.av] [] (.b (vg s)):=by
 refine hZ Tryz.func58 [.tmp 2] [] ?_
 refine jb (iP _ _ _) ?_
 refine jc (iP _ _ _) ?_
 refine jc (iP _ _ _) ?_
 refine jc (iP _ _ _) ?_;refine⟨λh=> ?_,λt=> ?_⟩
 ·have h:(((((!wi s.keep 1 20|| !wi s.need 1 s.keep)|| !wi s.wait 1 1073741824)|| !wi s.near 0 1073741824)||decide ((s.pup.length:Int)>80))||decide ((s.gr.length:Int)>200))=true:=h;refine RetIs.b ?_;unfold vg;rw[h];rfl
 have t:(((((!wi s.keep 1 20|| !wi s.need 1 s.keep)|| !wi s.wait 1 1073741824)|| !wi s.near 0 1073741824)||decide ((s.pup.length:Int)>80))||decide ((s.gr.length:Int)>200))=false:=t;have E:=w.p;have D:=w.g;refine .inl ⟨[],Nat,λk=>k<=s.pup.length/\ ∀j,j<k->AZ s.pup j=false,λk=>[⟨46,[],.I k⟩],λ_=>[],λk=>s.pup.length-k,
  na,?_⟩
 rintro k ⟨l,hno⟩;have l:k<=s.pup.length:=l;refine .inl ⟨λf=> ?_,λf=> ?_⟩
 ·have f:=pH f;have f:(k:Int)<s.pup.length:=f;have ek:(k:Int).toNat=k:=aQ k
  repeat apply jL
  refine⟨⟨J,J⟩,?_⟩
  refine jb (ch _) ?_;refine⟨λ_=>⟨J,J,J⟩,?_⟩
  repeat apply jL
  refine⟨[],_,λ_=>j8.of_eq (args:=[.rs 1 (s.pup.take k).length (rI (s.pup.take k)),.I (s.pup.getD (k:Int).toNat 0)]) ⟨VC s.pup l,eV.refl _⟩ (wN (s.pup.take k) jO _),?_⟩;refine jB (!wi (s.pup.getD (k:Int).toNat 0) 0 1999||decide (s.pup.getD (k:Int).toNat 0∈s.pup.take k)) (λh=> ?_) λh=> ?_
  ·rw[ek] at h;refine RetIs.b ?_;unfold vg;rw[E8 (p:=λi=> !AZ s.pup i) (k:=k) J (by unfold AZ;rw[h];rfl),pB];rfl
  ·exact mL
 have f:=iT f;have f:(s.pup.length:Int)<=k:=f;obtain rfl:k=s.pup.length:=J
 have z:(List.range s.pup.length).all (λi=> !AZ s.pup i)=true:=z1 (p:=λi=> !AZ s.pup i) λk l=>by rw[hno k l];rfl
 refine .inl ⟨[],Nat,λk=>k<=s.gr.length/\ ∀j,j<k->Aq (s.gr.getD j Sb.dGt)=false,λk=>[⟨66,[],.I k⟩],λ_=>[],λk=>s.gr.length-k,
  na,?_⟩
 rintro k ⟨l,n⟩;have l:k<=s.gr.length:=l;refine .inl ⟨λf=> ?_,λf=> ?_⟩
 ·have f:=pH f;have f:(k:Int)<s.gr.length:=f;have ek:(k:Int).toNat=k:=aQ k
  repeat apply jL
  refine⟨⟨J,J⟩,?_⟩
  refine jb (iP _ _ _) ?_
  refine jc (iP _ _ _) ?_
  refine jc (iP _ _ _) ?_;refine jB (Aq (s.gr.getD (k:Int).toNat Sb.dGt)) (λh=> ?_) λh=> ?_
  ·rw[ek] at h;refine RetIs.b ?_;unfold vg;have:s.gr.all (λx=> !Aq x)=false:=by
    rw[oQ];refine⟨s.gr.getD k Sb.dGt,?_,jR⟩;have h1:k<s.gr.length:=J
    rw[show s.gr.getD k Sb.dGt=s.gr[k] by simp[List.getD,h1]];exact fN h1
   rw[this,pB]
  ·rw[ek] at h;refine⟨k+1,[],⟨J,λj hj=> ?_⟩,jM,rfl,rfl,rfl,rfl,rfl,nV,trivial⟩;by_cases hjk:j=k
   ·rw[hjk];exact h
   ·exact n j J
 have f:=iT f;have f:(s.gr.length:Int)<=k:=f;refine RetIs.b ?_;unfold vg;have:s.gr.all (λx=> !Aq x)=true:=by rw[fU];intro x C;obtain⟨j,hj,rfl⟩:=cU C;have:=n j J;rw[show s.gr.getD j Sb.dGt=s.gr[j] by simp[List.getD,hj]] at this;rw[this];rfl
 rw[t,z,this];rfl
theorem RL {s:Stp0} (h:vg s=true):(1<=s.wait/\s.wait<=1073741824)/\(0<=s.near/\s.near<=1073741824)/\s.pup.length<=80/\s.gr.length<=200:=by unfold vg wi at h;simp at h;omega
def yZ:List (Bool×Int×Int)->Int×Int
 |[]=>(5,2)
 |(b,h,f)::r=>if b=true then(h,f) else yZ r
def wv (w:Int×Int):List AV:=[.I w.1,.I w.2]
def RM (l:List (Bool×Int×Int)) (k:Nat):List AV:=[.b (l.getD k (false,0,0)).1,.I (l.getD k (false,0,0)).2.1,.I (l.getD k (false,0,0)).2.2]
theorem Lc {l:List (Bool×Int×Int)} {k:Nat} (a:k<l.length):yZ (l.drop k)=if(l.getD k (false,0,0)).1=true then(l.getD k (false,0,0)).2 else yZ (l.drop (k+1)):=by rw[oI a,show l.getD k (false,0,0)=l[k] by simp[List.getD,a]];rfl
theorem aH1 (l:List (Bool×Int×Int)) (j:l.length<2^62):cC 102 [.rs 3 l.length (RM l)] [] (.ag (wv (yZ l))):=by
 refine hZ Tryz.func102 [.cell 2 212] [] ?_;refine .inl ⟨[],Nat,λk=>k<=l.length/\yZ (l.drop k)=yZ l,λk=>[⟨7,[],.I k⟩],λ_=>[],λk=>l.length-k,
  ⟨0,[],⟨bI _,rfl⟩,rfl,rfl,rfl,rfl,rfl,nT,trivial⟩,?_⟩
 rintro k ⟨g,e⟩;have g:k<=l.length:=g;refine .inl ⟨λc=> ?_,λc=> ?_⟩
 ·have c:=pH c;have c:(k:Int)<l.length:=c;have f:(k:Int).toNat=k:=aQ k;rw[Lc J] at e
  repeat apply jL
  refine⟨⟨J,J⟩,λh=> ?_,λh=> ?_⟩
  ·have h:(l.getD (k:Int).toNat (false,0,0)).1=true:=h;rw[f] at h;rw[aE h] at e;refine RetIs.v rfl rfl ?_;rw[<-e,<-f];rfl
  ·have h:(l.getD (k:Int).toNat (false,0,0)).1=false:=h;rw[f] at h;rw[aB jR] at e;exact⟨k+1,[],⟨J,e⟩,jM,rfl,rfl,rfl,rfl,rfl,nV,trivial⟩
 ·have c:=iT c;have c:(l.length:Int)<=k:=c;rw[List.drop_eq_nil_of_le J] at e;refine RetIs.v rfl rfl ?_;rw[<-e];rfl
def wPa (p:Pf_q0):Bool:=decide (p.parts>1)
def wEd (p:Pf_q0):Bool:=(p.edit==2)&&(p.wi==0)
def w1 (p:Pf_q0):List (Bool×Int×Int):=[(wPa p&&decide (IntKind.i64.wrap (p.size*p.parts)>=4400),1,1),(wPa p,4,1),(true,4,0)]
def w2 (p:Pf_q0):List (Bool×Int×Int):=[(wEd p,0,0),(true,3,2)]
def w3 (p:Pf_q0):List (Bool×Int×Int):=[(p.del !=0,0,0),(wEd p,2,0),(true,3,2)]
def w4 (p:Pf_q0):List (Bool×Int×Int):=[(p.react&& !wPa p,0,0),(p.react,0,1),(true,3,2)]
def w5 (p:Pf_q0):List (Bool×Int×Int):=[(p.thr==2,0,0),(p.thr==1,2,1),(true,2,2)]
def w6 (p:Pf_q0):List (Bool×Int×Int):=[(p.quo,0,0),(true,2,2)]
def w7 (p:Pf_q0):List (Bool×Int×Int):=[(p.men,0,0),(true,2,2)]
def w8 (p:Pf_q0):List (Bool×Int×Int):=[(p.files==4,0,0),(decide (p.files>0),4,1),(true,2,2)]
def cp (p:Pf_q0):List (Int×Int):=[(0,0),yZ (w1 p),yZ (w2 p),yZ (w3 p),yZ (w4 p),yZ (w5 p),yZ (w6 p),yZ (w7 p),yZ (w8 p)]
def VH (l:List (Int×Int)) (k:Nat):List AV:=wv (l.getD k (0,0))
theorem Rh (p:Pf_q0) (g:p.fit) (f:p2 p=0):cC 60 [p.ar] [.row 212 2 9 (VH (cp p))] (.tup [.so 0,.I 0]):=by
 refine hZ Tryz.func60 [.tmp 2,.tmp 3] [] ?_
 refine jb (wD p g) ?_;refine⟨λh=> ?_,λj=> ?_⟩
 ·have h:(p2 p !=0)=true:=h;rw[f] at h;cases h
 repeat apply jL
 refine⟨⟨rfl,jD,jD⟩,jD,jD,?_⟩
 repeat apply jL
 refine⟨[],_,j8.of_eq (args:=[.rs 3 3 (RM (w1 p))]) ⟨rfl,rfl,λk e=>by rcases k with _|_|_|k<;>first|rfl|exact absurd e J⟩ (aH1 (w1 p) (by show 3<2^62;decide)),?_⟩
 refine⟨jD,jD,?_⟩
 repeat apply jL
 refine⟨[],_,j8.of_eq (args:=[.rs 3 2 (RM (w2 p))]) ⟨rfl,rfl,λk e=>by rcases k with _|_|k<;>first|rfl|exact absurd e J⟩ (aH1 (w2 p) (by show 2<2^62;decide)),?_⟩
 refine⟨jD,jD,?_⟩
 repeat apply jL
 refine⟨[],_,j8.of_eq (args:=[.rs 3 3 (RM (w3 p))]) ⟨rfl,rfl,λk e=>by rcases k with _|_|_|k<;>first|rfl|exact absurd e J⟩ (aH1 (w3 p) (by show 3<2^62;decide)),?_⟩
 refine⟨jD,jD,?_⟩
 repeat apply jL
 refine⟨[],_,j8.of_eq (args:=[.rs 3 3 (RM (w4 p))]) ⟨rfl,rfl,λk e=>by rcases k with _|_|_|k<;>first|rfl|exact absurd e J⟩ (aH1 (w4 p) (by show 3<2^62;decide)),?_⟩
 refine⟨jD,jD,?_⟩
 repeat apply jL
 refine⟨[],_,j8.of_eq (args:=[.rs 3 3 (RM (w5 p))]) ⟨rfl,rfl,λk e=>by rcases k with _|_|_|k<;>first|rfl|exact absurd e J⟩ (aH1 (w5 p) (by show 3<2^62;decide)),?_⟩
 refine⟨jD,jD,?_⟩
 repeat apply jL
 refine⟨[],_,j8.of_eq (args:=[.rs 3 2 (RM (w6 p))]) ⟨rfl,rfl,λk e=>by rcases k with _|_|k<;>first|rfl|exact absurd e J⟩ (aH1 (w6 p) (by show 2<2^62;decide)),?_⟩
 refine⟨jD,jD,?_⟩
 repeat apply jL
 refine⟨[],_,j8.of_eq (args:=[.rs 3 2 (RM (w7 p))]) ⟨rfl,rfl,λk e=>by rcases k with _|_|k<;>first|rfl|exact absurd e J⟩ (aH1 (w7 p) (by show 2<2^62;decide)),?_⟩
 refine⟨jD,jD,?_⟩
 repeat apply jL
 refine⟨[],_,j8.of_eq (args:=[.rs 3 3 (RM (w8 p))]) ⟨rfl,rfl,λk e=>by rcases k with _|_|_|k<;>first|rfl|exact absurd e J⟩ (aH1 (w8 p) (by show 3<2^62;decide)),?_⟩
 refine⟨jD,jD,?_⟩;refine⟨[(0,4)],⟨nR,⟨⟨rfl,rfl,trivial,⟨rfl,rfl,rfl,λk e=> ?_⟩⟩,trivial⟩,rfl⟩,rfl,λk e=>rfl⟩;have e:k<9:=e;rcases k with _|_|_|_|_|_|_|_|_|k<;>first|rfl|exact absurd e J
theorem lq (p:Pf_q0) (c:p.fit) (a:p2 p=0):cA 60 [p.ar] (.tup [.rs 2 9 (VH (cp p)),.I 0]):=
 (Rh p c a).frz (by constructor<;>exact rfl)
def RS.sm (s:RS):Prop:= ∀t∈s.ts,t.x.size<=2000
theorem RS.sm.tl {s:RS} (h:s.sm):s.tl.sm:=λt a=>h t (List.mem_of_mem_tail a)
theorem cu {s:RS} (h:s.sm) (e:Int):(i6 s e).sm:=by unfold i6;split<;>exact h
theorem Ez {s:RS} (h:s.sm) (l:List ByteArray):(Mw s l).sm:=by unfold Mw;split<;>first|exact h.tl|exact h
theorem Ri {s:RS} (h:s.sm):(xn s).sm:=by unfold xn;split<;>first|exact cu h _|exact h.tl
theorem vh {s:RS} (h:s.sm) (m:Int):(Gd s m).sm:=by
 unfold Gd;split
 ·exact cu h _
 ·split
  ·exact cu h _
  ·exact h.tl
theorem zA {s:RS} (h:s.sm) (l:List ByteArray):(P0 s l).sm:=by unfold P0;split<;>first|exact cu h _|exact Ez h _
theorem vi {s:RS} (h:s.sm) (w:ByteArray) (l:List ByteArray):(FZ s w l).sm:=zA (zA (zA h _) _) _
theorem aDv {s:RS} (h:s.sm):s.hd.x.size<=2000:=by
 unfold RS.hd;rw[eR];cases e:s.ts[0]? with
 |none=>exact bI _
 |some t=>exact h t (jU e)
theorem Rj {s:RS} (h:s.sm) (k:Int):(Gc s k).x.size<=2000:=by
 unfold Gc;split
 ·exact bI _
 ·exact aDv h
theorem Vu (x:ByteArray) (z:x.size<=2000): ∀(n at_:Nat) (e:List Tok),at_<=x.size->(∀t∈e,t.x.size<=2000)-> ∀t∈(y7 x n at_ e).1,t.x.size<=2000
 |0,at_,e,j,f=>by
  intro t c;unfold y7 at c
  first|exact f t c|cases c
 |n+1,at_,e,j,f=>by
  have D:=ip Z7 (tail x at_);have F:=o9 x at_;obtain⟨a,w⟩: ∃a,a=at_+G6 Z7 (tail x at_):=⟨_,rfl⟩;obtain⟨q,g⟩: ∃q,q=tV (tail x a):=⟨_,rfl⟩;rw[zt x n at_ e w g];have E:=o9 x a;split
  ·intro t c;rcases cR.1 c with h|h
   ·exact f t h
   ·rw[bV.1 h];exact bI _
  ·rename_i G;split
   ·intro t c;cases c
   ·rename_i l;obtain⟨A,C⟩:=tp (x:=tail x a) J (by rw[<-g];simpa using l);rw[<-g] at A C;refine Vu x z n _ _ J λt c=> ?_;rcases cR.1 c with h|h
    ·exact f t h
    ·rw[bV.1 h];show q.1.x.size<=2000;omega
theorem IV (x:ByteArray):(pa0 x).sm:=by
 unfold RS.sm pa0 vA;dsimp only;split
 ·intro t a;cases a
 ·exact Vu x J _ _ _ (bI _) λt a=>by cases a
theorem IW: ∀(n:Nat) (s:RS) (l:List ByteArray),s.sm->l.length<=20->(∀b∈l,b.size<=2000)->(Yr n s l).2.length<=20/\ ∀b∈(Yr n s l).2,b.size<=2000
 |0,s,l,h,c,a=>⟨c,a⟩
 |n+1,s,l,h,c,a=>by
  unfold Yr;split
  ·split
   ·exact⟨c,a⟩
   ·refine IW n _ _ (Ri h) (by rw[bD,cD];omega) λb f=> ?_;rcases cR.1 f with e|e
    ·exact a b e
    ·rw[bV.1 e];exact Rj h 0
  ·exact⟨c,a⟩
theorem RN (x:ByteArray):(GC x).sm:=by
 have a:(pa5 x).sm:=zA (zA (zA (Ri (zA (IV x) _)) _) _) _;have c:(CO x).sm:=by
  unfold CO;split
  ·split
   ·exact vh (Ez a _) _
   ·exact Ez a _
  ·exact a
 exact zA (vh (zA (vh (zA (vi (vi (vi (vi (vi (zA c _) _ _) _ _) _ _) _ _) _ _) _) _) _) _) _
theorem ZH {s:RS} (f:s.sm) (p:Pf_q0) (e:p.name.size<=2000) (g:p.types.length<=20) (a: ∀b∈p.types,b.size<=2000):(Py s p).2.name.size<=2000/\(Py s p).2.types.length<=20/\ ∀b∈(Py s p).2.types,b.size<=2000:=by
 unfold Py;split
 ·exact⟨e,g,a⟩
 ·have c:(CN s).sm:=zA (vh (zA (vh (Ez f _) _) _) _) _;have:=IW (xn (CN s)).ts.length (xn (CN s)) [(Gc (CN s) 0).x] (Ri c) (by show(1:Nat)<=20;decide) λb a=>by rw[bV.1 a];exact Rj c 0
  exact⟨e,this.1,this.2⟩
theorem ZI (x:ByteArray):(paP x).name=(Gc (pa1 x) 0).x/\(paP x).types=[]:=⟨rfl,rfl⟩
theorem ZJ (x:ByteArray):(Uw x).2.name.size<=2000/\(Uw x).2.types.length<=20/\ ∀b∈(Uw x).2.types,b.size<=2000:=by
 obtain⟨c,a⟩:=ZI x;rw[show Uw x=Py (GC x) (paP x) from rfl];have e:=RN x;generalize GC x=s at e|-;generalize paP x=p at c a|-;refine ZH e p ?_ ?_ ?_
 ·rw[c];exact Rj (zA (IV x) _) 0
 ·rw[a];exact bI _
 ·rw[a];exact λb f=>by cases f
theorem IX (s:RS) (p:Pf_q0):(XM s p).name=p.name/\(XM s p).types=p.types:=⟨rfl,rfl⟩
theorem RO (x:ByteArray):(yE x).name.size<=2000/\(yE x).types.length<=20/\ ∀b∈(yE x).types,b.size<=2000:=by have h:=ZJ x;rw[show yE x=XM (Uw x).1 (Uw x).2 from rfl];generalize (Uw x).1=a at h|-;generalize (Uw x).2=b at h|-;rw[(IX a b).1,(IX a b).2];exact h
theorem B3 (x:ByteArray):(yE x).fit:=by
 have h:=RO x;generalize yE x=p at h;obtain⟨c,f,a⟩:=h;refine⟨J,λk=> ?_,J⟩;rw[eR];cases e:p.types[k]? with
 |none=>exact(by decide:gB.size<9223372036854775807)
 |some b=>have:=a b (jU e);show b.size<_;omega
theorem IY (x:ByteArray) (a:x.size<9223372036854775807) (h:(o5 x).2≠0):cC 7 [.s x] [] (.tup [.ag (wV.cs kV),.I (o5 x).1,.I (o5 x).2]):=by have:=Jp x a;unfold Dz Ea at this;rw[aB h,aB h] at this;exact this
theorem jo (x:ByteArray) (a:x.size<9223372036854775807) (h:(o5 x).2=0):cA 7 [.s x] (.tup [(yE x).ar,.I (o5 x).1,.I (o5 x).2]):=by have:=Jp x a;unfold Dz Ea at this;rw[aE h,aE h] at this;exact j8.frz this (by constructor<;>exact rfl)
end Go.Proofs.YtpnjmojpeaegoaaGreatDoor
