/-
  TopDelivered returns true whatever the input, and the input reads behind the call as it read before, where the three listed tables of Go's library hold what the program's text lays: a part of the proof.
-/
import Derived.Maps.RangeRun
import Derived.Test.YtpnjmojpeaegoaaGreatDoorN5
set_option linter.unusedSimpArgs false
set_option linter.unusedVariables false
namespace Go.Eng
open Go.RowKit
def tS (s:Nat):List Nat->Bool
 |[]=>false
 |t::r=>match Nat.beq s t with
  |true=>true
  |false=>tS s r
theorem C6 {s:Nat}: ∀{l:List Nat},tS s l=false->s∉l
 |[],_=>jS
 |t::r,h=>by
  unfold tS at h;split at h
  ·cases h
  ·rename_i e;have c:=C6 h;intro a;rcases eF.1 a with rfl|a
   ·simp at e
   ·exact c a
def sG (β:Bd) (l:List AO):Nat->Prop:=λg=> ∃j o,l[j]? =some o/\dG β j o g
def Tl (β:Bd) (l:List AO):Prop:= ∀j a o c g,l[j]? =some o->l[a]? =some c->dG β j o g->dG β a c g->j=a
def J1 (al:Bool) (F:Nat->Prop) (w:World) (β:Bd) (l:List AO):Nat->Prop:=λg=>((al=false/\g<w.heap.size)\/F g)\/sG β l g
def Fr (F:Nat->Prop) (β:Bd) (ins:List AO):Nat->Prop:=λg=>F g/\ ¬sG β ins g
structure Gives (al:Bool) (F:Nat->Prop) (w:World) (ins:List AO) (β:Bd) (outs os:List AO) (r:AV) (v:Value) (w':World) (β':Bd):Prop where
 ag:yL ins.length β β'
 fr:Frame (sG β ins) w w'
 len:outs.length=ins.length
 obj: ∀j o,(outs++os)[j]? =some o->lV β' (outs++os).length (J1 al (Fr F β ins) w β' (outs++os)) w' j o
 own: ∀g,sG β' (outs++os) g->sG β ins g\/w.heap.size<=g
 dist:Tl β' (outs++os)
 res:Rep β' (outs++os).length (J1 al (Fr F β ins) w β' (outs++os)) w' r v
structure GivesS (al:Bool) (F:Nat->Prop) (w:World) (ins:List AO) (β:Bd) (outs os:List AO) (r:AV) (v:Value) (w':World) (β':Bd):Prop where
 ag:yL ins.length β β'
 fr:Frame (sG β ins) w w'
 len:outs.length=ins.length
 obj: ∀j o,(outs++os)[j]? =some o->lV β' (outs++os).length (J1 al F w β' (outs++os)) w' j o
 own: ∀g,sG β' (outs++os) g->sG β ins g\/w.heap.size<=g
 dist:Tl β' (outs++os)
 res:Rep β' (outs++os).length (J1 al F w β' (outs++os)) w' r v
def tC (P:Program) (f:FuncId) (al:Bool) (ins:List AO) (args:List AV) {Y:Type} (h:Y->Prop) (c os:Y->List AO) (r:Y->AV):Prop:=
 rT P f/\ ∀(F:Nat->Prop) (w:World) (β:Bd) (a:List Value),(∀g,sG β ins g->F g)->FOk F w->(al=false-> ∀g,F g->sG β ins g)->
  (∀j o,ins[j]? =some o->lV β ins.length F w j o)->Tl β ins->args.length=a.length->(∀(j:Nat) (n:j<args.length) (q:j<a.length),Rep β ins.length F w args[j] a[j])->
  Calls P f a.toArray w λe k=> ∃v l y,e= .returned v/\h y/\Gives al F w ins β (c y) (os y) (r y) v k l
def Ci (P:Program) (f:FuncId) (al:Bool) (ins:List AO) (args:List AV) {Y:Type} (h:Y->Prop) (c os:Y->List AO) (r:Y->AV):Prop:=
 rT P f/\ ∀(F:Nat->Prop) (w:World) (β:Bd) (a:List Value),(∀g,sG β ins g->F g)->FOk F w->(al=false-> ∀g,F g->sG β ins g)->
  (∀j o,ins[j]? =some o->lV β ins.length F w j o)->Tl β ins->args.length=a.length->(∀(j:Nat) (n:j<args.length) (q:j<a.length),Rep β ins.length F w args[j] a[j])->
  Calls P f a.toArray w λe k=> ∃v l y,e= .returned v/\h y/\GivesS al F w ins β (c y) (os y) (r y) v k l
theorem Ci.m {P:Program} {f:FuncId} {al:Bool} {ins:List AO} {args:List AV} {Y:Type} {q:Y->Prop} {l os:Y->List AO} {r:Y->AV} (h:Ci P f al ins args q l os r):tC P f al ins args q l os r:=by
 refine⟨h.1,λF w β M z A C D E G H=>(h.2 F w β M z A C D E G H).mono ?_⟩;rintro e N ⟨v,n,y,K,L,g⟩;have t: ∀b,¬J1 al F w n (l y++os y) b-> ¬J1 al (Fr F β ins) w n (l y++os y) b:=by
  rintro b a ((c|c)|c)
  ·exact a (.inl (.inl c))
  ·exact a (.inl (.inr c.1))
  ·exact a (.inr c)
 exact⟨v,n,y,K,L,g.ag,g.fr,g.len,λj o x=>(g.obj j o x).stable (bM.1 x).1 (aG _) (λ_ _=>nT) (λb _ a=>t b a) (λ_ _ _=>rfl) (aG _) (λ_ _=>rfl),g.own,g.dist,
  g.res.stable (λb _ a=>t b a) (λ_ _ _=>rfl) (aG _)⟩
def yD:List Nat->Nat->Option Nat
 |[],_=>none
 |b::r,id=>match Nat.beq b id with
  |true=>some 0
  |false=>(match yD r id with
   |some j=>some (j+1)
   |none=>none)
theorem xW: ∀{l:List Nat} {id j:Nat},yD l id=some j->l[j]? =some id
 |[],_,_,h=>jC
 |b::r,id,j,h=>by
  unfold yD at h;split at h
  ·rename_i a;have a:b=id:=by simpa using a
   cases h;simp[a]
  ·split at h
   ·rename_i e c;cases h;simpa using xW c
   ·cases h
theorem gh: ∀{l:List Nat} {id:Nat},yD l id=none->id∉l
 |[],_,_=>jS
 |b::r,id,h=>by
  unfold yD at h;split at h
  ·cases h
  ·rename_i c;split at h
   ·cases h
   ·rename_i g;have a:b≠id:=by intro e;subst e;simp at c
    rw[eF];rintro(rfl|f)
    ·exact a rfl
    ·exact gh g f
def Cj:List Nat->Bool
 |[]=>true
 |b::r=>match tS b r with
  |true=>false
  |false=>Cj r
theorem qz: ∀{l:List Nat},Cj l=true->l.Nodup
 |[],_=>jS
 |b::r,h=>by
  unfold Cj at h;split at h
  ·cases h
  ·rename_i a;exact jQ.2 ⟨C6 a,qz h⟩
def pc:List Nat->Nat->Nat->Nat
 |[],nid,j=>nid+j
 |b::_,_,0=>b
 |_::r,nid,j+1=>pc r nid j
theorem Ns: ∀{l:List Nat} {nid j:Nat} (h:j<l.length),pc l nid j=l[j]
 |b::r,nid,0,_=>rfl
 |b::r,nid,j+1,h=>by simpa [pc] using Ns (l:=r) (nid:=nid) jH
theorem Nt: ∀{l:List Nat} {nid j:Nat} (_:l.length<=j),pc l nid j=nid+(j-l.length)
 |[],nid,j,_=>by simp[pc]
 |b::r,nid,0,h=>jh
 |b::r,nid,j+1,h=>by have:=Nt (l:=r) (nid:=nid) (j:=j) jH;simp[pc,this]
def MV (lk:Nat->Option AO) (a:List Nat) (id:Nat):Option AO:=
 match yD a id with
 |some _=>none
 |none=>lk id
def C7 (lk:Nat->Option AO) (al:Bool) (c:List Nat) (n:Nat) (a:AV) (k:AV->Prop):Prop:=
 match al with
 |true=>False
 |false=>sZ (MV lk c) n a k
mutual
def Xe (lk:Nat->Option AO) (al:Bool) (c:List Nat):Nat->AV->(AV->Prop)->Prop
 |0,_,_=>False
 |n+1,.so id,k=>(match yD c id with
  |some j=>k (.so j)
  |none=>C7 lk al c (n+1) (.so id) k)
 |n+1,.p id e,k=>(match yD c id with
  |some j=>k (.p j e)
  |none=>C7 lk al c (n+1) (.p id e) k)
 |_+1,.pe id h w e,k=>(match yD c id with
  |some j=>k (.pe j h w e)
  |none=>False)
 |n+1,.mo id,k=>(match yD c id with
  |some j=>k (.mo j)
  |none=>C7 lk al c (n+1) (.mo id) k)
 |n+1,.sv id h t m,k=>(match yD c id with
  |some j=>k (.sv j h t m)
  |none=>C7 lk al c (n+1) (.sv id h t m) k)
 |n+1,.sc id e m q,k=>(match yD c id with
  |some j=>k (.sc j e m q)
  |none=>C7 lk al c (n+1) (.sc id e m q) k)
 |n+1,.fn f g,k=>ra lk al c n g λl=>k (.fn f l)
 |n+1,.ag g,k=>ra lk al c n g λl=>k (.ag l)
 |n+1,.tup g,k=>ra lk al c n g λl=>k (.tup l)
 |_+1,a,k=>k a
def ra (lk:Nat->Option AO) (al:Bool) (c:List Nat):Nat->List AV->(List AV->Prop)->Prop
 |_,[],k=>k []
 |0,_::_,_=>False
 |n+1,a::r,k=>Xe lk al c n a λb=>ra lk al c n r λl=>k (b::l)
end
section
variable {P : Program} {β : Bd} {nid : Nat} {F Fa : Nat -> Prop} {w : World} {lk : Nat -> Option AO}
def Bd.sub (β:Bd) (a:List Nat):Bd:=⟨λj=>β.blk (a.getD j 0),λj=>β.val (a.getD j 0)⟩
theorem J2 {a:List Nat} {id j:Nat} (h:yD a id=some j):j<a.length/\(β.sub a).blk j=β.blk id/\(β.sub a).val j=β.val id:=by have:=xW h;obtain⟨c,e⟩:=bM.1 this;refine⟨c,?_,?_⟩<;>simp[Bd.sub,this]
theorem yO (E:Env β nid F w lk) (e: ∀g,Fa g->F g) {al:Bool} {c:List Nat} (f:al=false-> ∀id o g,MV lk c id=some o->dG β id o g-> ¬Fa g) {n:Nat} {a:AV} {v:Value} {q:AV->Prop}
  (l:Rep β nid F w a v) (h:C7 lk al c n a q): ∃b,q b/\Rep (β.sub c) c.length Fa w b v:=by
 unfold C7 at h;split at h
 ·cases h
 ·obtain⟨b,k,j⟩:=(v8 E e (lkv:=MV lk c) (λid o h=>by
   unfold MV at h;split at h
   ·cases h
   ·exact h) (f rfl) n).1 a v q l h
  exact⟨b,k,.pure _ _ j⟩
theorem yj (E:Env β nid F w lk) (H: ∀g,Fa g->F g) {al:Bool} {x:List Nat} (K:al=false-> ∀id o g,MV lk x id=some o->dG β id o g-> ¬Fa g): ∀n:Nat,
  (∀(a:AV) (v:Value) (q:AV->Prop),Rep β nid F w a v->Xe lk al x n a q-> ∃b,q b/\Rep (β.sub x) x.length Fa w b v)/\
  (∀(l:List AV) (t:List Value) (q:List AV->Prop),l.length=t.length->(∀(j:Nat) (h1:j<l.length) (h2:j<t.length),Rep β nid F w l[j] t[j])->ra lk al x n l q->
   ∃m,q m/\m.length=t.length/\ ∀(j:Nat) (h1:j<m.length) (h2:j<t.length),Rep (β.sub x) x.length Fa w m[j] t[j]):=by
 have Q: ∀{a:AV} {v:Value},Rep0 F w a v->Rep (β.sub x) x.length Fa w a v:=λh=> .pure _ _ (h.stable (λg _ hn Y=>hn (H g Y)) (λ_ _ _=>rfl) (aG _));intro n
 induction n with
 |zero=>
  refine⟨λa v q e h=>by simp only[Xe] at h,λl t q A e h=> ?_⟩;cases l with
  |nil=>simp only[ra] at h;exact⟨[],h,A,λj h1=>jl⟩
  |cons a r=>simp only[ra] at h
 |succ n N=>
  refine⟨λa v q e h=> ?_,λl t q A e h=> ?_⟩
  ·cases a with
   |so id=>
    simp only[Xe] at h;split at h
    ·rename_i j z;obtain⟨h1,_,h2⟩:=J2 (β:=β) z;have U:v.oneCell'=true:=qk e rfl;obtain⟨_,rfl⟩:=e.so_inv;have:=Rep.so (β:=β.sub x) (n:=x.length) (F:=Fa) (w:=w) j h1 (by rw[h2];exact U);rw[h2] at this;exact⟨_,h,this⟩
    ·exact yO E H K e h
   |p id L=>
    simp only[Xe] at h;split at h
    ·rename_i j z;obtain⟨h1,h2,_⟩:=J2 (β:=β) z;obtain⟨_,rfl⟩:=e.p_inv;have:=Rep.p (β:=β.sub x) (n:=x.length) (F:=Fa) (w:=w) j L h1;rw[h2] at this;exact⟨_,h,this⟩
    ·exact yO E H K e h
   |pe id O ix L=>
    simp only[Xe] at h;split at h
    ·rename_i j z;obtain⟨h1,_,h2⟩:=J2 (β:=β) z;obtain⟨_,g,o,m,c,P,rfl⟩:=e.pe_inv;exact⟨_,h,.pe j O ix L g o m c h1 (h2.trans P)⟩
    ·cases h
   |mo id=>
    simp only[Xe] at h;split at h
    ·rename_i j z;obtain⟨h1,h2,_⟩:=J2 (β:=β) z;obtain⟨_,rfl⟩:=e.mo_inv;have:=Rep.mo (β:=β.sub x) (n:=x.length) (F:=Fa) (w:=w) j h1;rw[h2] at this;exact⟨_,h,this⟩
    ·exact yO E H K e h
   |sv id O lo m=>
    simp only[Xe] at h;split at h
    ·rename_i j z;obtain⟨h1,_,h2⟩:=J2 (β:=β) z;obtain⟨_,S⟩:=e.sv_inv;exact⟨_,h,.sv j O lo m v h1 (by rw[h2];exact S)⟩
    ·exact yO E H K e h
   |sc id L m R=>
    simp only[Xe] at h;split at h
    ·rename_i j z;obtain⟨h1,h2,_⟩:=J2 (β:=β) z;obtain⟨_,C,G,rfl⟩:=e.sc_inv;have:=Rep.sc (β:=β.sub x) (n:=x.length) (F:=Fa) (w:=w) j L m R h1 C G;rw[h2] at this;exact⟨_,h,this⟩
    ·exact yO E H K e h
   |fn f M=>simp only[Xe] at h;obtain⟨t,rfl,A,G⟩:=e.fn_inv;obtain⟨m,h,D,C⟩:=N.2 M t _ A G h;exact⟨_,h,.fn f m t D C⟩
   |ag M=>simp only[Xe] at h;obtain⟨t,rfl,A,G⟩:=e.ag_inv;obtain⟨m,h,D,C⟩:=N.2 M t _ A G h;exact⟨_,h,.ag m t D C⟩
   |tup M=>simp only[Xe] at h;obtain⟨t,rfl,A,G⟩:=e.tup_inv;obtain⟨m,h,D,C⟩:=N.2 M t _ A G h;exact⟨_,h,.tup m t D C⟩
   |_=>simp only[Xe] at h;cases e with|pure _ _ e=>exact⟨_,h,Q e⟩
  ·cases l with
   |nil=>simp only[ra] at h;exact⟨[],h,A,λj h1=>jl⟩
   |cons a r=>
    simp only[ra] at h;cases t with
    |nil=>simp at A
    |cons v t=>
     obtain⟨b,h,W⟩:=N.1 a v _ (e 0 jS jS) h;obtain⟨m,h,D,C⟩:=N.2 r t _ (by simpa using A) (λj h1 h2=>e (j+1) (iA h1) (iA h2)) h;refine⟨b::m,h,by simp[D],λj h1 h2=> ?_⟩;cases j with
     |zero=>exact W
     |succ j=>exact C j j1 j2
def rb (lk:Nat->Option AO) (al:Bool) (a:List Nat):List Nat->(List AO->Prop)->Prop
 |[],k=>k []
 |id::r,k=>(match lk id with
  |some (.cells e z)=>ra lk al a 60 z λC=>rb lk al a r λl=>k (.cells e C::l)
  |some (.row e A n get)=>rb lk al a r λl=>k (.row e A n get::l)
  |some (.mp n c val g f)=>rb lk al a r λl=>k (.mp n c val g f::l)
  |some (.it mid q h)=>(match yD a mid with
   |some j=>rb lk al a r λl=>k (.it j q h::l)
   |none=>False)
  |some (.ir n c val h t)=>rb lk al a r λl=>k (.ir n c val h t::l)
  |some (.mr n c x g f w none)=>(match yD a w with
   |some j=>rb lk al a r λl=>k (.mr n c x g f j none::l)
   |none=>False)
  |some (.mr _ _ _ _ _ _ (some _))=>False
  |some .dead=>rb lk al a r λl=>k (.dead::l)
  |none=>False)
theorem yk (E:Env β nid F w lk) (a4: ∀g,Fa g->F g) {al:Bool} {t:List Nat} (a6:al=false-> ∀id o g,MV lk t id=some o->dG β id o g-> ¬Fa g): ∀(pre r:List Nat) (q:List AO->Prop),t=pre++r->rb lk al t r q->
  ∃l,q l/\l.length=r.length/\ ∀j o,l[j]? =some o-> ∃id G,r[j]? =some id/\lk id=some G/\lV (β.sub t) t.length Fa w (pre.length+j) o/\dG (β.sub t) (pre.length+j) o=dG β id G
 |_,[],q,_,h=>⟨[],h,rfl,λj o h=>jh⟩
 |pre,id::r,q,R,h=>by
  have a5:t.getD pre.length 0=id:=by rw[R];simp
  have A:(β.sub t).blk pre.length=β.blk id:=by simp only[Bd.sub,a5]
  have U:(β.sub t).val pre.length=β.val id:=by simp only[Bd.sub,a5]
  have a0: ∀g,¬F g-> ¬Fa g:=λg D hf=>D (a4 g hf);have L: ∀{a:AV} {v:Value},Rep0 F w a v->Rep0 Fa w a v:=λh=>h.stable (λg _ D=>a0 g D) (λ_ _ _=>rfl) (aG _);have next: ∀(o G:AO) (Y:List AO->Prop),lk id=some G->lV (β.sub t) t.length Fa w pre.length o->dG (β.sub t) pre.length o=dG β id G->rb lk al t r Y->(∀l,Y l->q (o::l))->
    ∃l,q l/\l.length=(id::r).length/\ ∀j o,l[j]? =some o-> ∃i G,(id::r)[j]? =some i/\lk i=some G/\lV (β.sub t) t.length Fa w (pre.length+j) o/\dG (β.sub t) (pre.length+j) o=dG β i G:=by
   intro o G Y c a9 b1 K hq;obtain⟨l,f,a2,b4⟩:=yk E a4 a6 (pre++[id]) r Y (by rw[R];simp) K;refine⟨o::l,hq l f,by simp[a2],λj o' hj=> ?_⟩;cases j with
   |zero=>simp at hj;subst hj;exact⟨id,G,rfl,c,a9,b1⟩
   |succ j=>
    obtain⟨i,o1,e1,e2,e3,e4⟩:=b4 j o' jT;have e5:(pre++[id]).length+j=pre.length+(j+1):=jO
    rw[e5] at e3 e4;exact⟨i,o1,by simpa using e1,e2,e3,e4⟩
  unfold rb at h;split at h
  ·rename_i e cs c;obtain⟨_,vs,H,f,C⟩:=E.obj id _ c;obtain⟨b0,h,aC,d8⟩:=(yj E a4 a6 60).2 cs vs _ f (λj A U=>(C j A U).1) h;exact next (.cells e b0) _ _ c ⟨vs,by rw[A];exact H,aC,λj x z=>⟨d8 j x z,(C j J z).2⟩⟩ (by simp[dG,A]) h (λl f=>f)
  ·rename_i e sz n get c;obtain⟨_,xs,hx,a2,C⟩:=E.obj id _ c;exact next (.row e sz n get) _ _ c ⟨xs,by rw[U];exact hx,a2,λk j K x z=>⟨L (C k j K x z).1,(C k j K x z).2⟩⟩ (by simp[dG,U]) h (λl f=>f)
  ·rename_i n N val a1 M c;obtain⟨_,O,H,D,S,C⟩:=E.obj id _ c;exact next (.mp n N val a1 M) _ _ c ⟨O,by rw[A];exact H,D,S,λi x z=>⟨L (C i x z).1,L (C i x z).2.1,(C i x z).2.2⟩⟩ (by simp[dG,A]) h (λl f=>f)
  ·rename_i mid a8 a3 c;split at h
   ·rename_i j hj;obtain⟨_,hm,H⟩:=E.obj id _ c;obtain⟨x,z,_⟩:=J2 (β:=β) hj;exact next (.it j a8 a3) _ _ c ⟨x,by rw[A,z];exact H⟩ (by simp[dG,A]) h (λl f=>f)
   ·cases h
  ·rename_i n N val a3 b3 c;obtain⟨_,g,O,M,sn,H,D,S,ct,hg,C,aO⟩:=E.obj id _ c;exact next (.ir n N val a3 b3) _ _ c ⟨g,O,M,sn,by rw[A];exact H,D,S,ct,λb R=>⟨a0 b (hg b R).1,(hg b R).2⟩,λi x z=>⟨L (C i x z).1,L (C i x z).2.1,(C i x z).2.2⟩,aO⟩ (by simp[dG,A]) h (λl f=>f)
  ·rename_i n N b6 a1 M b7 c;split at h
   ·rename_i j hj;obtain⟨_,ha,_,O,H,D,S,ah,K,hd,b5,_⟩:=E.obj id _ c;obtain⟨x,_,W⟩:=J2 (β:=β) hj;refine next (.mr n N b6 a1 M j none) _ _ c ⟨x,λ_ _ e=>(by cases e),O,by rw[A];exact H,D,S,λi P Q=>⟨L (ah i P Q).1,(ah i P Q).2⟩,
     λi P Q a7=>⟨by rw[W];exact(K i P Q a7).1,(K i P Q a7).2.stable (λg _ D=>a0 g D) (λ_ _ _=>rfl) (aG _) λ_ _=>rfl⟩,by rw[W];exact hd,by rw[W,A];exact b5,λ_ _ e=>(by cases e)⟩ (by simp only[dG,A,W]) h (λl f=>f)
   ·cases h
  ·cases h
  ·rename_i c;exact next .dead _ _ c trivial rfl h (λl f=>f)
  ·cases h
end
end Go.Eng
namespace Go.Eng
open Go.RowKit
section
variable {P : Program} {β : Bd} {nid : Nat} {F : Nat -> Prop} {w : World} {lk : Nat -> Option AO} {k : Eff -> Prop}
def AO.ren (ρ:Nat->Nat):AO->AO
 | .cells e t=> .cells e (AV.rens ρ t)
 | .row e w n get=> .row e w n get
 | .mp n a val f c=> .mp n a val f c
 | .it mid l g=> .it (ρ mid) l g
 | .ir n a val g q=> .ir n a val g q
 | .mr n a k f c j none=> .mr n a k f c (ρ j) none
 | .mr n a k f c j (some (i,h))=> .mr n a k f c (ρ j) (some (i,ρ h))
 | .dead=> .dead
theorem AO.ren_mr (ρ:Nat->Nat) (n:Nat) (l:Nat->AV) (q:Nat->KD) (born:Nat->Nat) (g k:Nat) (a:Option (Nat×Nat)):
  ∃c,(AO.mr n l q born g k a).ren ρ= .mr n l q born g (ρ k) c/\(∀i,tO c i↔tO a i)/\(∀i h,c=some (i,h)-> ∃t,a=some (i,t)/\h=ρ t):=by
 rcases a with _|⟨i,h⟩
 ·exact⟨none,rfl,λ_=>M3,λ_ _ e=>by cases e⟩
 ·refine⟨some (i,ρ h),rfl,λj=> ?_,λj x e=> ?_⟩
  ·unfold tO;constructor
   ·intro f w e;rw[dT,iF] at e;exact f (ρ h) (by rw[e.1])
   ·intro f w e;rw[dT,iF] at e;exact f h (by rw[e.1])
  ·rw[dT,iF] at e;exact⟨h,by rw[e.1],e.2.symm⟩
theorem AO.ren_mr' (ρ:Nat->Nat) (n:Nat) (j:Nat->AV) (k:Nat->KD) (born:Nat->Nat) (f g:Nat) (c:Option (Nat×Nat)):
  ∃a,(AO.mr n j k born f g c).ren ρ= .mr n j k born f (ρ g) a/\(∀i,tO a i↔tO c i)/\(∀i h,a=some (i,h)-> ∃q,c=some (i,q)/\h=ρ q)/\ ∀i h,c=some (i,h)->a=some (i,ρ h):=by
 obtain⟨a,l,t,w⟩:=AO.ren_mr ρ n j k born f g c;refine⟨a,l,t,w,λi h e=> ?_⟩;subst e;cases l;rfl
def AO.rens (ρ:Nat->Nat):List AO->List AO
 |[]=>[]
 |o::r=>AO.ren ρ o::AO.rens ρ r
theorem AO.length_rens (ρ:Nat->Nat): ∀l:List AO,(AO.rens ρ l).length=l.length
 |[]=>rfl
 |o::r=>by simp[AO.rens,AO.length_rens ρ r]
theorem AO.rens_get? (ρ:Nat->Nat): ∀(l:List AO) (j:Nat) (o:AO),(AO.rens ρ l)[j]? =some o-> ∃a,l[j]? =some a/\o=AO.ren ρ a
 |[],j,o,h=>by simp[AO.rens] at h
 |c::r,0,o,h=>by simp only[AO.rens,List.getElem?_cons_zero,dT] at h;exact⟨c,rfl,h.symm⟩
 |c::r,j+1,o,h=>by simp only[AO.rens,kW] at h|-;exact AO.rens_get? ρ r j o h
theorem lV.unren {β β':Bd} {n n':Nat} {F F':Nat->Prop} {w:World} {j j':Nat} {o:AO} (h:lV β n F w j o) (ρ:Nat->Nat)
  (G: ∀id,id<n->ρ id<n'/\β'.blk (ρ id)=β.blk id/\β'.val (ρ id)=β.val id) (z:β'.blk j'=β.blk j/\β'.val j'=β.val j) (q: ∀g,¬F g-> ¬F' g):
  lV β' n' F' w j' (o.ren ρ):=by
 cases o with
 |cells e S=>
  obtain⟨vs,t,hl,l⟩:=h;refine⟨vs,by rw[z.1];exact t,(AV.length_rens ρ S).trans hl,λi c a=> ?_⟩;have O:i<S.length:=by rw[AV.length_rens] at c;exact c
  rw[AV.rens_get ρ S i c O];exact⟨((l i O a).1.unren ρ G).stable (λg _ f=>q g f) (λ_ _ _=>rfl) (aG _),(l i O a).2⟩
 |row e sz m get=>obtain⟨xs,hx,a4,l⟩:=h;exact⟨xs,by rw[z.2];exact hx,a4,λk i N c a=>⟨(l k i N c a).1.stable (λg _ f=>q g f) (λ_ _ _=>rfl) (aG _),(l k i N c a).2⟩⟩
 |mp m P val W K=>obtain⟨D,t,A,H,l⟩:=h;exact⟨D,by rw[z.1];exact t,A,H,λi c a=>⟨(l i c a).1.stable (λg _ f=>q g f) (λ_ _ _=>rfl) (aG _),(l i c a).2.1.stable (λg _ f=>q g f) (λ_ _ _=>rfl) (aG _),(l i c a).2.2⟩⟩
 |it mid a9 a6=>obtain⟨A,t⟩:=h;obtain⟨c,a,_⟩:=G mid A;exact⟨c,by rw[z.1,a];exact t⟩
 |ir m P val a6 b0=>
  obtain⟨g,D,K,sn,t,A,H,ct,hg,l,aO⟩:=h;exact⟨g,D,K,sn,by rw[z.1];exact t,A,H,ct,λb ap=>⟨q b (hg b ap).1,(hg b ap).2⟩,
   λi c a=>⟨(l i c a).1.stable (λg _ f=>q g f) (λ_ _ _=>rfl) (aG _),(l i c a).2.1.stable (λg _ f=>q g f) (λ_ _ _=>rfl) (aG _),(l i c a).2.2⟩,aO⟩
 |mr m P a0 W K Y a5=>
  obtain⟨ha,R,D,t,A,H,ah,N,hd,a7,hr⟩:=h;obtain⟨aL,e1,L,e3⟩:=AO.ren_mr ρ m P a0 W K Y a5;obtain⟨a1,a2,Q⟩:=G Y ha;rw[e1];refine⟨a1,λi h e=> ?_,D,by rw[z.1];exact t,A,H,λi M a=>⟨(ah i M a).1.stable (λg _ f=>q g f) (λ_ _ _=>rfl) (aG _),(ah i M a).2⟩,λi M a a8=> ?_,?_,?_,λi h e a=> ?_⟩
  ·obtain⟨x,C,rfl⟩:=e3 i h e;exact⟨(G x (R i x C).1).1,(R i x C).2⟩
  ·obtain⟨E,U⟩:=N i M a ((L i).1 a8);rw[Q];exact⟨E,U.stable (λg _ f=>q g f) (λ_ _ _=>rfl) (aG _) λ_ _=>rfl⟩
  ·rw[Q];exact λi j g c a E U=>hd i j g c a ((L i).1 E) ((L j).1 U)
  ·rw[Q,z.1];exact λi j c a E=>a7 i j c a ((L i).1 E)
  ·obtain⟨x,C,rfl⟩:=e3 i h e;refine⟨?_,(hr i x C a).2⟩;rw[(hr i x C a).1];have:=G x (R i x C).1;cases a0 i<;>simp[xM,this.2.1,this.2.2]
 |dead=>trivial
theorem A1 {β β':Bd} {j j':Nat} {o:AO} (ρ:Nat->Nat) (c:β'.blk j'=β.blk j/\β'.val j'=β.val j) (w: ∀a,o.aux=some a->β'.val (ρ a)=β.val a):dG β' j' (o.ren ρ)=dG β j o:=by
 cases o with
 |mr n k l g f e h=>obtain⟨x,q,t,_⟩:=AO.ren_mr ρ n k l g f e h;rw[q];simp only[dG,c.1,w e rfl,t]
 |_=>simp only[AO.ren,dG,c.1,c.2]
def Bd.join (β:Bd) (nid:Nat) (a:Bd):Bd:=⟨λid=>if id<nid then β.blk id else a.blk (id-nid),λid=>if id<nid then β.val id else a.val (id-nid)⟩
theorem Nu (β:Bd) (nid:Nat) (a:Bd):yL nid β (β.join nid a):=λid h=>by simp[Bd.join,h]
theorem A3 (β:Bd) (nid:Nat) (a:Bd) (j:Nat):(β.join nid a).blk (j+nid)=a.blk j/\(β.join nid a).val (j+nid)=a.val j:=by
 have: ¬(j+nid<nid):=J
 simp[Bd.join,this]
theorem uG.returned (hold: ∀g,F g->g<w.heap.size) {w':World} {c:Bd} {os:List AO} {r:AV} {v:Value} (L:Below w.heap.size w w')
  (q:DG c os.length (FX (λg=>g<w.heap.size) c 0 os) w.heap.size w' 0 os) (O:Rep c os.length (FX (λg=>g<w.heap.size) c 0 os) w' r v):
  uG β (β.join nid c) nid F lk w w' v (.ext (AO.rens (· +nid) os) (r.ren (· +nid))):=by
 have x: ∀id,id<os.length->id+nid<nid+(AO.rens (· +nid) os).length/\(β.join nid c).blk (id+nid)=c.blk id/\(β.join nid c).val (id+nid)=c.val id:=λid h=>
  ⟨by rw[AO.length_rens];omega,A3 β nid c id⟩
 have f: ∀j,(β.join nid c).blk (nid+j)=c.blk j/\(β.join nid c).val (nid+j)=c.val j:=λj=>by rw[rO];exact A3 β nid c j
 have C: ∀g,¬FX (λg=>g<w.heap.size) c 0 os g-> ¬FX F (β.join nid c) nid (AO.rens (· +nid) os) g:=by
  rintro g n (M|⟨j,o,l,E⟩)
  ·exact n (.inl (hold g M))
  ·obtain⟨e,k,rfl⟩:=AO.rens_get? _ os j o l;rw[A1 _ (f j) (λa _=>(A3 β nid c a).2)] at E;exact n (.inr ⟨j,e,k,by rw[dR];exact E⟩)
 refine⟨L,Nu _ _ _,⟨?_,?_,?_⟩,?_⟩
 ·intro j o l;obtain⟨e,k,rfl⟩:=AO.rens_get? _ os j o l;have:=q.1 j e k;rw[dR] at this;exact this.unren _ x (f j) C
 ·intro j o g l D;obtain⟨e,k,rfl⟩:=AO.rens_get? _ os j o l;rw[A1 _ (f j) (λa _=>(A3 β nid c a).2)] at D;exact q.2.1 j e g k (by rw[dR];exact D)
 ·intro j t o e g H K z A;obtain⟨p,N,rfl⟩:=AO.rens_get? _ os j o H;obtain⟨P,G,rfl⟩:=AO.rens_get? _ os t e K;rw[A1 _ (f j) (λa _=>(A3 β nid c a).2)] at z;rw[A1 _ (f t) (λa _=>(A3 β nid c a).2)] at A;exact q.2.2 j t p P g N G (by rw[dR];exact z) (by rw[dR];exact A)
 ·exact(O.unren _ x).stable (λg _ n=>C g n) (λ_ _ _=>rfl) (aG _)
def Tm (P:Program) (g:Option Prop) (lk:Nat->Option AO) (nid:Nat) (f:AV) (args:List AV) (k:Eff->Prop):Prop:=
 match f with
 | .fn aa c=>
  (vU lk 60 (S5 args c) λl=> ∃e r,ob g (j8 P aa l e r) (k (.ext (AO.rens (· +nid) e) (r.ren (· +nid)))))\/
  (match g with
   |some _=>(match AV.lts 0 (S5 args c) with
    |true=> ∃r,ob g (R8 P aa (S5 args c) r) (k (.ext [] r))
    |false=>False)
   |none=>(match AV.lts 0 (S5 args c) with
    |true=> ∃r,R8 P aa (S5 args c) r/\k (.ext [] r)
    |false=>False)\/
    ∃(al:Bool) (a:List Nat),ra lk al a 60 (S5 args c) λl=>rb lk al a a λins=>Cj a=true/\ ∃(Y:Type) (j:Y->Prop) (h e:Y->List AO) (r:Y->AV),
     tC P aa al ins l j h e r/\ ∀y,j y->k (.many a (AO.rens (pc a nid) (h y)) (AO.rens (pc a nid) (e y)) ((r y).ren (pc a nid))))
 |_=>False
theorem C8 {f:FuncId} (h:rT P f) (args:Array Value):(callFunc f args).run P w= .ok (.enter f args) w:=by
 obtain⟨fn,j,e,g⟩:=h;cases a:fn.body with
 |none=>simp[a] at g
 |some c=>simp at e;simp[callFunc,j,e,a]
theorem EffG.of_gives (hold: ∀g,F g->g<w.heap.size) {a:List Nat} (a2:a.Nodup) {ins t os:List AO} {r:AV} {v:Value} {w':World} {A:Bd} {al:Bool} {Fa:Nat->Prop}
  (a1:ins.length=a.length) (U: ∀j o,ins[j]? =some o-> ∃id c,a[j]? =some id/\lk id=some c/\dG (β.sub a) j o=dG β id c) (R: ∀id∈a,id<nid/\ ∃c,lk id=some c)
  (g:Gives al Fa w ins (β.sub a) t os r v w' A) (W: ∀b,F b->(al=false/\b<w.heap.size)\/Fa b):
  ∃β',EffG β β' nid F lk w w' v a (AO.rens (pc a nid) t) (AO.rens (pc a nid) os) (r.ren (pc a nid)):=by
 have N:t.length=a.length:=g.len.trans a1
 let q:Bd:=⟨λid=>if id<nid then β.blk id else A.blk (id-nid+a.length),λid=>if id<nid then β.val id else A.val (id-nid+a.length)⟩
 have C: ∀j,j<(t++os).length->pc a nid j<nid+(AO.rens (pc a nid) os).length/\q.blk (pc a nid j)=A.blk j/\q.val (pc a nid j)=A.val j:=by
  intro j f;rw[AO.length_rens];simp only[bD] at f;by_cases G:j<a.length
  ·rw[Ns G];have n:=(R _ (fN G)).1;have l:=g.ag j J;refine⟨J,?_,?_⟩
   ·rw[l.1];simp[q,n,Bd.sub,G]
   ·rw[l.2];simp[q,n,Bd.sub,G]
  ·rw[Nt J];have e:nid+(j-a.length)-nid+a.length=j:=J
   have z: ¬nid+(j-a.length)<nid:=J;exact⟨J,by simp only[q,z,zO,e],by simp only[q,z,zO,e]⟩
 have D: ∀i o,P8 nid a (AO.rens (pc a nid) t) (AO.rens (pc a nid) os) i o-> ∃j c,(t++os)[j]? =some c/\i=pc a nid j/\o=c.ren (pc a nid):=by
  rintro i o (⟨j,n,l⟩|⟨j,rfl,l⟩)<;>obtain⟨c,P,rfl⟩:=AO.rens_get? _ _ _ _ l
  ·obtain⟨f,rfl⟩:=bM.1 n;exact⟨j,c,by rw[fB J];exact P,(Ns f).symm,rfl⟩
  ·exact⟨j+a.length,c,by rw[gJ J,<-P,N,sR],by rw[Nt J,sR],rfl⟩
 have E: ∀j c,(t++os)[j]? =some c->dG q (pc a nid j) (c.ren (pc a nid))=dG A j c:=λj c f=>A1 _ (C j (bM.1 f).1).2 λx hx=>(C x ((g.obj j c f).aux_lt hx)).2.2;have K: ∀b,sG (β.sub a) ins b->aId lk a β b:=by rintro b ⟨j,o,f,Y⟩;obtain⟨id,c,n,l,H⟩:=U j o f;exact⟨id,c,jU n,l,by rw[<-H];exact Y⟩
 have L: ∀b,¬J1 al (Fr Fa (β.sub a) ins) w A (t++os) b-> ¬FG F lk β q nid a (AO.rens (pc a nid) t) (AO.rens (pc a nid) os) b:=λb z hf=>by
  rcases hf with ⟨h,a3⟩|⟨i,o,n,l⟩
  ·rcases W b h with h|h
   ·exact z (.inl (.inl h))
   ·exact z (.inl (.inr ⟨h,λh=>a3 (K b h)⟩))
  ·obtain⟨j,c,f,rfl,rfl⟩:=D i o n;rw[E j c f] at l;exact z (.inr ⟨j,c,f,l⟩)
 refine⟨q,λid a0=>by simp[q,a0],by rw[AO.length_rens];exact N,a2,λi hi=>(R i hi).2,⟨g.fr.os,g.fr.tape,g.fr.output,g.fr.size,λb h z=>g.fr.block b h λh=>z (K b h),g.fr.drawn⟩,λi o b n l=> ?_,λi o n=> ?_,λi i' o o' b n l H Q=> ?_,
  (g.res.unren _ C).stable (λb _=>L b) (λ_ _ _=>rfl) (aG _)⟩
 ·obtain⟨j,c,f,rfl,rfl⟩:=D i o n;rw[E j c f] at l;exact(g.own b ⟨j,c,f,l⟩).imp_left (K b)
 ·obtain⟨j,c,f,rfl,rfl⟩:=D i o n;exact(g.obj j c f).unren _ C (C j (bM.1 f).1).2 L
 ·obtain⟨j,c,f,rfl,rfl⟩:=D i o n;obtain⟨S,O,M,rfl,rfl⟩:=D i' o' l;rw[E j c f] at H;rw[E S O M] at Q;rw[g.dist j S c O b f M H Q]
theorem Gy {gc:Option Prop} (am: ∀c,gc=some c->c) (E:EnvT β nid F w lk) {f:AV} {args:List AV} {u:Value} {n:List Value} (hu:Rep β nid F w f u) (hl:args.length=n.length)
  (hr: ∀(j:Nat) (a:j<args.length) (l:j<n.length),Rep β nid F w args[j] n[j]) (h:Tm P gc lk nid f args k):
  Out P (rU β nid F lk w k) ((do let d<-Deferred.ofValue u n.toArray;invoke d.target d.args:Sem Next).run P w):=by
 unfold Tm at h;split at h
 ·rename_i O K;obtain⟨x,rfl,c2,fh⟩:=hu.fn_inv;have a0: ∀(j:Nat) (a:j<(S5 args K).length) (l:j<(n++x).length),Rep β nid F w (S5 args K)[j] (n++x)[j]:=by
   intro j a l;simp only[oy] at a|-;by_cases q:j<args.length
   ·rw[hJ q,hJ J];exact hr j q J
   ·rw[kF J,kF J];simp only[bD] at a l;have e:j-args.length=j-n.length:=J
    simp only[e];exact fh _ J J
  have a1:(S5 args K).length=(n++x).length:=by rw[oy];simp;omega
  have a3: ∀(_:rT P O),((do let d<-Deferred.ofValue (.func (.func O) #[] x.toArray) n.toArray;invoke d.target d.args:Sem Next).run P w)= .ok (.enter O (n++x).toArray) w:=by intro H;have:=C8 (w:=w) H (n++x).toArray;simpa [Deferred.ofValue,invoke] using this
  have a6: ∀{r:AV},AV.lts 0 (S5 args K)=true->R8 P O (S5 args K) r->k (.ext [] r)->Out P (rU β nid F lk w k) ((do let d<-Deferred.ofValue (.func (.func O) #[] x.toArray) n.toArray;invoke d.target d.args:Sem Next).run P w):=by rintro r N ⟨H,Q⟩ h;rw[a3 H];refine .enter _ _ _ ((Q F w (n++x) ⟨E.old,E.tb⟩ a1 λj a l=>AV.lts_pure N j a (a0 j a l)).mono ?_);rintro e w' ⟨v,rfl,C,a2⟩;exact⟨v,rfl,_,β,h,.id (.pure _ _ a2) C⟩
  rcases h with h|h
  ·obtain⟨m,⟨os,r,h⟩,bG,R⟩:=(v8 E.toEnv (Fa:=λ_=>False) (λ_ h=>h.elim) (λ_ _ h=>h) (λ_ _ _ _ _ h=>h) 60).2 _ (n++x) _ a1 a0 h;obtain⟨⟨H,Q⟩,h⟩:=kS h am;rw[a3 H];refine .enter _ _ _ ((Q w (n++x) bG R E.tb.1).mono ?_);rintro e w' ⟨v,γ,rfl,C,hn,a2⟩;exact⟨v,rfl,_,_,h,.returned E.old C hn a2⟩
  ·split at h
   ·split at h
    ·rename_i N;obtain⟨r,h⟩:=h;exact a6 N (kS h am).1 (kS h am).2
    ·cases h
   ·rcases h with h|⟨al,z,h⟩
    ·split at h
     ·rename_i N;obtain⟨r,a,l⟩:=h;exact a6 N a l
     ·cases h
    ·let M:Nat->Prop:=λg=>(al=true/\F g)\/ ∃id o,id∈z/\lk id=some o/\dG β id o g
     have S: ∀g,M g->F g:=by
      rintro g (⟨_,h⟩|⟨id,o,_,a,l⟩)
      ·exact h
      ·exact E.own id o g a l
     have a7:al=false-> ∀id o g,MV lk z id=some o->dG β id o g-> ¬M g:=by
      rintro a4 id o g W ef (⟨h,_⟩|⟨L,o',R,a,l⟩)
      ·rw[a4] at h;cases h
      ·unfold MV at W;split at W
       ·cases W
       ·rename_i C;rw[E.dist id L o o' g W a ef l] at C;exact gh C R
     obtain⟨ws,h,b6,b7⟩:=(yj E.toEnv S a7 60).2 _ (n++x) _ a1 a0 h;obtain⟨ins,⟨U,Y,c1,c0,os,r,⟨H,Q⟩,h⟩,a5,A⟩:=yk E.toEnv S a7 [] z _ rfl h;have A: ∀j o,ins[j]? =some o-> ∃id t,z[j]? =some id/\lk id=some t/\lV (β.sub z) z.length M w j o/\dG (β.sub z) j o=dG β id t:=by simpa using A
     have U:=qz U;have b1: ∀id∈z,id<nid/\ ∃t,lk id=some t:=λid b4=>by obtain⟨j,q,rfl⟩:=cU b4;obtain⟨L,t,a,l,_⟩:=A j _ (bL J);rw[bL q] at a;rw[cK a];exact⟨(E.obj _ _ l).1,t,l⟩
     rw[a3 H];refine .enter _ _ _ ((Q M w (β.sub z) (n++x) ?_ ?_ ?_ ?_ ?_ b6 ?_).mono ?_)
     ·rintro g ⟨j,o,q,D⟩;obtain⟨id,t,a,l,_,G⟩:=A j o q;exact .inr ⟨id,t,jU a,l,by rw[<-G];exact D⟩
     ·exact⟨λg D=>E.old g (S g D),E.tb.1,λhf=>E.tb.2 (S _ hf)⟩
     ·rintro a4 g (⟨h,_⟩|⟨id,o,R,a,l⟩)
      ·rw[a4] at h;cases h
      ·obtain⟨j,q,rfl⟩:=cU R;obtain⟨L,t,h3,G,_,h6⟩:=A j _ (bL J);rw[bL q] at h3;obtain rfl:=cK h3;rw[a] at G;obtain rfl:=cK G;exact⟨j,_,bL J,by rw[h6];exact l⟩
     ·intro j o q;obtain⟨_,_,_,_,h3,_⟩:=A j o q;rw[a5];exact h3
     ·intro j j' o o' g q b5 D b3;obtain⟨id,t,a,l,_,G⟩:=A j o q;obtain⟨L,eT,a8,a9,_,b0⟩:=A j' o' b5;have:=E.dist id L t eT g l a9 (by rw[<-G];exact D) (by rw[<-b0];exact b3);subst this;obtain⟨c3,e1⟩:=bM.1 a;obtain⟨b9,e2⟩:=bM.1 a8;exact(p5 U).1 (e1.trans e2.symm)
     ·intro j a l;rw[a5];exact b7 j a l
     ·rintro e w' ⟨v,c4,y,rfl,hy,D⟩;obtain⟨b8,D⟩:=EffG.of_gives E.old U a5 (λj o q=>by
       obtain⟨id,t,a,l,_,G⟩:=A j o q;exact⟨id,t,a,l,G⟩) b1 D λb C=>by
        cases al with
        |false=>exact .inl ⟨rfl,E.old b C⟩
        |true=>exact .inr (.inl ⟨rfl,C⟩)
      exact⟨v,rfl,_,b8,h y hy,D⟩
 ·cases h
theorem Xf {w1 w:World} (h:w1=w\/w1=w.drew):w1.heap=w.heap/\w1.os=w.os/\w1.tape=w.tape/\w1.output=w.output:=by rcases h with rfl|rfl<;>exact⟨rfl,rfl,rfl,rfl⟩
theorem Gz {n:Nat} {F:Nat->Prop} {w:World} {x y:AV} {u z:Value} (a:Rep0 F w x u) (c:Rep0 F w y z):Rep β n F w (.tup [.b true,x,y]) (.tuple #[.bool true,u,z]):=by
 refine .pure _ _ (.tup [.b true,x,y] [.bool true,u,z] rfl λj e f=> ?_)
 match j,e with
 |0,_=>exact .b true
 |1,_=>exact a
 |2,_=>exact c
theorem DX {n:Nat} {F:Nat->Prop} {w:World}:Rep β n F w (.tup [.b false]) (.tuple #[.bool false]):=by
 refine .pure _ _ (.tup [.b false] [.bool false] rfl λj a c=> ?_)
 match j,a with
 |0,_=>exact .b false
def DY (lk:Nat->Option AO) (a:AV) (k:Eff->Prop):Prop:=
 match a with
 | .p id 0=>(match lk id with
  |some (.ir n e val c _)=>
   (∀i,i<n->c i=false->k (.set id (.ir n e val (λj=>if j=i then true else c j) (some i)) (.tup [.b true,e i,val i])))/\
   ((∀i,i<n->c i=true)->k (.ext [] (.tup [.b false])))
  |some (.it mid g c)=>(match lk mid with
   |some (.mp n e val f h)=>h=g/\
    (∀i,i<n-> ¬f i∈c->k (.set id (.it mid g (c++[f i])) (.tup [.b true,e i,val i])))/\
    ((∀i,i<n->f i∈c)->k (.ext [] (.tup [.b false])))
   |_=>False)
  |_=>False)
 |_=>False
theorem Ha (E:Env β nid F w lk) {x:AV} {u:Value} (N:TypeId) (hu:Rep β nid F w x u) (h:DY lk x k): ∃v w',(Instr.next u false N).run P w= .ok v w'/\rU β nid F lk w k v w':=by
 have over_q0: ∀{v:Value},(Instr.next u false N).run P w= .ok (.tuple #[.bool false]) w->k (.ext [] (.tup [.b false]))-> ∃v w',(Instr.next u false N).run P w= .ok v w'/\rU β nid F lk w k v w':=
  λL hk=>⟨_,w,L,_,β,hk,.id DX (Below.refl _ _)⟩
 unfold DY at h;split at h
 ·rename_i id;obtain⟨b7,rfl⟩:=hu.p_inv;have a0: ∀(b:Nat) (c:Array MapEntry) (l:Nat) (t:Array Nat),w.heap[β.blk id]? =some (.mapIter (some b) l t l)->w.heap[b]? =some (.map c l)->MapOk c l->F (β.blk id)->
    ((∀i (h:i<c.size),t.contains c[i].born=true)->k (.ext [] (.tup [.b false])))->
    (∀i (h:i<c.size) w',t.contains c[i].born=false->w'.heap[β.blk id]? =some (.mapIter (some b) l (t.push c[i].born) l)->GrownBy w w' (some (β.blk id))->(∀H,H<w.heap.size-> ¬F H->w'.heap[H]? =w.heap[H]?)->
     rU β nid F lk w k (.tuple #[.bool true,c[i].key,c[i].val]) w')-> ∃v w',(Instr.next (.pointer (some ⟨β.blk id,0,none⟩)) false N).run P w= .ok v w'/\rU β nid F lk w k v w':=by
   intro b c l t G D A hF Q h1;rcases run_next_at (P:=P) w N (β.blk id) b l l t c l G D (λx hx=>by
    obtain⟨j,hj,rfl⟩:=cU hx;have:=A.old j jT;simpa using this) (aG _) with ⟨hz,L⟩|⟨e,he,w1,b1,L⟩
   ·refine over_q0 (v:=undef) L (Q λi q=> ?_);cases a3:t.contains c[i].born with
    |true=>rfl
    |false=>have:=Array.size_pos_of_mem (a:=c[i]) (xs:=leftOf c t) (by simp only[leftOf,p6];exact⟨jS,by rw[a3];rfl⟩);omega
   ·have cg:e∈c/\t.contains e.born=false:=by have:e∈leftOf c t:=jE;simpa only[leftOf,p6,dQ] using this
    obtain⟨i,q,rfl⟩:=Array.getElem_of_mem cg.1;obtain⟨O,e2,e3,e4⟩:=Xf b1;have a9:=(cN.1 G).1;refine⟨_,_,L,h1 i q _ cg.2 (by simp[ChangeMaps.setBlock,O,a9]) ⟨⟨e2,e3,e4,by simp[ChangeMaps.setBlock,O],λH _ M=> ?_⟩,M4 _ L⟩ λH _ f=> ?_⟩
    ·have a6:H≠β.blk id:=λe=>M (by rw[e]);simp[ChangeMaps.setBlock,O,iS a6]
    ·have M:H≠β.blk id:=λe=>f (by rw[e];exact hF);simp[ChangeMaps.setBlock,O,iS M]
  split at h
  ·rename_i n b3 val R b6 C;obtain⟨_,g,c,l,t,G,f,A,ct,hg,K,aO⟩:=E.obj id _ C;cases g with
   |none=>have Q:=ct rfl;refine over_q0 (v:=undef) ?_ (h.2 λi q=>J);simp[Instr.next,getObj,Sem.run,G]
   |some b=>
    obtain⟨a1,D⟩:=hg b rfl;refine a0 b c l t G D A (E.own id _ _ C rfl) (λQ=>h.2 λi q=> ?_) λi q w' hs hw z hold=> ?_
    ·rw[<-(K i q J).2.2];exact Q i J
    ·obtain⟨Y,W,eD⟩:=K i J q;refine⟨_,β,h.1 i J (by rw[<-eD];exact hs),rfl,_,C,z,rfl,⟨some b,c,l,t.push c[i].born,hw,f,A,λh=>jC,λb' ap=> ?_,λj hj S=> ?_,λj hj=> ?_⟩,Gz (Y.stable (λ_ _ f=>f) hold z.size) (W.stable (λ_ _ f=>f) hold z.size)⟩
     ·obtain rfl:=cK ap;exact⟨a1,by rw[hold _ (cN.1 D).1 a1];exact D⟩
     ·obtain⟨a8,b0,df⟩:=K j hj S;refine⟨a8.stable (λ_ _ f=>f) hold z.size,b0.stable (λ_ _ f=>f) hold z.size,?_⟩;by_cases U:j=i
      ·subst U;simp
      ·show(t.push c[i].born).contains c[j].born=if j=i then true else R j;rw[aB U,<-df];have M:c[j].born≠c[i].born:=by
        rcases sS U with h|h
        ·have:=A.asc j i h S q;omega
        ·have:=A.asc i j h q S;omega
       simp[M]
     ·obtain rfl:=cK hj;exact⟨q,jS⟩
  ·rename_i mid b4 R C;split at h
   ·rename_i n b3 val b5 l a4;obtain⟨a7,h1,h2⟩:=h;subst a7;obtain⟨_,a5,G⟩:=E.obj id _ C;obtain⟨_,c,D,f,A,K⟩:=E.obj mid _ a4;refine a0 (β.blk mid) c l R.toArray G D A (E.own id _ _ C rfl) (λQ=>h2 λi q=> ?_) λi q w' hs hw z hold=> ?_
    ·rw[<-(K i q J).2.2];simpa using Q i J
    ·obtain⟨Y,W,a2⟩:=K i J q;exact⟨_,β,h1 i J (by rw[<-a2];simpa using hs),rfl,_,C,z,rfl,⟨a5,by simp[hw,a2]⟩,Gz (Y.stable (λ_ _ f=>f) hold z.size) (W.stable (λ_ _ f=>f) hold z.size)⟩
   ·cases h
  ·cases h
 ·cases h
def OA (lk:Nat->Option AO) (e:Bool) (a:AV) (k:Eff->Prop):Prop:=
 match a with
 | .rs _ n _=> ∀c:Bool,(c=true->n=0)->k (.ext [] (.b (c==e)))
 | .sv _ _ _ n=> ∀c:Bool,(c=true->n=0)->k (.ext [] (.b (c==e)))
 | .so id=>(match lk id with
  |some (.row _ _ n _)=> ∀c:Bool,(c=true->n=0)->k (.ext [] (.b (c==e)))
  |_=>False)
 | .val v=>(match m5 v with
  |true=>k (.ext [] (.b e))
  |false=>False)
 |_=>False
def WD:BinOp->Option Bool
 | .eql=>some true
 | .neq=>some false
 |_=>none
def OB:AV->Bool
 | .rs _ _ _=>true
 | .sv _ _ _ _=>true
 | .so _=>true
 | .val v=>m5 v
 |_=>false
theorem Nv {T:List (Nat×TI)} (L:iM P T) (E:Env β nid F w lk) {x:AV} {u:Value} {t:TypeId} (O:sliceAt T t=true) (p q:Operand) {A:BinOp} {e:Bool} (D:WD A=some e) (z:Rep β nid F w x u) (h:OA lk e x k):
  ∃v,(lD A t p q u (.slice none 0 0)).run P w= .ok v w/\ ∃r,k (.ext [] r)/\Rep β nid F w r v:=by
 have a: ∀(f:Option Addr) (n c:Nat),u= .slice f n c->k (.ext [] (.b (f.isNone==e)))-> ∃v,(lD A t p q u (.slice none 0 0)).run P w= .ok v w/\ ∃r,k (.ext [] r)/\Rep β nid F w r v:=by rintro f n c rfl M;refine⟨.bool (f.isNone==e),?_,_,M,.pure _ _ (.b _)⟩;cases A<;>simp[WD] at D<;>subst D<;>(unfold lD;rw[Sem.run_bind,sY];simp[binOp,sV L O])
 unfold OA at h;split at h
 ·have H:=z.rs_inv;cases H with
  |rsnil=>exact a none 0 0 rfl (h true λ_=>rfl)
  |rsz _ _ f=>exact a (some f) 0 0 rfl (h false λh=>jC)
  |rs _ _ _ g W C=>exact a (some _) _ C rfl (h false λh=>jC)
 ·obtain⟨_,G⟩:=z.sv_inv;rcases G with ⟨rfl,j,_⟩|⟨f,rfl,j,_⟩|⟨g,o,m,c,S,Y,R,rfl⟩
  ·exact a none 0 0 rfl (h true λ_=>j)
  ·exact a (some f) 0 0 rfl (h false λh=>jC)
  ·exact a (some _) _ _ rfl (h false λh=>jC)
 ·split at h
  ·rename_i id _ e' sz n get K;obtain⟨_,rfl⟩:=z.so_inv;obtain⟨_,xs,Q,_⟩:=E.obj id _ K;rcases Q.2 with ⟨l,j⟩|⟨f,l,j⟩|⟨g,o,C,U,l,_⟩
   ·exact a none 0 0 l (h true λ_=>j)
   ·exact a (some f) 0 0 l (h false λh=>jC)
   ·exact a (some _) _ _ l (h false λh=>jC)
  ·cases h
 ·split at h
  ·rename_i v N;obtain rfl:=z.val_inv;exact a none 0 0 (iX N) jH
  ·cases h
 ·cases h
def kH (a:Option AV) (k:AV->Prop):Prop:=
 match a with
 |some a=>k a
 |none=>False
theorem fI {a:Option AV} {q:AV->Prop} (h:kH a q): ∃r,a=some r/\q r:=by
 cases a with
 |none=>exact h.elim
 |some r=>exact⟨r,rfl,h⟩
def DZ (ev:Operand->Option AV):List Operand->(List AV->Prop)->Prop
 |[],k=>k []
 |x::r,k=>kH (ev x) λa=>DZ ev r λl=>k (a::l)
def OC (ev:Operand->Option AV):List (Nat×Operand)->(List (Nat×AV)->Prop)->Prop
 |[],k=>k []
 |(i,x)::r,k=>kH (ev x) λa=>OC ev r λl=>k ((i,a)::l)
def OD (ev:Operand->Option AV):Option Operand->(Option AV->Prop)->Prop
 |none,k=>k none
 |some x,k=>kH (ev x) λa=>k (some a)
theorem rf {ev:Operand->Option AV} {a:Act} (c: ∀x r,ev x=some r->Rep β nid F w r (a.eval x)): ∀{l:List Operand} {q:List AV->Prop},DZ ev l q->
  ∃m,q m/\m.length=(l.map a.eval).length/\ ∀(j:Nat) (h1:j<m.length) (h2:j<(l.map a.eval).length),Rep β nid F w m[j] (l.map a.eval)[j]
 |[],q,h=>⟨[],h,rfl,λj h1=>jl⟩
 |x::r,q,h=>by
  obtain⟨b,e,h⟩:=fI h;obtain⟨m,h,f,g⟩:=rf c h;refine⟨b::m,h,by simpa using f,λj h1 h2=> ?_⟩;cases j with
  |zero=>exact c x b e
  |succ j=>exact g j j1 j2
theorem ri {ev:Operand->Option AV} {a:Act} (c: ∀x r,ev x=some r->Rep β nid F w r (a.eval x)): ∀{l:List (Nat×Operand)} {q:List (Nat×AV)->Prop},OC ev l q->
  ∃m,q m/\m.length=(l.map λp=>(p.1,a.eval p.2)).length/\ ∀(j:Nat) (h1:j<m.length) (h2:j<(l.map λp=>(p.1,a.eval p.2)).length),
   m[j].1=(l.map λp=>(p.1,a.eval p.2))[j].1/\Rep β nid F w m[j].2 (l.map λp=>(p.1,a.eval p.2))[j].2
 |[],q,h=>⟨[],h,rfl,λj h1=>jl⟩
 |(i,x)::r,q,h=>by
  obtain⟨b,e,h⟩:=fI h;obtain⟨m,h,f,g⟩:=ri c h;refine⟨(i,b)::m,h,by simpa using f,λj h1 h2=> ?_⟩;cases j with
  |zero=>exact⟨rfl,c x b e⟩
  |succ j=>exact g j j1 j2
theorem Hb {ev:Operand->Option AV} {a:Act} (e: ∀x r,ev x=some r->Rep β nid F w r (a.eval x)) {x:Option Operand} {q:Option AV->Prop} (h:OD ev x q):
  ∃m,q m/\(∀y,m=some y-> ∃z,x.map a.eval=some z/\Rep β nid F w y z)/\(m=none->x.map a.eval=none):=by
 cases x with
 |none=>exact⟨none,h,λy c=>(by cases c),λ_=>rfl⟩
 |some x=>obtain⟨b,f,h⟩:=fI h;exact⟨some b,h,λy c=>(by cases c;exact⟨_,rfl,e x b f⟩),λc=>(by cases c)⟩
def isTrue:Operand->Bool
 | .const (.bool true)=>true
 |_=>false
def isFalse:Operand->Bool
 | .const (.bool false)=>true
 |_=>false
theorem Nw {x:Operand} (h:isTrue x=true):x= .const (.bool true):=by
 unfold isTrue at h;split at h
 ·rfl
 ·cases h
theorem Hc {x:Operand} (h:isFalse x=true):x= .const (.bool false):=by
 unfold isFalse at h;split at h
 ·rfl
 ·cases h
def Tn (ev:Operand->Option AV) (a:Nat->Bool->Operand->Option AV) (t:Nat) (x y:Operand) (k:Eff->Prop):Prop:=
 match ev (.tmp t),isTrue x,isFalse y with
 |some (.b c),true,_=>(match a t false y with
  |some (.b d)=>k (.ext [] (.b (c||d)))
  |_=>False)
 |some (.b c),_,true=>(match a t true x with
  |some (.b d)=>k (.ext [] (.b (c&&d)))
  |_=>False)
 |_,_,_=>False
theorem Hd {a:Act} {ev:Operand->Option AV} {j:Nat->Bool->Operand->Option AV}
  (l: ∀x r,ev x=some r->Rep β nid F w r (a.eval x)) (n: ∀t b x r,j t b x=some r->a.eval (.tmp t)= .bool b->Rep β nid F w r (a.eval x)) {t:Nat} {x y:Operand}
  (h:Tn ev j t x y k): ∃c d,a.eval (.tmp t)= .bool c/\(if c then a.eval x else a.eval y)= .bool d/\k (.ext [] (.b d)):=by
 unfold Tn at h;split at h
 ·rename_i c f q;obtain rfl:=Nw q;have e:=(l _ _ f).b_inv;split at h
  ·rename_i d g;refine⟨c,_,e,?_,h⟩;cases c with
   |true=>simp[Act.eval]
   |false=>simpa using(n _ _ _ _ g e).b_inv
  ·cases h
 ·rename_i c f z _;obtain rfl:=Hc z;have e:=(l _ _ f).b_inv;split at h
  ·rename_i d g;refine⟨c,_,e,?_,h⟩;cases c with
   |false=>simp[Act.eval]
   |true=>simpa using(n _ _ _ _ g e).b_inv
  ·cases h
 ·cases h
def aH2 (P:Program) (T:List (Nat×TI)) (g:Option Prop) (ev:Operand->Option AV) (E:Nat->Bool->Operand->Option AV) (lk:Nat->Option AO) (nid:Nat) (q:Op) (k:Eff->Prop):Prop:=
 match q with
 | .move x=>kH (ev x) λa=>k (.ext [] a)
 | .assign x=>kH (ev x) λa=>k (.ext [] a)
 | .pick (.tmp t) x y=>Tn ev E t x y k
 | .alloc e=>(match lF e T with
  |some w=>fo nid e (wu w.zero) k
  |none=>False)
 | .box e x=>kH (ev x) λa=>fo nid e a k
 | .load t x=>kH (ev x) λa=>(match lF t T with
  |some w=>Gi g lk w a k
  |none=>False)
 | .store t x y=>kH (ev x) λa=>kH (ev y) λb=>(match lF t T with
  |some w=>Mz g lk w a b k
  |none=>False)
 | .nilCheck x=>kH (ev x) λa=>fz a k
 | .binOp q t x (.const v) _=>(match WD q,m5 v,sliceAt T t with
  |some e,true,true=>kH (ev x) λa=>(match OB a with
   |true=>OA lk e a k
   |false=>kH (ev (.const v)) λb=>Xc g T lk q t a b k)
  |_,_,_=>kH (ev x) λa=>kH (ev (.const v)) λb=>Xc g T lk q t a b k)
 | .binOp q t x y _=>kH (ev x) λa=>kH (ev y) λb=>Xc g T lk q t a b k
 | .next x false=>(match g with
  |none=>kH (ev x) λa=>DY lk a k
  |some _=>False)
 | .unOp q _ x=>kH (ev x) λa=>unA q a k
 | .convert s d x=>kH (ev x) λa=>DJ T s d a k
 | .fieldAddr s x f=>kH (ev x) λa=>C2 T s f a k
 | .field s x f=>kH (ev x) λa=>Nb T s f a k
 | .indexAddr t x i=>kH (ev x) λa=>kH (ev i) λb=>C4 g T lk t a b k
 | .extract x j=>kH (ev x) λa=>W6 j a k
 | .index t x i=>kH (ev x) λa=>kH (ev i) λb=>Br g T t a b k
 | .makeFunc (.func f) ⟨[]⟩ ⟨D⟩=>DZ ev D λl=>k (.ext [] (.fn f l))
 | .makeSlice t l c=>kH (ev l) λa=>kH (ev c) λb=>S7 g T nid t a b k
 | .slice t x C A none=>kH (ev x) λa=>OD ev C λl=>OD ev A λh=>NW g T lk t a l h k
 | .slice t x (some C) (some A) (some F)=>kH (ev x) λa=>kH (ev C) λl=>kH (ev A) λh=>kH (ev F) λm=>DN g T lk t a l h m k
 | .build t ⟨z⟩=>OC ev z λl=>Ni T t l k
 | .buildSlice t n ⟨z⟩=>OC ev z λl=>I5 T nid t n l k
 | .call ⟨.value f,⟨args⟩,_⟩=>kH (ev f) λa=>DZ ev args λl=>Tm P g lk nid a l k
 | .call ⟨.builtin .len,⟨[x]⟩,⟨[t]⟩⟩=>kH (ev x) λa=>DK T lk t a k
 | .call ⟨.builtin .max,⟨[x,y]⟩,_⟩=>kH (ev x) λa=>kH (ev y) λb=>NT a b k
 | .call ⟨.builtin .min,⟨[x,y]⟩,_⟩=>kH (ev x) λa=>kH (ev y) λb=>VY a b k
 | .call ⟨.builtin .append,⟨[x,y]⟩,⟨[t,G]⟩⟩=>(match Nat.beq t G with
  |true=>kH (ev x) λa=>kH (ev y) λb=>(match WA a b with
   |true=>gb g T lk nid t a b k
   |false=>Bw g T lk nid t a b k)
  |false=>False)
 | .makeMap _ none=>Gx nid k
 | .lookup t x i ok=>kH (ev x) λa=>kH (ev i) λb=>pa g T lk t a b ok k
 | .mapUpdate t m x y=>kH (ev m) λa=>kH (ev x) λb=>kH (ev y) λc=>pb g T lk t a b c k
 | .insert t m x y=>kH (ev m) λa=>kH (ev x) λb=>kH (ev y) λc=>pb g T lk t a b c k
 | .range t x=>kH (ev x) λa=>Np T lk nid t a k
 | .entry x=>kH (ev x) λa=>Nq g lk a k
 | .call ⟨.builtin .delete,⟨[x,y]⟩,⟨[t,_]⟩⟩=>kH (ev x) λa=>kH (ev y) λb=>Ce g T lk t a b k
 | .call ⟨.builtin .clear,⟨[x]⟩,⟨[t]⟩⟩=>kH (ev x) λa=>Nr T lk t a k
 | .call ⟨.builtin .copy,⟨[x,y]⟩,⟨[t,_]⟩⟩=>kH (ev x) λa=>kH (ev y) λb=>DQ T lk t a b k
 |_=>False
def uJ:Op->Bool
 | .move _| .assign _| .pick _ _ _| .load _ _| .nilCheck _| .binOp _ _ _ _ _| .unOp _ _ _| .convert _ _ _| .fieldAddr _ _ _| .field _ _ _| .indexAddr _ _ _| .extract _ _| .index _ _ _
 | .makeFunc _ _ _| .slice _ _ _ _ _| .build _ _| .lookup _ _ _ _| .entry _| .call ⟨.builtin .len,_,_⟩| .call ⟨.builtin .min,_,_⟩| .call ⟨.builtin .max,_,_⟩=>true
 |_=>false
def r9:Op->Nat
 | .move _| .assign _| .fieldAddr _ _ _| .indexAddr _ _ _| .extract _ _| .build _ _| .pick _ _ _| .nilCheck _=>0
 |op=>(match uJ op with
  |true=>1
  |false=>2)
def Xg (P:Program) (a:Op) (β:Bd) (nid:Nat) (F:Nat->Prop) (lk:Nat->Option AO) (w:World) (k:Eff->Prop) (s:Sem Next):Prop:=
 Out P (rU β nid F lk w k) (s.run P w)/\(uJ a=true-> ∃v r,s.run P w= .ok (.value v) w/\k (.ext [] r)/\Rep β nid F w r v)/\(r9 a=0-> ∃v,∀c,s.run P c= .ok (.value v) c)
theorem Xg.any {f:Op} {r:AV} {v:Value} {s:Sem Next} (c:k (.ext [] r)) (e:Rep β nid F w r v) (a: ∀w',s.run P w'= .ok (.value v) w'):Xg P f β nid F lk w k s:=⟨Out.same c e (a w),λ_=>⟨_,_,a w,c,e⟩,λ_=>⟨v,a⟩⟩
theorem Xg.anyp {f:Op} {x:Value} {s:Sem Next} (a: ∀w',s.run P w'= .ok (.value x) w') (h: ∃r,k (.ext [] r)/\Rep β nid F w r x):Xg P f β nid F lk w k s:=by obtain⟨r,c,e⟩:=h;exact .any c e a
theorem Xg.same {o:Oper} {r:AV} {v:Value} {s:Sem Next} (c:k (.ext [] r)) (e:Rep β nid F w r v) (a:s.run P w= .ok (.value v) w) (f:r9 o.op=1:=by rw[aj];rfl):Xg P o.op β nid F lk w k s:=⟨Out.same c e a,λ_=>⟨_,_,a,c,e⟩,λh=>by rw[f] at h;cases h⟩
theorem Xg.pure {o:Oper} {x:Value} {s:Sem Next} (a:s.run P w= .ok (.value x) w) (h: ∃r,k (.ext [] r)/\Rep β nid F w r x) (f:r9 o.op=1:=by rw[aj];rfl):Xg P o.op β nid F lk w k s:=by obtain⟨r,c,e⟩:=h;exact .same c e a f
theorem Xg.made {o:Oper} {x:Value} {w':World} {s:Sem Next} (c:s.run P w= .ok (.value x) w') (h:rU β nid F lk w k x w') (a:uJ o.op=false/\r9 o.op=2:=by rw[aj];exact nT):Xg P o.op β nid F lk w k s:=
 ⟨by rw[c];exact .value x w' h,λh=>(by rw[a.1] at h;cases h),λh=>by rw[a.2] at h;cases h⟩
theorem Xg.skip {o:Oper} {w':World} {s:Sem Next} (c:s.run P w= .ok .skip w') (h:rU β nid F lk w k undef w') (a:uJ o.op=false/\r9 o.op=2:=by rw[aj];exact nT):Xg P o.op β nid F lk w k s:=
 ⟨by rw[c];exact .skip w' h,λh=>(by rw[a.1] at h;cases h),λh=>by rw[a.2] at h;cases h⟩
theorem jG {s:Sem Value} {x:Value} {w':World} (h:s.run P w= .ok x w'):(do pure (Next.value (<-s)):Sem Next).run P w= .ok (.value x) w':=by simp[h]
theorem He {T:List (Nat×TI)} (hT:iM P T) {R:Option Prop} (am: ∀c,R=some c->c) (Q:EnvT β nid F w lk) {a:Act} {ev:Operand->Option AV} {N:Nat->Bool->Operand->Option AV}
  (aq: ∀x r,ev x=some r->Rep β nid F w r (a.eval x)) (cx: ∀t b x r,N t b x=some r->a.eval (.tmp t)= .bool b->Rep β nid F w r (a.eval x)) {o:Oper}
  (h:aH2 P T R ev N lk nid o.op k):Xg P o.op β nid F lk w k (execOp a.eval o):=by
 have E:=Q.toEnv;unfold aH2 at h;split at h
 ·exact nJ
 ·exact nJ
 ·rename_i t x y aj;obtain⟨c,d,hc,hd,h⟩:=Hd aq cx h;exact .any h (.pure _ _ (.b _)) λw'=>by simp[execOp,aj,hc,asBool,hd]
 ·rename_i e aj;split at h
  ·rename_i Y q;obtain⟨x,w',hrun,hp⟩:=Bp (lk:=lk) (β:=β) (F:=F) (w:=w) (hT.get q) h;exact .made (by simp only[execOp,aj];exact jG hrun) hp
  ·cases h
 ·rename_i e x aj;obtain⟨r,hr,h⟩:=fI h;obtain⟨x,w',hrun,hp⟩:=Na (P:=P) (lk:=lk) (aq _ _ hr) h;exact .made (by simp only[execOp,aj];exact jG hrun) hp
 ·rename_i t x aj;obtain⟨r,hr,h⟩:=fI h;split at h
  ·rename_i Y q;obtain⟨x,_,_,_,hrun,hp⟩:=ka am E (hT.get q) (aq _ _ hr) h;exact .pure (by simp only[execOp,aj];exact jG (hrun w rfl)) hp
  ·cases h
 ·rename_i t x y aj;obtain⟨r,hr,h⟩:=fI h;obtain⟨r',aP,h⟩:=fI h;split at h
  ·rename_i Y q;obtain⟨w',hrun,hp⟩:=Bo am E (hT.get q) (aq _ _ hr) (aq _ _ aP) h;have:(execOp a.eval o).run P w= .ok .skip w':=by simp only[execOp,aj,Sem.run_bind,hrun,Result.andThen_ok];rfl
   exact .skip this hp
  ·cases h
 ·rename_i x aj;obtain⟨r,hr,h⟩:=fI h;have A:=aq _ _ hr;unfold fz at h;split at h
  ·obtain⟨a1,G⟩:=A.p_inv;exact .any h A λw'=>by simp[execOp,aj,G]
  ·obtain⟨a1,g,o',m,c,_,G⟩:=A.pe_inv;exact .any h A λw'=>by simp[execOp,aj,G]
  ·have O:=A.rp_inv;have: ∃g o,a.eval x= .pointer (some ⟨g,o,none⟩):=by
    generalize a.eval x=v at O;cases O with
    |rp _ g o=>exact⟨g,o,rfl⟩
   obtain⟨g,o',G⟩:=this;exact .any h A λw'=>by simp[execOp,aj,G]
  ·cases h
 ·rename_i W t x v y aj;split at h
  ·rename_i e he A q;obtain⟨r,hr,h⟩:=fI h;split at h
   ·obtain⟨z,hrun,hp⟩:=Nv (P:=P) hT E q x (.const v) he (aq _ _ hr) h;obtain rfl:=iX A;exact .pure (by simp only[execOp,aj];exact jG hrun) hp
   ·obtain⟨r',aP,h⟩:=fI h;obtain⟨z,hrun,hp⟩:=S4 (P:=P) am E hT x (.const v) (aq _ _ hr) (aq _ _ aP) h;exact .pure (by simp only[execOp,aj];exact jG hrun) hp
  ·obtain⟨r,hr,h⟩:=fI h;obtain⟨r',aP,h⟩:=fI h;obtain⟨z,hrun,hp⟩:=S4 (P:=P) am E hT x (.const v) (aq _ _ hr) (aq _ _ aP) h;exact .pure (by simp only[execOp,aj];exact jG hrun) hp
 ·rename_i W t x y _ _ aj;obtain⟨r,hr,h⟩:=fI h;obtain⟨r',aP,h⟩:=fI h;obtain⟨z,hrun,hp⟩:=S4 (P:=P) am E hT x y (aq _ _ hr) (aq _ _ aP) h;exact .pure (by simp only[execOp,aj];exact jG hrun) hp
 ·rename_i x aj;split at h
  ·obtain⟨r,hr,h⟩:=fI h;obtain⟨v,w',hrun,hp⟩:=Ha (P:=P) E o.type (aq _ _ hr) h;exact .made (by simp only[execOp,aj];exact jG hrun) hp
  ·cases h
 ·rename_i W _ x aj;obtain⟨r,hr,h⟩:=fI h;obtain⟨z,hrun,hp⟩:=Xd (P:=P) (aq _ _ hr) h;exact .pure (by simp only[execOp,aj];exact jG hrun) hp
 ·rename_i s d x aj;obtain⟨r,hr,h⟩:=fI h;obtain⟨z,hrun,hp⟩:=Gp (P:=P) hT (aq _ _ hr) h;exact .pure (by simp only[execOp,aj];exact jG hrun) hp
 ·rename_i s x f aj;obtain⟨r,hr,h⟩:=fI h;obtain⟨z,hrun,hp⟩:=fq (P:=P) hT (aq _ _ hr) h;exact .anyp (λw'=>by simp only[execOp,aj];exact jG (hrun _)) hp
 ·rename_i s x f aj;obtain⟨r,hr,h⟩:=fI h;obtain⟨z,hrun,hp⟩:=Bq (P:=P) hT (aq _ _ hr) h;exact .pure (by simp only[execOp,aj];exact jG hrun) hp
 ·rename_i t x i aj;obtain⟨r,hr,h⟩:=fI h;obtain⟨r',aP,h⟩:=fI h;obtain⟨z,hrun,hp⟩:=fv (P:=P) am E hT (aq _ _ hr) (aq _ _ aP) h;exact .anyp (λw'=>by simp only[execOp,aj];exact jG (hrun _)) hp
 ·rename_i x j aj;obtain⟨r,hr,h⟩:=fI h;obtain⟨z,hrun,hp⟩:=qp (P:=P) (aq _ _ hr) h;exact .anyp (λw'=>by simp only[execOp,aj];exact jG (hrun _)) hp
 ·rename_i t x i aj;obtain⟨r,hr,h⟩:=fI h;obtain⟨r',aP,h⟩:=fI h;obtain⟨z,hrun,hp⟩:=Bt (P:=P) am hT (aq _ _ hr) (aq _ _ aP) h;exact .pure (by simp only[execOp,aj];exact jG hrun) hp
 ·rename_i f a7 aj;obtain⟨m,h,C,D⟩:=rf aq h;exact .same h (.fn f m _ C D) (by simp[execOp,aj,Instr.makeFunc])
 ·rename_i t l c aj;obtain⟨r,hr,h⟩:=fI h;obtain⟨r',aP,h⟩:=fI h;obtain⟨x,w',hrun,hp⟩:=ga (P:=P) (lk:=lk) am hT (aq _ _ hr) (aq _ _ aP) h;exact .made (by simp only[execOp,aj];exact jG hrun) hp
 ·rename_i t x U S aj;obtain⟨r,hr,h⟩:=fI h;obtain⟨ml,h,bO,a2⟩:=Hb aq h;obtain⟨mh,h,a0,eu⟩:=Hb aq h;obtain⟨z,hrun,hp⟩:=Nn (P:=P) am E hT (aq _ _ hr) bO a2 a0 eu h;refine .pure (x:=z) ?_ hp;have a6:(Instr.sliceAt t (a.eval x) (U.map a.eval) (S.map a.eval) none).run P w= .ok z w:=hrun;simp only[execOp,aj];exact jG a6
 ·rename_i t x U S mx aj;obtain⟨r,hr,h⟩:=fI h;obtain⟨rl,a4,h⟩:=fI h;obtain⟨rh,a3,h⟩:=fI h;obtain⟨rm,a5,h⟩:=fI h;obtain⟨z,hrun,hp⟩:=Gu (P:=P) am E hT (aq _ _ hr) (aq _ _ a4) (aq _ _ a3) (aq _ _ a5) h;refine .pure (x:=z) ?_ hp;simp only[execOp,aj,lR];exact jG hrun
 ·rename_i t K aj;obtain⟨m,h,C,D⟩:=ri aq h;obtain⟨z,hrun,hp⟩:=Bv (P:=P) (vals:=⟨K.map λp=>(p.1,a.eval p.2)⟩) hT C D h;refine .anyp (x:=z) (λw'=> ?_) hp;simp only[execOp,aj];exact jG (by simpa using hrun w')
 ·rename_i t n K aj;obtain⟨m,h,C,D⟩:=ri aq h;obtain⟨z,w',hrun,hp⟩:=X3 (P:=P) (lk:=lk) (vals:=⟨K.map λp=>(p.1,a.eval p.2)⟩) hT C D h;refine .made (x:=z) ?_ hp;simp only[execOp,aj];exact jG (by simpa using hrun)
 ·rename_i f args _ aj;obtain⟨r,hr,h⟩:=fI h;obtain⟨m,h,C,D⟩:=rf aq h;have:=Gy am Q (aq _ _ hr) C D h;exact⟨by simpa [execOp,aj,resolve] using this,λL=>(by rw[aj] at L;cases L),λL=>by rw[aj] at L;cases L⟩
 ·rename_i x t aj;obtain⟨r,hr,h⟩:=fI h;obtain⟨z,hrun,hp⟩:=Nf (P:=P) E hT o.type #[t] rfl (aq _ _ hr) h;refine .pure (x:=z) ?_ hp;simp[execOp,aj,resolve,invoke,builtin,hrun]
 ·rename_i x y M aj;obtain⟨r,hr,h⟩:=fI h;obtain⟨r',aP,h⟩:=fI h;obtain⟨z,hrun,hp⟩:=Ng (P:=P) M o.type (aq _ _ hr) (aq _ _ aP) h;refine .pure (x:=z) ?_ hp;simp[execOp,aj,resolve,invoke,builtin,hrun]
 ·rename_i x y M aj;obtain⟨r,hr,h⟩:=fI h;obtain⟨r',aP,h⟩:=fI h;obtain⟨z,hrun,hp⟩:=Nh (P:=P) M o.type (aq _ _ hr) (aq _ _ aP) h;refine .pure (x:=z) ?_ hp;simp[execOp,aj,resolve,invoke,builtin,hrun]
 ·rename_i x y t H aj;split at h
  ·rename_i q;have q:t=H:=by simpa using q
   subst q;obtain⟨r,hr,h⟩:=fI h;obtain⟨r',aP,h⟩:=fI h;split at h
   ·obtain⟨z,w',hrun,hp⟩:=lx (P:=P) am E hT o.type (aq _ _ hr) (aq _ _ aP) h;refine .made (x:=z) ?_ hp;simp[execOp,aj,resolve,invoke,builtin,hrun]
   ·obtain⟨z,w',hrun,hp⟩:=xb (P:=P) am E hT o.type (aq _ _ hr) (aq _ _ aP) h;refine .made (x:=z) ?_ hp;simp[execOp,aj,resolve,invoke,builtin,hrun]
  ·cases h
 ·rename_i t aj;obtain⟨x,w',hrun,hp⟩:=qy (P:=P) (lk:=lk) (β:=β) (F:=F) (w:=w) t h;exact .made (by simp only[execOp,aj];exact jG hrun) hp
 ·rename_i t x i ok aj;obtain⟨r,hr,h⟩:=fI h;obtain⟨r',aP,h⟩:=fI h;obtain⟨z,hrun,hp⟩:=xd (P:=P) am E hT (aq _ _ hr) (aq _ _ aP) h;exact .pure (by simp only[execOp,aj];exact jG hrun) hp
 ·exact mO
 ·exact mO
 ·rename_i t x aj;obtain⟨r,hr,h⟩:=fI h;obtain⟨z,w',hrun,hp⟩:=Cf (P:=P) E hT (aq _ _ hr) h;exact .made (by simp only[execOp,aj];exact jG hrun) hp
 ·rename_i x aj;obtain⟨r,hr,h⟩:=fI h;obtain⟨z,hrun,hp⟩:=Cg (P:=P) am E (aq _ _ hr) h;exact .pure (by simp only[execOp,aj];exact jG hrun) hp
 ·rename_i x y t H aj;obtain⟨r,hr,h⟩:=fI h;obtain⟨r',aP,h⟩:=fI h;obtain⟨z,w',hrun,hp⟩:=xg (P:=P) am E hT #[t,H] o.type rfl (aq _ _ hr) (aq _ _ aP) h;refine .made (x:=z) ?_ hp;simp[execOp,aj,resolve,invoke,builtin,hrun]
 ·rename_i x t aj;obtain⟨r,hr,h⟩:=fI h;obtain⟨z,w',hrun,hp⟩:=Ch (P:=P) E hT #[t] o.type rfl (aq _ _ hr) h;refine .made (x:=z) ?_ hp;simp[execOp,aj,resolve,invoke,builtin,hrun]
 ·rename_i x y t H aj;obtain⟨r,hr,h⟩:=fI h;obtain⟨r',aP,h⟩:=fI h;obtain⟨z,w',hrun,hp⟩:=Gv (P:=P) E hT H o.type (aq _ _ hr) (aq _ _ aP) h;refine .made (x:=z) ?_ hp;simp[execOp,aj,resolve,invoke,builtin,hrun]
 ·cases h
end
section
variable {P : Program} {nid : Nat} {lk : Nat -> Option AO} {k : Eff -> Prop} {c : Prop} {T : List (Nat × TI)}
def gOk:Op->Bool
 | .load _ _| .move _| .fieldAddr _ _ _| .binOp _ _ _ _ _| .call ⟨.value _,_,_⟩| .indexAddr _ _ _| .unOp _ _ _| .call ⟨.builtin .len,_,_⟩| .nilCheck _| .pick _ _ _| .lookup _ _ _ _| .slice _ _ _ _ none| .index _ _ _
 | .call ⟨.builtin .max,_,_⟩| .makeFunc _ _ _| .extract _ _=>true
 |_=>false
theorem Hf {a:Bool} {l:List AV} (h:F8 a l λr=>k (.ext [] r)): ∃c,k c:=by
 unfold F8 at h;split at h<;>first|exact⟨_,h⟩|exact h.elim
theorem EA: ∀n:Nat,(∀(a:AV) (q:AV->Prop),sZ lk n a q-> ∃b,q b)/\(∀(l:List AV) (q:List AV->Prop),vU lk n l q-> ∃m,q m):=by
 intro n
 induction n with
 |zero=>
  refine⟨λa q h=> ?_,λl q h=> ?_⟩
  ·cases a<;>simp only[sZ] at h<;>first|exact h.elim|exact⟨_,h⟩
  ·cases l with
   |nil=>simp only[vU] at h;exact⟨_,h⟩
   |cons a r=>simp only[vU] at h
 |succ n c=>
  refine⟨λa q h=> ?_,λl q h=> ?_⟩
  ·cases a<;>simp only[sZ] at h<;>repeat (first|exact h.elim|exact⟨_,h⟩|exact⟨_,(wJ h).2⟩|(have h:=(wJ h).2;split at h)|refine(c.2 _ _ h).elim λ_ h=> ?_|split at h)
  ·cases l with
   |nil=>simp only[vU] at h;exact⟨_,h⟩
   |cons a r=>simp only[vU] at h;obtain⟨b,h⟩:=c.1 _ _ h;obtain⟨m,h⟩:=c.2 _ _ h;exact⟨_,h⟩
theorem OG {a:AV} {q:Nat->(Nat->AV)->(Nat->AV)->Prop} (h:DU lk a q): ∃n x y,q n x y:=by
 unfold DU at h
 repeat' (first|exact h.elim|exact⟨_,_,_,h⟩|split at h)
theorem To {ev:Operand->Option AV}: ∀{l:List Operand} {q:List AV->Prop},DZ ev l q-> ∃m,q m
 |[],q,h=>⟨_,h⟩
 |x::r,q,h=>by obtain⟨_,_,h⟩:=fI h;obtain⟨m,h⟩:=To h;exact⟨_,h⟩
theorem OH {ev:Operand->Option AV} {x:Option Operand} {q:Option AV->Prop} (h:OD ev x q): ∃m,q m:=by
 cases x with
 |none=>exact⟨_,h⟩
 |some x=>exact⟨_,(fI h).choose_spec.2⟩
theorem Hg {ev:Operand->Option AV} {f:Nat->Bool->Operand->Option AV} {a:Op} (g:gOk a=true) (h:aH2 P T (some c) ev f lk nid a k): ∃e,k e:=by
 unfold aH2 at h;split at h<;>first
  |exact absurd g vN
  | (repeat (first
    |exact h.elim
    |exact⟨_,h⟩
    |exact⟨_,h.2⟩
    |exact⟨_,(wJ h).2⟩
    |exact⟨_,(wJ h).2.2⟩
    |exact Hf (rC h).2
    |exact Hf (rC h.2).2
    |exact⟨_,h false λh=>jC⟩
    |contradiction
    |refine((EA 60).2 _ _ h).elim λ_ h=> ?_
    |refine(fI h).elim λ_ h=>h.elim λ_ h=> ?_
    |refine(To h).elim λ_ h=> ?_
    |refine(OH h).elim λ_ h=> ?_
    |refine(qo h).elim λ_ h=> ?_
    |refine(OG h).elim λ_ h=>h.elim λ_ h=>h.elim λ_ h=> ?_
    |unfold Gi at h
    |unfold C2 at h
    |unfold C4 at h
    |unfold C3 at h
    |unfold Br at h
    |unfold W6 at h
    |unfold Xc at h
    |unfold OA at h
    |unfold unA at h
    |unfold fz at h
    |unfold DK at h
    |unfold NT at h
    |unfold NW at h
    |unfold DM at h
    |unfold pa at h
    |unfold oz at h
    |unfold I7 at h
    |unfold Tm at h
    |unfold Tn at h
    |unfold ob at h
    |refine h.elim λ_ h=> ?_
    |refine h.elim (λh=> ?_) λh=> ?_
    |split at h))
end
abbrev oS:=List (Nat×Bool)
def sat (g:oS) (a:Act):Prop:= ∀p∈g,a.tmps.getD p.1 undef= .bool p.2
theorem gG (a:Act):sat [] a:=λp c=>by simp at c
theorem S9 {t:Nat} {w:Bool}: ∀{l:oS},R5 t w l=true->(t,w)∈l
 |[],h=>by simp[R5] at h
 |(s,x)::r,h=>by
  unfold R5 at h;split at h
  ·rename_i a;have a:s=t:=by simpa using a
   subst a;split at h
   ·simp
   ·simp
   ·exact fZ _ (S9 h)
  ·exact fZ _ (S9 h)
theorem tU: ∀{g h:oS} {a:Act},wI g h=true->sat h a->sat g a
 |[],_,a,_,_=>gG a
 |(t,w)::r,l,a,h,e=>by
  unfold wI at h;split at h
  ·rename_i f;intro p c;rcases eF.1 c with rfl|c
   ·exact e _ (S9 f)
   ·exact tU h e p c
  ·cases h
theorem Y1 {t:Nat}: ∀{g:oS},uZ t g=false-> ∀p∈g,p.1≠t
 |[],_,p,a=>by simp at a
 |(s,x)::r,h,p,a=>by
  unfold uZ at h;split at h
  ·cases h
  ·rename_i c;rcases eF.1 a with rfl|a
   ·intro e;simp only at e;subst e;simp at c
   ·exact Y1 h p a
theorem yP {g:oS} {a:Act} {d:Nat} {v:Value} (h:uZ d g=false):sat g (a.put (some d) v)↔sat g a:=by
 have f: ∀p∈g,(a.put (some d) v).tmps.getD p.1 undef=a.tmps.getD p.1 undef:=λp c=>by have j:=Y1 h p c;simp only[Act.put,jF,pF];rw[aB (iS j)]
 constructor
 ·intro e p c;rw[<-f p c];exact e p c
 ·intro e p c;rw[f p c];exact e p c
abbrev KF:=Nat->Option (oS×AV)
abbrev OF:=Nat->Option (oS×AO)
def FO (G:Nat->Prop) (O:OF) (β:Bd) (a:Act):Nat->Prop:=λb=>G b\/ ∃id g o,O id=some (g,o)/\sat g a/\dG β id o b
structure Cx where
 al:Nat->Prop
 G:Nat->Prop
 w0:World
 N:Nat
 m:Nat
 β0:Bd
 lo:List Nat
 bk:Nat->Prop
structure SimF (C:Cx) (K:KF) (O:OF) (nid:Nat) (β:Bd) (a:Act) (w:World):Prop where
 gold:(∀b,C.G b->b<C.w0.heap.size)/\Tb C.w0/\ ¬C.al Ti/\ ¬C.G Ti
 dj: ∀b,C.al b-> ¬C.G b
 below:Frame C.al C.w0 w
 tsz:a.tmps.size=C.N
 dfs:a.defers=[]
 ag:yL C.m C.β0 β/\C.m<=nid
 lk:(∀id,tS id C.lo=true->id<nid)/\ ∀b,C.bk b->b<C.w0.heap.size/\b≠Ti/\ ¬C.G b
 kf: ∀s g av,K s=some (g,av)->(sat g a->Rep β nid (FO C.G O β a) w av (a.tmps.getD s undef))/\(¬sat g a->a.tmps.getD s undef=undef)
 of: ∀id g o,O id=some (g,o)->id<nid/\(sat g a->lV β nid (FO C.G O β a) w id o)
 allow: ∀id g o b,O id=some (g,o)->sat g a->dG β id o b->(tS id C.lo=false->C.al b\/C.w0.heap.size<=b)/\(tS id C.lo=true->C.bk b)
 dist: ∀id id' g g' o o' b,O id=some (g,o)->O id'=some (g',o')->sat g a->sat g' a->dG β id o b->dG β id' o' b->id=id'
section
variable {C : Cx} {w : World} {K : KF} {O : OF} {nid : Nat} {β : Bd} {a : Act}
theorem SimF.old (S:SimF C K O nid β a w) {b:Nat} (h:FO C.G O β a b):b<w.heap.size:=by
 rcases h with e|⟨id,g,o,f,j,c⟩
 ·exact eS (S.gold.1 b e) S.below.size
 ·exact((S.of id g o f).2 j).lt c
theorem SimF.blk (S:SimF C K O nid β a w) {id b:Nat} {g:oS} {o:AO} (j:O id=some (g,o)) (k:sat g a) (f:dG β id o b):(C.al b\/C.w0.heap.size<=b)\/C.bk b:=by
 obtain⟨c,e⟩:=S.allow id g o b j k f;cases h:tS id C.lo with
 |true=>exact .inr (e h)
 |false=>exact .inl (c h)
theorem SimF.apart (S:SimF C K O nid β a w) {id b:Nat} {g:oS} {o:AO} (f:O id=some (g,o)) (j:sat g a) (e:dG β id o b): ¬C.G b:=λc=>by
 rcases S.blk f j e with (h|h)|h
 ·exact S.dj b h c
 ·have:=S.gold.1 b c;omega
 ·exact(S.lk.2 b h).2.2 c
theorem SimF.tb (S:SimF C K O nid β a w):Tb w/\ ¬FO C.G O β a Ti:=by
 obtain⟨_,c,e,f⟩:=S.gold;refine⟨c.of (S.below.block _ c.lt e),λh=> ?_⟩;rcases h with h|⟨id,g,o,k,l,j⟩
 ·exact f h
 ·rcases S.blk k l j with (h|h)|h
  ·exact e h
  ·have:=c.lt;omega
  ·exact(S.lk.2 _ h).2.1 rfl
theorem SimF.env (S:SimF C K O nid β a w) {lk:Nat->Option AO} (h: ∀id o,lk id=some o-> ∃g,O id=some (g,o)/\sat g a):EnvT β nid (FO C.G O β a) w lk where
 obj:=λid o f=>by obtain⟨g,c,j⟩:=h id o f;exact⟨(S.of id g o c).1,(S.of id g o c).2 j⟩
 own:=λid o b f e=>by obtain⟨g,c,j⟩:=h id o f;exact .inr ⟨id,g,o,c,j,e⟩
 old:=λb e=>S.old e
 tb:=S.tb
 dist:=λid k o l g z A D E=>by obtain⟨t,n,q⟩:=h id o z;obtain⟨F,x,b2⟩:=h k l A;exact S.dist id k t F o l g n x q b2 D E
theorem SimF.ownEq (S:SimF C K O nid β a w) {β':Bd} (c:yL nid β β') {id:Nat} {g:oS} {o:AO} (h:O id=some (g,o)) (e:sat g a):dG β' id o=dG β id o:=
 NM (c id (S.of id g o h).1) λx f=>(c x (((S.of id g o h).2 e).aux_lt f)).2
def Nx (D O:OF):OF:=λid=>match D id with
 |some p=>some p
 |none=>O id
def Cb (D O:OF) (β:Bd) (a:Act):Nat->Prop:=λb=> ∃id g o p,D id=some p/\O id=some (g,o)/\sat g a/\dG β id o b
theorem J3 {D O:OF} {id:Nat} {p:oS×AO} (h:Nx D O id=some p):D id=some p\/(D id=none/\O id=some p):=by
 unfold Nx at h;split at h
 ·rename_i q a;rw[<-h];exact .inl a
 ·rename_i a;exact .inr ⟨a,h⟩
theorem SimF.ov (S:SimF C K O nid β a w) {β':Bd} (q:yL nid β β') {D:OF} {b:Nat} (h:FO C.G (Nx D O) β' a b):
  (FO C.G O β a b/\ ¬Cb D O β a b)\/ ∃id g o,D id=some (g,o)/\sat g a/\dG β' id o b:=by
 rcases h with l|⟨id,g,o,z,e,c⟩
 ·exact .inl ⟨.inl l,λ⟨i,_,_,_,_,f,j,k⟩=>S.apart f j k l⟩
 ·rcases J3 z with h|⟨n,h⟩
  ·exact .inr ⟨id,g,o,h,e,c⟩
  ·rw[S.ownEq q h e] at c;refine .inl ⟨.inr ⟨id,g,o,h,e,c⟩,λ⟨i,t,A,p,x,f,j,k⟩=> ?_⟩;rw[S.dist id i g t o A b h f e j c k,x] at n;cases n
theorem SimF.upd (S:SimF C K O nid β a w) {β':Bd} {P:Nat} {w':World} {D:OF} (x:yL nid β β') (L:nid<=P) (ai: ∀id p,D id=some p->tS id C.lo=false) (E:Frame (Cb D O β a) w w')
  (hB: ∀id g o b,D id=some (g,o)->sat g a->dG β' id o b->Cb D O β a b\/w.heap.size<=b)
  (hD: ∀id g o,D id=some (g,o)->id<P/\(sat g a->lV β' P (FO C.G (Nx D O) β' a) w' id o))
  (hd: ∀id f g j o l b,D id=some (g,o)->D f=some (j,l)->sat g a->sat j a->dG β' id o b->dG β' f l b->id=f):SimF C K (Nx D O) P β' a w':=by
 have a2: ∀b,Cb D O β a b->FO C.G O β a b:=λb ⟨id,g,o,_,_,F,e,c⟩=> .inr ⟨id,g,o,F,e,c⟩;have a1: ∀b,Cb D O β a b->C.al b\/C.w0.heap.size<=b:=λb ⟨id,g,o,p,H,F,e,c⟩=>(S.allow id g o b F e c).1 (ai id p H);have hF: ∀g,g<w.heap.size-> ¬FO C.G O β a g-> ¬FO C.G (Nx D O) β' a g:=λg hg N E=>by
  rcases S.ov x E with h|⟨id,t,o,H,Q,h3⟩
  ·exact N h.1
  ·rcases hB id t o g H Q h3 with h|h
   ·exact N (a2 g h)
   ·omega
 have hw: ∀g,g<w.heap.size-> ¬FO C.G O β a g->w'.heap[g]? =w.heap[g]? :=λg hg N=>E.block g hg λh=>N (a2 g h);refine⟨S.gold,S.dj,S.below.trans E λb c h=>(a1 b h).resolve_right J,S.tsz,S.dfs,⟨λid M=>⟨(x id (eS M S.ag.2)).1.trans (S.ag.1 id M).1,(x id (eS M S.ag.2)).2.trans (S.ag.1 id M).2⟩,cO S.ag.2 L⟩,
  ⟨λid h=>eS (S.lk.1 id h) L,S.lk.2⟩,λs g av hk=>⟨λe=>((((S.kf s g av hk).1 e).stable hF hw E.size).same x).more L,(S.kf s g av hk).2⟩,λid g o F=> ?_,λid g o b F e c=> ?_,λid f g j o l b h n e q c z=> ?_⟩
 ·rcases J3 F with h|⟨A,h⟩
  ·exact hD id g o h
  ·obtain⟨H,Q⟩:=S.of id g o h;refine⟨eS H L,λe=>(Q e).stable H L x hF hw E.size λb c=>E.block b ((Q e).lt c) λ⟨i,g2,o2,p,R,U,W,Y⟩=> ?_⟩;rw[S.dist id i g g2 o o2 b h U e W c Y,R] at A;cases A
 ·rcases J3 F with h|⟨_,h⟩
  ·rw[ai id _ h];refine⟨λ_=> ?_,λh=>jC⟩;rcases hB id g o b h e c with h|h
   ·exact a1 b h
   ·exact .inr (cO S.below.size h)
  ·rw[S.ownEq x h e] at c;exact S.allow id g o b h e c
 ·have a0: ∀id f g j o l,D id=some (g,o)->D f=none->O f=some (j,l)->sat g a->sat j a->dG β' id o b->dG β' f l b->False:=λid f g j o l h A n e q c z=>by
   rw[S.ownEq x n q] at z;rcases hB id g o b h e c with ⟨i,g2,o2,p,R,U,W,Y⟩|h
   ·rw[<-S.dist i f g2 j o2 l b U n W q Y z,R] at A;cases A
   ·have:=((S.of f j l n).2 q).lt z;omega
  rcases J3 h with h|⟨A,h⟩<;>rcases J3 n with n|⟨a3,n⟩
  ·exact hd id f g j o l b h n e q c z
  ·exact(a0 id f g j o l h a3 n e q c z).elim
  ·exact(a0 f id j g l o n A h q e z c).elim
  ·rw[S.ownEq x h e] at c;rw[S.ownEq x n q] at z;exact S.dist id f g j o l b h n e q c z
theorem SimF.put (S:SimF C K O nid β a w) (d:Option Nat) (tg:oS) (r:AV) (v:Value)
  (M: ∀n,d=some n->n<C.N/\uZ n tg=false/\(∀s g av,K s=some (g,av)->uZ n g=false)/\(∀id g o,O id=some (g,o)->uZ n g=false))
  (Q:sat tg a->Rep β nid (FO C.G O β a) w r v) (R: ¬sat tg a->v=undef):
  SimF C (λs=>if d=some s then some (tg,r) else K s) O nid β (a.put d v) w:=by
 cases d with
 |none=>
  have e:(λs=>if(none:Option Nat)=some s then some (tg,r) else K s)=K:=by funext s;simp
  rw[e];exact S
 |some n=>
  obtain⟨P,z,D,k⟩:=M n rfl;have t:FO C.G O β (a.put (some n) v)=FO C.G O β a:=by
   funext b
   apply propext;constructor
   ·rintro(q|⟨id,g,o,l,c,f⟩)
    ·exact .inl q
    ·exact .inr ⟨id,g,o,l,(yP (k id g o l)).1 c,f⟩
   ·rintro(q|⟨id,g,o,l,c,f⟩)
    ·exact .inl q
    ·exact .inr ⟨id,g,o,l,(yP (k id g o l)).2 c,f⟩
  have L: ∀s,(a.put (some n) v).tmps.getD s undef=if s=n then v else a.tmps.getD s undef:=by
   intro s;simp only[Act.put,jF,pF];by_cases h:n=s
   ·subst h;rw[aE rfl,aE (by rw[S.tsz];exact P)];simp
   ·rw[aB h,aB (iS h)]
  refine⟨S.gold,S.dj,S.below,?_,S.dfs,S.ag,S.lk,?_,?_,λid g o b h c f=>S.allow id g o b h ((yP (k id g o h)).1 c) f,?_⟩
  ·simp[Act.put,S.tsz]
  ·intro s g av h;rw[t,L s];by_cases c:s=n
   ·subst c;rw[aE rfl] at h;simp only[dT,iF] at h;obtain⟨rfl,rfl⟩:=h;rw[aE rfl];exact⟨λh=>Q ((yP z).1 h),λh=>R (λj=>h ((yP z).2 j))⟩
   ·rw[aB (by simpa using iS c)] at h;rw[aB c];have:=S.kf s g av h;exact⟨λj=>this.1 ((yP (D s g av h)).1 j),λj=>this.2 (λU=>j ((yP (D s g av h)).2 U))⟩
  ·intro id g o h;rw[t];exact⟨(S.of id g o h).1,λj=>(S.of id g o h).2 ((yP (k id g o h)).1 j)⟩
  ·intro id x g A o E b h j c F f H;exact S.dist id x g A o E b h j ((yP (k id g o h)).1 c) ((yP (k x A E j)).1 F) f H
def ly (tg:oS) (nid:Nat) (O:OF) (c:List Nat) (a os:List AO):OF:=λid=>match yD c id with
 |some j=>(a[j]?).map λo=>((match O id with|some p=>p.1|none=>tg),o)
 |none=>if nid<=id then(os[id-nid]?).map λo=>(tg,o) else none
def Y2 (tg:oS) (nid:Nat) (O:OF) (c:List Nat) (a os:List AO):OF:=Nx (ly tg nid O c a os) O
theorem map_some {os:List AO} {j:Nat} {tg g:oS} {o:AO} (h:(os[j]?).map (λo=>(tg,o))=some (g,o)):g=tg/\os[j]? =some o:=by
 cases a:os[j]? with
 |none=>rw[a] at h;cases h
 |some c=>rw[a] at h;simp at h;exact⟨h.1.symm,by rw[h.2]⟩
theorem sL {tg:oS} {c:List Nat} {f os:List AO} {id:Nat} {g:oS} {o:AO} (h:ly tg nid O c f os id=some (g,o)):
  P8 nid c f os id o/\((id∈c/\g=(match O id with|some p=>p.1|none=>tg))\/(nid<=id/\id<nid+os.length/\g=tg)):=by
 unfold ly at h;split at h
 ·rename_i j n;obtain⟨e,a⟩:=map_some h;have:=xW n;exact⟨.inl ⟨j,this,a⟩,.inl ⟨jU this,e⟩⟩
 ·split at h
  ·rename_i l;obtain⟨e,a⟩:=map_some h;have:=(bM.1 a).1;exact⟨.inr ⟨id-nid,J,a⟩,.inr ⟨l,J,e⟩⟩
  ·cases h
theorem EB {tg:oS} {c:List Nat} {a os:List AO} (g:a.length=c.length) {id:Nat} (h:id∈c): ∃o,ly tg nid O c a os id=some ((match O id with|some p=>p.1|none=>tg),o):=by
 unfold ly;split
 ·rename_i j f;obtain⟨e,_⟩:=bM.1 (xW f);rw[<-g] at e;exact⟨a[j],by rw[bL e];rfl⟩
 ·rename_i k;exact absurd h (gh k)
def Ck (C:Cx) (tg:oS) (O:OF) (a:List Nat):Prop:= ∀i∈a,tS i C.lo=false/\ ∃g o,O i=some (g,o)/\wI tg g=true
theorem SimF.lon (S:SimF C K O nid β a w) {id:Nat} (h:nid<=id):tS id C.lo=false:=by
 cases c:tS id C.lo with
 |false=>rfl
 |true=>have:=S.lk.1 id c;omega
theorem SimF.effLo (S:SimF C K O nid β a w) {tg:oS} {c:List Nat} {e os:List AO} (f:Ck C tg O c) (id:Nat) (p:oS×AO) (h:ly tg nid O c e os id=some p):tS id C.lo=false:=by
 rcases(sL h).2 with h|h
 ·exact(f id h.1).1
 ·exact S.lon h.1
theorem SimF.eff (S:SimF C K O nid β a w) {lk:Nat->Option AO} (H: ∀id o,lk id=some o-> ∃g,O id=some (g,o)/\sat g a) {tg:oS} (Y:sat tg a) {f:List Nat} {l os:List AO} {r:AV} {β':Bd} {w':World} {v:Value}
  (L:Ck C tg O f) (h:EffG β β' nid (FO C.G O β a) lk w w' v f l os r):
  SimF C K (Y2 tg nid O f l os) (nid+os.length) β' a w'/\Rep β' (nid+os.length) (FO C.G (Y2 tg nid O f l os) β' a) w' r v:=by
 have M: ∀i∈f,i<nid:=λi U=>by obtain⟨_,g,o,c,_⟩:=L i U;exact(S.of i g o c).1
 have A: ∀b,aId lk f β b->Cb (ly tg nid O f l os) O β a b:=λb ⟨i,o,c,e,j⟩=>by obtain⟨g,n,q⟩:=H i o e;obtain⟨z,x⟩:=EB (tg:=tg) (nid:=nid) (O:=O) (os:=os) h.len c;exact⟨i,g,o,_,x,n,q,j⟩
 have W: ∀b,Cb (ly tg nid O f l os) O β a b->aId lk f β b:=λb ⟨i,g,o,p,c,e,j,n⟩=>by
  rcases(sL c).2 with ⟨q,_⟩|⟨q,_⟩
  ·obtain⟨z,x⟩:=h.lkd i q;obtain⟨R,N,_⟩:=H i z x;rw[e] at N;obtain⟨rfl,rfl⟩:=y0 (cK N);exact⟨i,o,q,x,n⟩
  ·have:=(S.of i g o e).1;omega
 have F: ∀b,FO C.G (Y2 tg nid O f l os) β' a b->FG (FO C.G O β a) lk β β' nid f l os b:=λb D=>by
  rcases S.ov h.ag D with ⟨c,e⟩|⟨id,g,o,c,_,j⟩
  ·exact .inl ⟨c,λh=>e (A b h)⟩
  ·exact .inr ⟨id,o,(sL c).1,j⟩
 refine⟨S.upd h.ag (pC _ _) (S.effLo L) ⟨h.fr.os,h.fr.tape,h.fr.output,h.fr.size,λb D t=>h.fr.block b D λhc=>t (A b hc),h.fr.drawn⟩ (λid g o b c _ j=>(h.own id o b (sL c).1 j).imp_left (A b)) (λid g o c=>⟨?_,λ_=> ?_⟩)
  (λid Q g R o z b c e _ _ j n=>h.dist id Q o z b (sL c).1 (sL e).1 j n),h.res.stable (λb _ t E=>t (F b E)) (λ_ _ _=>rfl) (aG _)⟩
 ·rcases(sL c).2 with ⟨e,_⟩|⟨_,e,_⟩
  ·exact eS (M id e) (pC _ _)
  ·exact e
 ·have P:id<nid+os.length:=by
   rcases(sL c).2 with ⟨e,_⟩|⟨_,e,_⟩
   ·exact eS (M id e) (pC _ _)
   ·exact e
  exact(h.ok id o (sL c).1).stable P (aG _) (λ_ _=>nT) (λb _ t E=>t (F b E)) (λ_ _ _=>rfl) (aG _) (λ_ _=>rfl)
theorem SimF.passed (S:SimF C K O nid β a w) {tg:oS} (z: ¬sat tg a) {f:List Nat} {x os:List AO} (j:Ck C tg O f):SimF C K (Y2 tg nid O f x os) (nid+os.length) β a w:=by
 have q: ∀id g o,ly tg nid O f x os id=some (g,o)-> ¬sat g a:=λid g o h c=>by
  rcases(sL h).2 with ⟨A,e⟩|⟨_,_,rfl⟩
  ·obtain⟨_,l,t,n,D⟩:=j id A;rw[n] at e;subst e;exact z (tU D c)
  ·exact z c
 refine S.upd (λ_ _=>nT) (pC _ _) (S.effLo j) (Frame.refl _ _) (λid g o b h c=>(q id g o h c).elim) (λid g o h=>⟨?_,λc=>(q id g o h c).elim⟩) (λid E g l o t b h _ c=>(q id g o h c).elim);rcases(sL h).2 with ⟨e,_⟩|⟨_,e,_⟩
 ·obtain⟨_,l,t,n,_⟩:=j id e;exact eS (S.of id l t n).1 (pC _ _)
 ·exact e
theorem T0 {α:Type} {x y:α} {j:Nat} (h:[x][j]? =some y):j=0/\y=x:=by
 cases j with
 |zero=>exact⟨rfl,(cK h).symm⟩
 |succ j=>simp at h
theorem uG.gen {F:Nat->Prop} {lk:Nat->Option AO} {β':Bd} {w':World} {v:Value} {A:Eff} (O: ∀id o,lk id=some o->id<nid/\ ∀g,dG β id o g->F g) (h:uG β β' nid F lk w w' v A):
  EffG β β' nid F lk w w' v A.bor A.outs A.os A.r:=by
 cases A with
 |many a1 a0 D r=>exact h
 |ext D r=>
  obtain⟨C,L,⟨Q,R,U⟩,G⟩:=h;have f: ∀i o,P8 nid [] [] D i o-> ∃j,i=nid+j/\D[j]? =some o:=λi o h=>by
   rcases h with ⟨j,h,_⟩|h
   ·simp at h
   ·exact h
  have z: ∀b,¬FX F β' nid D b-> ¬FG F lk β β' nid [] [] D b:=λb n E=>by
   rcases E with h|⟨i,o,a,c⟩
   ·exact n (.inl h.1)
   ·obtain⟨j,rfl,t⟩:=f i o a;exact n (.inr ⟨j,o,t,c⟩)
  refine⟨L,rfl,wH,λi h=>jC,⟨C.os,C.tape,C.output,C.size,λb h _=>C.block b h,C.drawn⟩,λi o b a c=> ?_,λi o a=> ?_,λi H o q b a c t M=> ?_,G.stable (λb _=>z b) (λ_ _ _=>rfl) (aG _)⟩
  ·obtain⟨j,rfl,t⟩:=f i o a;exact .inr (R j o b t c)
  ·obtain⟨j,rfl,t⟩:=f i o a;have:=(bM.1 t).1;exact(Q j o t).stable (by show nid+j<nid+D.length;omega) (aG _) (λ_ _=>nT) (λb _=>z b) (λ_ _ _=>rfl) (aG _) (λ_ _=>rfl)
  ·obtain⟨j,rfl,W⟩:=f i o a;obtain⟨j',rfl,Y⟩:=f H q c;rw[U j j' o q b W Y t M]
 |set id q r=>
  obtain⟨rfl,o,x,l,P,K,G⟩:=h;have f: ∀i p,P8 nid [id] [q] [] i p->i=id/\p=q:=λi p h=>by
   rcases h with ⟨j,a,c⟩|⟨j,_,h⟩
   ·exact⟨(T0 a).2,(T0 c).2⟩
   ·simp at h
  have z: ∀b,¬F b-> ¬FG F lk β' β' nid [id] [q] [] b:=λb n E=>by
   rcases E with h|⟨i,p,a,c⟩
   ·exact n h.1
   ·obtain⟨rfl,rfl⟩:=f i p a;rw[P] at c;exact n ((O i o x).2 b c)
  refine⟨λ_ _=>nT,rfl,sH _ _,λi h=>⟨o,by rw[bV.1 h];exact x⟩,⟨l.os,l.tape,l.output,l.size,λb h n=>l.block b h λe=>n ⟨id,o,bV.2 rfl,x,qd e.symm⟩,l.drawn⟩,λi p b a c=> ?_,λi p a=> ?_,λi H p N b a c _ _=> ?_,G.stable (λb _=>z b) (λ_ _ _=>rfl) (aG _)⟩
  ·obtain⟨rfl,rfl⟩:=f i p a;rw[P] at c;exact .inl ⟨i,o,bV.2 rfl,x,c⟩
  ·obtain⟨rfl,rfl⟩:=f i p a;exact K.stable (O i o x).1 (aG _) (λ_ _=>nT) (λb _=>z b) (λ_ _ _=>rfl) (aG _) (λ_ _=>rfl)
  ·rw[(f i p a).1,(f H N c).1]
 |app id q r=>
  obtain⟨L,o,x,l,S,K,G⟩:=h;have f: ∀i p,P8 nid [id] [.dead] [q] i p->(i=id/\p= .dead)\/(i=nid/\p=q):=λi p h=>by
   rcases h with ⟨j,a,c⟩|⟨j,a,c⟩
   ·exact .inl ⟨(T0 a).2,(T0 c).2⟩
   ·obtain⟨rfl,rfl⟩:=T0 c;exact .inr ⟨a,rfl⟩
  have z: ∀b,¬FX F β' nid [q] b-> ¬FG F lk β β' nid [id] [.dead] [q] b:=λb n E=>by
   rcases E with h|⟨i,p,a,c⟩
   ·exact n (.inl h.1)
   ·rcases f i p a with ⟨rfl,rfl⟩|⟨rfl,rfl⟩
    ·cases c
    ·exact n (.inr ⟨0,p,rfl,c⟩)
  refine⟨L,rfl,sH _ _,λi h=>⟨o,by rw[bV.1 h];exact x⟩,⟨l.os,l.tape,l.output,l.size,λb h n=>l.block b h λe=>n ⟨id,o,bV.2 rfl,x,qd e.symm⟩,l.drawn⟩,λi p b a c=> ?_,λi p a=> ?_,λi H p N b a c t M=> ?_,G.stable (λb _=>z b) (λ_ _ _=>rfl) (aG _)⟩
  ·rcases f i p a with ⟨rfl,rfl⟩|⟨rfl,rfl⟩
   ·cases c
   ·rcases S with h|h
    ·exact .inl ⟨id,o,bV.2 rfl,x,by rw[<-h];exact c⟩
    ·exact .inr (h b c)
  ·rcases f i p a with ⟨rfl,rfl⟩|⟨rfl,rfl⟩
   ·trivial
   ·exact K.stable (gA _) (aG _) (λ_ _=>nT) (λb _=>z b) (λ_ _ _=>rfl) (aG _) (λ_ _=>rfl)
  ·rcases f i p a with ⟨rfl,rfl⟩|⟨rfl,rfl⟩<;>rcases f H N c with ⟨rfl,rfl⟩|⟨rfl,rfl⟩
   ·rfl
   ·cases t
   ·cases M
   ·rfl
end
def C9 (n:Nat):List KE->Bool
 |[]=>false
 |⟨_,g,_⟩::r=>match uZ n g with
  |true=>true
  |false=>C9 n r
def w9 (n:Nat):List OE->Bool
 |[]=>false
 |⟨_,g,_⟩::r=>match uZ n g with
  |true=>true
  |false=>w9 n r
def kj (K:List KE) (tags:oS):oS->Prop
 |[]=>True
 |(t,w)::r=>match lG t K with
  |some (g,.b x)=>(match wI g tags with
   |true=>x=w/\kj K tags r
   |false=>kj K tags r)
  |_=>kj K tags r
def OI (K:List KE):oS->Option Prop
 |[]=>none
 |p::r=>some (kj K (p::r) (p::r))
def Y3 (O:List OE) (tags:oS) (id:Nat):Option AO:=
 match fK id O with
 |some (g,o)=>(match wI g tags with
  |true=>some o
  |false=>none)
 |none=>none
def EC (tg:oS):Nat->List AO->List OE->(List OE->Nat->Prop)->Prop
 |n,[],O,k=>k O n
 |n,o::r,O,k=>EC tg (n+1) r (⟨n,tg,o⟩::O) k
def Cn (N:Nat) (d:Option Nat) (tg:oS) (r:AV) (K:List KE) (O:List OE) (nid:Nat) (k:St->Prop):Prop:=
 match d with
 |none=>k ⟨K,O,nid⟩
 |some n=>(match Nat.blt n N,uZ n tg,C9 n K,w9 n O with
  |true,false,false,false=>k ⟨⟨n,tg,r⟩::K,O,nid⟩
  |_,_,_,_=>False)
def aI7 (tg:oS) (a:List Nat):List Nat->List AO->List OE->(List OE->Prop)->Prop
 |[],[],O,k=>k O
 |i::r,o::c,O,k=>(match tS i a,tS i r,fK i O with
  |false,false,some (g,_)=>(match wI tg g with
   |true=>aI7 tg a r c (⟨i,g,o⟩::O) k
   |false=>False)
  |_,_,_=>False)
 |_,_,_,_=>False
def k5 (N:Nat) (c:List Nat) (d:Option Nat) (tg:oS) (K:List KE) (O:List OE) (nid:Nat) (a:Eff) (k:St->Prop):Prop:=
 aI7 tg c a.bor a.outs O λO=>EC tg nid a.os O λe n=>Cn N d tg a.r K e n k
def yl (a:List Oper) (j:Nat):Option Nat:=
 match a,j with
 |[],_=>none
 |o::_,0=>o.dst
 |_::r,j+1=>yl r j
def gk (a:List Oper) (K:List KE):Option (Nat×Bool)->Option oS
 |none=>some []
 |some (j,w)=>(match yl a j with
  |some d=>(match lG d K with
   |some (g,.b _)=>some ((d,w)::g)
   |_=>none)
  |none=>none)
def Co (K:List KE):oS->Prop
 |[]=>True
 |(t,b)::r=>(match lG t K with
  |some (g,.b c)=>wI g r=true/\c=b
  |_=>False)/\Co K r
def aAy (K:List KE):oS->Prop
 |[]=>False
 |(t,b)::r=>(match lG t K with
  |some (g,.b c)=>wI g r=true/\c= !b
  |_=>False)/\Co K r
def Ny:Op->Bool
 | .call ⟨.value _,_,_⟩=>true
 |_=>false
def J4 (P:Program) (T:List (Nat×TI)) (N:Nat) (e:List Nat) (h:List Oper) (o:Oper) (st:St) (k:St->Prop):Prop:=
 match st with
 |⟨K,O,c⟩=>(match o.guard with
  |none=>aH2 P T none (i3 K []) (λt b x=>i3 K [(t,b)] x) (Y3 O []) c o.op λf=>k5 N e o.dst [] K O c f k
  |some g=>(match gOk o.op,gk h K (some g),Ny o.op with
   |true,some a,false=>aH2 P T (OI K a) (i3 K a) (λt b x=>i3 K ((t,b)::a) x) (Y3 O a) c o.op λf=>k5 N e o.dst a K O c f k
   |true,some a,true=>(aH2 P T (OI K a) (i3 K a) (λt b x=>i3 K ((t,b)::a) x) (Y3 O a) c o.op λf=>k5 N e o.dst a K O c f k)\/
    ((Co K a/\aH2 P T none (i3 K a) (λt b x=>i3 K ((t,b)::a) x) (Y3 O []) c o.op λf=>k5 N e o.dst [] K O c f k)\/(aAy K a/\ ∃r,k5 N e o.dst a K O c (.ext [] r) k))
   |_,_,_=>False))
def ED (P:Program) (T:List (Nat×TI)) (N:Nat) (a:List Nat) (c:List Oper):List Oper->St->(St->Prop)->Prop
 |[],st,k=>k st
 |o::r,st,k=>J4 P T N a c o st λe=>ED P T N a c r e k
def Cq:List KE->(List KE->Prop)->Prop
 |[],k=>k []
 |⟨s,[],a⟩::r,k=>Cq r λl=>k (⟨s,[],a⟩::l)
 |⟨s,_::_,_⟩::r,k=>Cq r λl=>k (⟨s,[],.u⟩::l)
def Cr:List OE->(List OE->Prop)->Prop
 |[],k=>k []
 |⟨i,[],o⟩::r,k=>Cr r λl=>k (⟨i,[],o⟩::l)
 |⟨i,_::_,_⟩::r,k=>Cr r λl=>k (⟨i,[],.dead⟩::l)
def wU (C:Cx) (st:St) (a:Act) (w:World):Prop:= ∃c,SimF C (λs=>lG s st.K) (λid=>fK id st.O) st.nid c a w
section
variable {C : Cx} {P : Program} {T : List (Nat × TI)} {w : World} {N : Nat} {a : Act}
theorem ym {tg:oS}: ∀{os:List AO} {n:Nat} {O:List OE} {k:List OE->Nat->Prop},EC tg n os O k->
  ∃O',k O' (n+os.length)/\(∀id,(∀i g o,fK i O=some (g,o)->i<n)->fK id O'=if n<=id then(os[id-n]?).map λo=>(tg,o) else fK id O)
 |[],n,O,k,h=>⟨O,h,λid c=>by
   by_cases l:n<=id
   ·rw[aE l];cases x:fK id O with
    |none=>simp
    |some p=>have:=c id p.1 p.2 x;omega
   ·rw[aB l]⟩
 |o::r,n,O,k,h=>by
  obtain⟨O',w,t⟩:=ym (os:=r) h;refine⟨O',by simpa [fT,rO 1] using w,λid c=> ?_⟩;rw[t id (λi g z f=>by
   unfold fK at f;split at f
   ·rename_i a;have:n=i:=by simpa using a
    omega
   ·have:=c i g z f;omega)]
  by_cases j:n+1<=id
  ·rw[aE j,aE J];have e:id-n=(id-(n+1))+1:=J
   rw[e,kW]
  ·rw[aB j];by_cases q:n<=id
   ·have e:id=n:=J;subst e;simp[fK]
   ·rw[aB q];have:Nat.beq n id=false:=by
     cases a:Nat.beq n id
     ·rfl
     ·have:n=id:=(by simpa using a);omega
    simp[fK,this]
theorem A4 {n:Nat}: ∀{K:List KE},C9 n K=false-> ∀s g av,lG s K=some (g,av)->uZ n g=false
 |[],_,s,g,av,h=>by simp[lG] at h
 |⟨t,f,e⟩::r,a,s,g,av,h=>by
  unfold C9 at a;split at a
  ·cases a
  ·rename_i c;unfold lG at h;split at h
   ·simp only[dT,iF] at h;rw[<-h.1];exact c
   ·exact A4 a s g av h
theorem x0 {n:Nat}: ∀{O:List OE},w9 n O=false-> ∀s g o,fK s O=some (g,o)->uZ n g=false
 |[],_,s,g,c,h=>by simp[fK] at h
 |⟨t,j,f⟩::r,a,s,g,c,h=>by
  unfold w9 at a;split at a
  ·cases a
  ·rename_i e;unfold fK at h;split at h
   ·simp only[dT,iF] at h;rw[<-h.1];exact e
   ·exact x0 a s g c h
theorem Hh {d:Option Nat} {tg:oS} {r:AV} {K:List KE} {O:List OE} {nid:Nat} {k:St->Prop} (h:Cn N d tg r K O nid k):
  ∃c,k ⟨c,O,nid⟩/\(λs=>lG s c)=(λs=>if d=some s then some (tg,r) else lG s K)/\
   ∀n,d=some n->n<N/\uZ n tg=false/\(∀s g av,lG s K=some (g,av)->uZ n g=false)/\(∀id g o,fK id O=some (g,o)->uZ n g=false):=by
 unfold Cn at h;split at h
 ·exact⟨K,h,by funext s;simp,λn t=>by cases t⟩
 ·rename_i n;split at h
  ·rename_i h1 j l q;refine⟨_,h,?_,λm e=> ?_⟩
   ·funext s
    simp only[lG,dT];by_cases a:n=s
    ·subst a;simp
    ·have:Nat.beq n s=false:=by
      cases f:Nat.beq n s
      ·rfl
      ·exact absurd (by simpa using f) a
     simp[this,a]
   ·simp only[dT] at e;subst e;exact⟨j1,j,A4 l,x0 q⟩
  ·cases h
theorem uU {i id:Nat} {g:oS} {o:AO} {O:List OE}:fK id (⟨i,g,o⟩::O)=if id=i then some (g,o) else fK id O:=by
 by_cases h:id=i
 ·subst h;simp[fK]
 ·have:Nat.beq i id=false:=by
   cases a:Nat.beq i id
   ·rfl
   ·exact absurd (by simpa using a:i=id).symm h
  simp[fK,this,h]
theorem Hi {tg:oS} {t:List Nat}: ∀{l:List Nat} {q:List AO} {O:List OE} {k:List OE->Prop},aI7 tg t l q O k->
  q.length=l.length/\(∀i∈l,tS i t=false/\ ∃g o,fK i O=some (g,o)/\wI tg g=true)/\
  ∃O',k O'/\ ∀id,fK id O'=match yD l id with|some j=>(q[j]?).map λo=>((match fK id O with|some p=>p.1|none=>tg),o)|none=>fK id O
 |[],[],O,k,h=>⟨rfl,λi h=>jC,O,h,λid=>rfl⟩
 |[],_::_,O,k,h=>h.elim
 |_::_,[],O,k,h=>h.elim
 |i::r,o::S,O,k,h=>by
  unfold aI7 at h;split at h
  ·rename_i g R F w z;split at h
   ·rename_i P;obtain⟨N,G,O',M,L⟩:=Hi h;have C: ∀j,j∈r->j≠i:=λj c e=>C6 w (e▸c);refine⟨by simp[N],λj c=> ?_,O',M,λid=> ?_⟩
    ·rcases eF.1 c with rfl|c
     ·exact⟨F,g,R,z,P⟩
     ·obtain⟨H,E,Q,x,K⟩:=G j c;rw[uU,aB (C j c)] at x;exact⟨H,E,Q,x,K⟩
    ·rw[L id];by_cases n:id=i
     ·subst n;have a:yD r id=none:=by
       cases a:yD r id with
       |none=>rfl
       |some j=>exact absurd (jU (xW a)) (C6 w)
      have f:yD (id::r) id=some 0:=(by simp[yD]);rw[a,f];simp[fK,z]
     ·have a:Nat.beq i id=false:=by
       cases D:Nat.beq i id
       ·rfl
       ·exact absurd (by simpa using D:i=id).symm n
      cases A:yD r id with
      |none=>have f:yD (i::r) id=none:=(by simp[yD,a,A]);rw[f];dsimp only;rw[uU,aB n]
      |some j=>have f:yD (i::r) id=some (j+1):=(by simp[yD,a,A]);rw[f];simp[uU,n]
   ·cases h
  ·cases h
theorem D0 {d:Option Nat} {tg:oS} {K:List KE} {O:List OE} {nid:Nat} {a:Eff} {k:St->Prop} (x: ∀id g o,fK id O=some (g,o)->id<nid) (h:k5 C.N C.lo d tg K O nid a k):
  Ck C tg (λid=>fK id O) a.bor/\ ∃q,k q/\(λid=>fK id q.O)=Y2 tg nid (λid=>fK id O) a.bor a.outs a.os/\q.nid=nid+a.os.length/\
   (λs=>lG s q.K)=(λs=>if d=some s then some (tg,a.r) else lG s K)/\
   ∀n,d=some n->n<C.N/\uZ n tg=false/\(∀s g av,lG s K=some (g,av)->uZ n g=false)/\(∀id g o,Y2 tg nid (λid=>fK id O) a.bor a.outs a.os id=some (g,o)->uZ n g=false):=by
 obtain⟨S,E,R,h,D⟩:=Hi h;obtain⟨H,h,P⟩:=ym h;obtain⟨Q,h,M,t⟩:=Hh h;have F: ∀i∈a.bor,i<nid:=λi c=>by obtain⟨_,g,o,L,_⟩:=E i c;exact x i g o L
 have e:(λid=>fK id H)=Y2 tg nid (λid=>fK id O) a.bor a.outs a.os:=funext λid=>by
  rw[P id λi g o c=>by
   rw[D] at c;split at c
   ·rename_i j A;exact F i (jU (xW A))
   ·exact x i g o c]
  unfold Y2 Nx ly;by_cases l:nid<=id
  ·have f:yD a.bor id=none:=by
    cases f:yD a.bor id with
    |none=>rfl
    |some j=>have:=F _ (jU (xW f));omega
   have z:fK id O=none:=by
    cases z:fK id O with
    |none=>rfl
    |some p=>have:=x id p.1 p.2 z;omega
   rw[aE l,f,aE l];cases a.os[id-nid]? <;>simp[z]
  ·rw[aB l,D id];cases f:yD a.bor id with
   |none=>simp[l]
   |some j=>
    dsimp only;cases A:a.outs[j]? with
    |some o=>rfl
    |none=>have:=(bM.1 (xW f)).1;rw[List.getElem?_eq_none_iff] at A;omega
 exact⟨E,_,h,e,rfl,M,λn w=>⟨(t n w).1,(t n w).2.1,(t n w).2.2.1,λid g o G=>(t n w).2.2.2 id g o (by rw[<-e] at G;exact G)⟩⟩
theorem kk {K:List KE} {O:OF} {nid:Nat} {β:Bd} (S:SimF C (λs=>lG s K) O nid β a w) {tags:oS} (c:sat tags a): ∀l:oS,(∀p∈l,p∈tags)->kj K tags l
 |[],_=>trivial
 |(t,b)::r,f=>by
  have e:=kk S c r (λp n=>f p (fZ _ n));unfold kj;split
  ·rename_i g x j;split
   ·rename_i h;have q:=((S.kf t g _ j).1 (tU h c)).b_inv;have:=c (t,b) (f _ jS);rw[q] at this;exact⟨by simpa using this,e⟩
   ·exact e
  ·exact e
theorem x1 {K:List KE} {O:OF} {nid:Nat} {β:Bd} (S:SimF C (λs=>lG s K) O nid β a w) {tags:oS} (l:sat tags a) (x:Operand) (r:AV) (h:i3 K tags x=some r):
  Rep β nid (FO C.G O β a) w r (a.eval x):=by
 unfold i3 at h;split at h
 ·rename_i t;split at h
  ·rename_i g n e;split at h
   ·rename_i c;obtain rfl:=cK h;exact(S.kf t g _ e).1 (tU c l)
   ·cases h
  ·cases h
 ·obtain rfl:=cK h;exact .pure _ _ (z7 _)
 ·rename_i f;obtain rfl:=cK h;exact .pure _ _ (.fn f [] [] rfl (λj h1=>jl))
 ·cases h
theorem Hj: ∀(a:List Oper) (j:Nat),yl a j=(a[j]?).bind (·.dst)
 |[],j=>by simp[yl]
 |o::_,0=>by simp[yl]
 |_::r,j+1=>by simp[yl,Hj r j]
theorem T1 {n:List Oper} {K:List KE} {O:OF} {nid:Nat} {β:Bd} (S:SimF C (λs=>lG s K) O nid β a w) {o:Oper} {tg:oS} (h:gk n K o.guard=some tg):
  Region.wanted o (yielded n.toArray a.tmps)=true↔sat tg a:=by
 unfold gk at h;split at h
 ·rename_i q;obtain rfl:=cK h;simp[Region.wanted,q,gG]
 ·rename_i j b q;split at h
  ·rename_i d D;split at h
   ·rename_i g x M;obtain rfl:=cK h;rw[Hj] at D;have E:=S.kf d g _ M;have z:yielded n.toArray a.tmps j=match a.tmps[d]? with|some (.bool b)=>some b|_=>none:=by have:((n.toArray[j]?).bind (·.dst))=some d:=(by simpa using D);unfold yielded;rw[this];rfl
    have F: ∀v,a.tmps.getD d undef=v->v≠undef->a.tmps[d]? =some v:=by
     intro v c G;rw[jF] at c;cases f:a.tmps[d]? with
     |none=>rw[f] at c;exact absurd c.symm G
     |some u=>rw[f] at c;rw[<-c];rfl
    have L: ∀u,a.tmps[d]? =some u->a.tmps.getD d undef=u:=by intro u N;rw[jF,N];rfl
    by_cases t:sat g a
    ·have c:=(E.1 t).b_inv;have H:=F _ c (by simp[undef]);rw[H] at z;simp only[Region.wanted,q,z];constructor
     ·intro e p l;rcases eF.1 l with rfl|l
      ·rw[c];simpa using e
      ·exact t p l
     ·intro A;have:=A (d,b) jS;rw[c] at this;simpa using this
    ·have c:=E.2 t;constructor
     ·intro e;exfalso;simp only[Region.wanted,q,z] at e;cases f:a.tmps[d]? with
      |none=>rw[f] at e;simp at e
      |some u=>have:=L u f;rw[c] at this;rw[f,<-this] at e;simp[undef] at e
     ·intro A;exact(t (λp l=>A p (fZ _ l))).elim
   ·cases h
  ·cases h
theorem zU {O:List OE} {tags:oS} (f:sat tags a) (id:Nat) (o:AO) (h:Y3 O tags id=some o): ∃g,fK id O=some (g,o)/\sat g a:=by
 unfold Y3 at h;split at h
 ·rename_i g j e;split at h
  ·rename_i c;obtain rfl:=cK h;exact⟨g,e,tU c f⟩
  ·cases h
 ·cases h
theorem T2 {K:List KE} {O:OF} {nid:Nat} {β:Bd} (S:SimF C (λs=>lG s K) O nid β a w) {tags:oS} (f:sat tags a) (c:Prop) (h:OI K tags=some c):c:=by
 cases tags with
 |nil=>cases h
 |cons p r=>obtain rfl:=cK h;exact kk S f _ (λp e=>e)
theorem rj {K:List KE} {O:OF} {nid:Nat} {β:Bd} {tg:oS} (S:SimF C (λs=>lG s K) O nid β a w) (h:Co K tg):sat tg a:=by
 induction tg with
 |nil=>exact gG a
 |cons p r x=>
  obtain⟨t,b⟩:=p;obtain⟨e,l⟩:=h;have j:=x l;split at e
  ·rename_i g c q;obtain⟨n,rfl⟩:=e;have k:=(S.kf t g _ q).1 (tU n j);intro p f;rcases eF.1 f with rfl|f
   ·exact k.b_inv
   ·exact j p f
  ·exact e.elim
theorem EE {K:List KE} {O:OF} {nid:Nat} {β:Bd} {tg:oS} (S:SimF C (λs=>lG s K) O nid β a w) (h:aAy K tg): ¬sat tg a:=by
 cases tg with
 |nil=>exact h.elim
 |cons p r=>
  obtain⟨t,b⟩:=p;obtain⟨e,j⟩:=h;have q:=rj S j;split at e
  ·rename_i g c n;obtain⟨l,rfl⟩:=e;have f:=((S.kf t g _ n).1 (tU l q)).b_inv;intro x;have:=x (t,b) jS;rw[f] at this;cases b<;>cases this
  ·exact e.elim
theorem gl {K:List KE} {O:List OE} {nid:Nat} {β β':Bd} {tg:oS} {dst:Option Nat} {e:Eff} {w':World} {v:Value} {k:St->Prop} (f:sat tg a) (S:SimF C (λs=>lG s K) (λid=>fK id O) nid β a w)
  (q:uG β β' nid (FO C.G (λid=>fK id O) β a) (Y3 O tg) w w' v e) (h:k5 C.N C.lo dst tg K O nid e k):
  ∃c,k c/\SimF C (λs=>lG s c.K) (λid=>fK id c.O) c.nid β' (a.put dst v) w'/\(λid=>fK id c.O)=Y2 tg nid (λid=>fK id O) e.bor e.outs e.os:=by
 obtain⟨n,c,A,j,t,x,z⟩:=D0 (λid g o h=>(S.of id g o h).1) h;have E:=S.env (zU (O:=O) f);obtain⟨l,D⟩:=S.eff (zU (O:=O) f) f n (q.gen λid o h=>⟨(E.obj id o h).1,λg=>E.own id o g h⟩);refine⟨c,A,?_,j⟩;rw[x,j,t];exact l.put dst tg _ v z (λ_=>D) (λF=>(F f).elim)
theorem rk {tg:oS} {K:List KE} {O:List OE} {nid:Nat} {dst:Option Nat} {c:Eff} {k:St->Prop} (e: ∀id g o,fK id O=some (g,o)->id<nid) (h:k5 C.N C.lo dst tg K O nid c k) (v:Value) {id:Nat} {g:oS} {o:AO}
  (j:Y2 tg nid (λid=>fK id O) c.bor c.outs c.os id=some (g,o)):sat g (a.put dst v)↔sat g a:=by
 obtain⟨_,_,_,_,_,_,f⟩:=D0 e h;cases dst with
 |none=>exact M3
 |some n=>exact yP ((f n rfl).2.2.2 id g o j)
theorem D1 {K:List KE} {O:List OE} {nid:Nat} {β:Bd} {tg:oS} {dst:Option Nat} {c:Eff} {k:St->Prop} (n: ¬sat tg a) (S:SimF C (λs=>lG s K) (λid=>fK id O) nid β a w)
  (h:k5 C.N C.lo dst tg K O nid c k): ∃e,k e/\SimF C (λs=>lG s e.K) (λid=>fK id e.O) e.nid β (a.put dst undef) w/\ ∀b,FO C.G (λid=>fK id O) β a b->FO C.G (λid=>fK id e.O) β (a.put dst undef) b:=by
 obtain⟨q,e,P,z,D,L,M⟩:=D0 (λid g o h=>(S.of id g o h).1) h;refine⟨e,P,?_,λb l=> ?_⟩
 ·rw[L,z,D];exact(S.passed n q).put dst tg _ undef M (λQ=>(n Q).elim) (λ_=>rfl)
 ·rcases l with l|⟨id,g,o,f,t,E⟩
  ·exact .inl l
  ·have A:Y2 tg nid (λid=>fK id O) c.bor c.outs c.os id=some (g,o):=by
    unfold Y2 Nx;cases H:ly tg nid (λid=>fK id O) c.bor c.outs c.os id with
    |none=>exact f
    |some p=>
     rcases(sL H).2 with ⟨x,_⟩|⟨x,_⟩
     ·obtain⟨_,R,U,j,F⟩:=q id x;dsimp only at f j;rw[f] at j;cases j;exact(n (tU F t)).elim
     ·have:=(S.of id g o f).1;omega
   rw[z];exact .inr ⟨id,g,o,A,(rk (λid g o h=>(S.of id g o h).1) h undef A).2 t,E⟩
theorem yo (hT:iM P T) {Q:List Oper} {o:Oper} {K:List KE} {O:List OE} {nid:Nat} {β:Bd} {k:St->Prop} (S:SimF C (λs=>lG s K) (λid=>fK id O) nid β a w) (h:J4 P T C.N C.lo Q o ⟨K,O,nid⟩ k):
  (Region.wanted o (yielded Q.toArray a.tmps)=true->Out P (λv w'=> ∃e β',k e/\SimF C (λs=>lG s e.K) (λid=>fK id e.O) e.nid β' (a.put o.dst v) w') ((execOp a.eval o).run P w)/\
   (uJ o.op=true-> ∃v,(execOp a.eval o).run P w= .ok (.value v) w/\(r9 o.op=0-> ∀w',(execOp a.eval o).run P w'= .ok (.value v) w')/\ ∃e,k e/\SimF C (λs=>lG s e.K) (λid=>fK id e.O) e.nid β (a.put o.dst v) w/\ ∀b,FO C.G (λid=>fK id O) β a b->FO C.G (λid=>fK id e.O) β (a.put o.dst v) b))/\
  (¬Region.wanted o (yielded Q.toArray a.tmps)=true-> ∃e,k e/\SimF C (λs=>lG s e.K) (λid=>fK id e.O) e.nid β (a.put o.dst undef) w/\ ∀b,FO C.G (λid=>fK id O) β a b->FO C.G (λid=>fK id e.O) β (a.put o.dst undef) b):=by
 have a2: ∀id g o,fK id O=some (g,o)->id<nid:=λid g o h=>(S.of id g o h).1;have A: ∀{tg:oS} {W:Option Prop} {l:Nat->Bool->Operand->Option AV} {R:oS},sat tg a->sat R a->(∀c,W=some c->c)->(∀t b x r,l t b x=some r->a.eval (.tmp t)= .bool b->Rep β nid (FO C.G (λid=>fK id O) β a) w r (a.eval x))->
   (aH2 P T W (i3 K R) l (Y3 O tg) nid o.op λH=>k5 C.N C.lo o.dst tg K O nid H k)->Out P (λv w'=> ∃e β',k e/\SimF C (λs=>lG s e.K) (λid=>fK id e.O) e.nid β' (a.put o.dst v) w') ((execOp a.eval o).run P w)/\
   (uJ o.op=true-> ∃v,(execOp a.eval o).run P w= .ok (.value v) w/\(r9 o.op=0-> ∀w',(execOp a.eval o).run P w'= .ok (.value v) w')/\ ∃e,k e/\SimF C (λs=>lG s e.K) (λid=>fK id e.O) e.nid β (a.put o.dst v) w/\ ∀b,FO C.G (λid=>fK id O) β a b->FO C.G (λid=>fK id e.O) β (a.put o.dst v) b):=by
  intro tg W l R f df am cx h;obtain⟨h1,h2,a1⟩:=He hT am (S.env (zU (O:=O) f)) (λx r hx=>x1 S df x r hx) cx h;refine⟨h1.mono λv w' ⟨H,β',q,z⟩=> ?_,λa3=> ?_⟩
  ·obtain⟨e,D,E,_⟩:=gl f S z q;exact⟨e,β',D,E⟩
  ·obtain⟨v,r,D,E,h5⟩:=h2 a3;obtain⟨e,h6,h7,h8⟩:=gl f S (.id h5 (Below.refl _ _)) E;refine⟨v,D,λhz=> ?_,e,h6,h7,λb hb=> ?_⟩
   ·obtain⟨v',a0⟩:=a1 hz;have:=a0 w;rw[D] at this;cases this;exact a0
   rcases hb with hb|⟨id,g,o,e1,e2,e3⟩
   ·exact .inl hb
   ·rw[h8];have ho:Y2 tg nid (λid=>fK id O) [] [] [] id=some (g,o):=by
     unfold Y2 Nx ly;simp only[yD];split
     ·rename_i Y;split at Y
      ·simp at Y
      ·cases Y
     ·exact e1
    exact .inr ⟨id,g,o,ho,(rk a2 E v ho).2 e2,e3⟩
 have l: ∀{tg:oS},sat tg a-> ∀t b x r,i3 K ((t,b)::tg) x=some r->a.eval (.tmp t)= .bool b->Rep β nid (FO C.G (λid=>fK id O) β a) w r (a.eval x):=λ{tg} f t b x r hx hv=>
  x1 S (tags:=(t,b)::tg) (λp z=>by
   rcases eF.1 z with rfl|z
   ·exact hv
   ·exact f p z) x r hx
 unfold J4 at h;dsimp only at h;split at h
 ·rename_i F;exact⟨λ_=>A (gG a) (gG a) (λc h=>jC) (l (gG a)) h,λhn=>(hn (by simp[Region.wanted,F])).elim⟩
 ·rename_i g F;split at h
  ·rename_i tg M U _;have j:=T1 S (o:=o) (by rw[F];exact U);refine⟨λn=>A (j.1 n) (j.1 n) (T2 S (j.1 n)) (l (j.1 n)) h,λhn=> ?_⟩;have f: ¬sat tg a:=λf=>hn (j.2 f);cases tg with
   |nil=>exact(f (gG a)).elim
   |cons p r=>obtain⟨H,q⟩:=Hg (c:=kj K (p::r) (p::r)) M h;exact D1 f S q
  ·rename_i tg M U _;have j:=T1 S (o:=o) (by rw[F];exact U);rcases h with h|⟨L,h⟩|⟨L,r,h⟩
   ·refine⟨λn=>A (j.1 n) (j.1 n) (T2 S (j.1 n)) (l (j.1 n)) h,λhn=> ?_⟩;have f: ¬sat tg a:=λf=>hn (j.2 f);cases tg with
    |nil=>exact(f (gG a)).elim
    |cons p r=>obtain⟨H,q⟩:=Hg (c:=kj K (p::r) (p::r)) M h;exact D1 f S q
   ·have f:=rj S L;exact⟨λ_=>A (gG a) f (λc h=>jC) (l f) h,λhn=>(hn (j.2 f)).elim⟩
   ·have f:=EE S L;exact⟨λn=>(f (j.1 n)).elim,λ_=>D1 f S h⟩
  ·cases h
theorem Hk (x:iM P T) {j:List Oper} {o:Oper} {st:St} {k:St->Prop} {Q:Exit->Act->World->Prop} {next:Act->World->Prop}
  (n: ∀c l w',k c->wU C c l w'->next l w') (S:wU C st a w) (h:J4 P T C.N C.lo j o st k):
  if Region.wanted o (yielded j.toArray a.tmps) then o.wp P a w next Q else next (a.put o.dst undef) w:=by
 obtain⟨A,S⟩:=S;obtain⟨q,t⟩:=yo x S h;split
 ·rename_i g;exact(q g).1.upon λv w' ⟨c,z,e,f⟩=>n c _ w' e ⟨z,f⟩
 ·rename_i g;obtain⟨c,e,f,_⟩:=t g;exact n c _ w e ⟨A,f⟩
theorem kl (n:iM P T) {c:List Oper} {Q:Exit->Act->World->Prop}: ∀{l:List Oper} {st:St} {k:St->Prop} {a:Act} {w:World},wU C st a w->ED P T C.N C.lo c l st k->
  (∀j e w',k j->wU C j e w'->Q .normal e w')->wpList P c.toArray Q l a w
 |[],st,k,a,w,S,h,f=>f st a w h S
 |o::r,st,k,a,w,S,h,f=>by
  have:=Hk (Q:=Q) (next:=wpList P c.toArray Q r) n (λj e w' t q=>kl n q t f) S h
  unfold wpList;split
  ·rename_i g;rw[aE g] at this;exact .inl this
  ·rename_i g;rw[aB g] at this;exact this
theorem T3: ∀{K:List KE} {k:List KE->Prop},Cq K k-> ∃a,k a/\ ∀s,lG s a=(lG s K).map λp=>([],match p.1 with|[]=>p.2|_::_=> .u)
 |[],k,h=>⟨[],h,λs=>by simp[lG]⟩
 |⟨t,[],e⟩::r,k,h=>by
  obtain⟨a,h,c⟩:=T3 (K:=r) h;refine⟨_,h,λs=> ?_⟩;simp only[lG];split
  ·rfl
  ·exact c s
 |⟨t,_::_,e⟩::r,k,h=>by
  obtain⟨a,h,c⟩:=T3 (K:=r) h;refine⟨_,h,λs=> ?_⟩;simp only[lG];split
  ·rfl
  ·exact c s
theorem T4: ∀{O:List OE} {k:List OE->Prop},Cr O k-> ∃O',k O'/\ ∀s,fK s O'=(fK s O).map λp=>([],match p.1 with|[]=>p.2|_::_=> .dead)
 |[],k,h=>⟨[],h,λs=>by simp[fK]⟩
 |⟨t,[],e⟩::r,k,h=>by
  obtain⟨c,h,a⟩:=T4 (O:=r) h;refine⟨_,h,λs=> ?_⟩;simp only[fK];split
  ·rfl
  ·exact a s
 |⟨t,_::_,e⟩::r,k,h=>by
  obtain⟨c,h,a⟩:=T4 (O:=r) h;refine⟨_,h,λs=> ?_⟩;simp only[fK];split
  ·rfl
  ·exact a s
def Nz (st:St) (k:St->Prop):Prop:=
 match st with
 |⟨K,O,a⟩=>Cq K λc=>Cr O λe=>k ⟨c,e,a⟩
theorem SimF.withK {K c:KF} {O:OF} {nid:Nat} {β:Bd} (S:SimF C K O nid β a w) (h: ∀s g av,c s=some (g,av)->(sat g a->Rep β nid (FO C.G O β a) w av (a.tmps.getD s undef))/\(¬sat g a->a.tmps.getD s undef=undef)):SimF C c O nid β a w:=
 ⟨S.gold,S.dj,S.below,S.tsz,S.dfs,S.ag,S.lk,h,S.of,S.allow,S.dist⟩
theorem Hl {l:List Nat} (h:l=[]) (id:Nat):tS id l=false:=by subst h;rfl
theorem SimF.re {K:KF} {O O':OF} {nid e:Nat} {β β':Bd} (S:SimF C K O nid β a w) (E:C.lo=[]) (q:yL nid β β') (Q:nid<=e) (D:OF) (M:O'=Nx D O)
  (l: ∀id g o,D id=some (g,o)->sat g a->(∀b,dG β' id o b->Cb D O β a b)/\((∀b,FO C.G O' β' a b->FO C.G O β a b)->lV β' e (FO C.G O' β' a) w id o)) (A: ∀id g o,D id=some (g,o)->id<e)
  (P: ∀id j g x o z b,D id=some (g,o)->D j=some (x,z)->sat g a->sat x a->dG β' id o b->dG β' j z b->id=j):SimF C K O' e β' a w/\ ∀b,FO C.G O' β' a b->FO C.G O β a b:=by
 subst M;have n: ∀b,FO C.G (Nx D O) β' a b->FO C.G O β a b:=λb N=>by
  rcases S.ov q N with h|⟨id,g,o,c,f,k⟩
  ·exact h.1
  ·obtain⟨i,t,p,_,_,F,H,L⟩:=(l id g o c f).1 b k;exact .inr ⟨i,t,p,F,H,L⟩
 exact⟨S.upd q Q (λ_ _ _=>Hl E _) (Frame.refl _ _) (λid g o b c f k=> .inl ((l id g o c f).1 b k)) (λid g o c=>⟨A id g o c,λf=>(l id g o c f).2 n⟩) P,n⟩
theorem SimF.kill {K:KF} {O O':OF} {nid:Nat} {β:Bd} (S:SimF C K O nid β a w) (l:C.lo=[]) (f: ∀id,O' id=O id\/(∃g o,O id=some (g,o))/\O' id=some ([],.dead)):SimF C K O' nid β a w/\ ∀b,FO C.G O' β a b->FO C.G O β a b:=by
 classical
 refine S.re l (λ_ _=>nT) (aG _) (λid=>if O' id=O id then none else some ([],.dead)) (funext λid=> ?_) (λid g o h _=> ?_) (λid g o h=> ?_) (λid n g q o t b h _ _ _ c=> ?_)
 ·unfold Nx;dsimp only;rcases f id with h|h
  ·rw[aE h];exact h
  ·by_cases e:O' id=O id
   ·rw[aE e];exact e
   ·rw[aB e];exact h.2
 ·split at h
  ·cases h
  ·cases h;exact⟨λb c=>c.elim,λ_=>trivial⟩
 ·split at h
  ·cases h
  ·rename_i j;obtain⟨⟨g,o,h⟩,_⟩:=(f id).resolve_left j;exact(S.of id g o h).1
 ·split at h
  ·cases h
  ·cases h;cases c
theorem Oa {st:St} {k:St->Prop} (t:C.lo=[]) (h:Nz st k) (S:wU C st a w): ∃f,k f/\wU C f a w:=by
 obtain⟨j,l,E⟩:=st;obtain⟨K,h,x⟩:=T3 h;obtain⟨O,h,z⟩:=T4 h;obtain⟨D,S⟩:=S;obtain⟨n,q⟩:=S.kill t (O':=λid=>fK id O) λid=>by
  dsimp only;rw[z id];rcases hq:fK id l with _|⟨_|⟨p,g⟩,o⟩
  ·exact .inl rfl
  ·exact .inl rfl
  ·exact .inr ⟨⟨_,_,rfl⟩,rfl⟩
 refine⟨_,h,D,n.withK λs g F c=> ?_⟩;dsimp only at c;rw[x s] at c;rcases hq:lG s j with _|⟨_|⟨p,H⟩,G⟩<;>rw[hq] at c<;>cases c
 ·exact⟨λ_=>((S.kf s [] _ hq).1 (gG a)).stable (λb _ e A=>e (q b A)) (λ_ _ _=>rfl) (aG _),λe=>(e (gG a)).elim⟩
 ·exact⟨λ_=> .pure _ _ (.u _),λe=>(e (gG a)).elim⟩
def vX:List AV->List AV->Prop
 |[],[]=>True
 |[x],[y]=>eV x y
 |x::r,y::t=>eV x y/\vX r t
 |_,_=>False
theorem vX.get: ∀{l m:List AV},vX l m->l.length=m.length/\ ∀(j:Nat) (h1:j<l.length) (a:j<m.length),eV l[j] m[j]
 |[],[],_=>⟨rfl,λj h1=>jl⟩
 |[],_::_,h=>by simp[vX] at h
 |_::_,[],h=>by simp[vX] at h
 |[x],[y],h=>⟨rfl,λj h1 a=>by
   have:j=0:=j1;subst this;exact h⟩
 |[x],y::z::t,h=>by simp[vX] at h
 |x::z::r,[y],h=>by simp[vX] at h
 |x::z::r,y::f::t,h=>by
  obtain⟨h1,a⟩:=vX.get h.2;refine⟨j1,λj c e=> ?_⟩;cases j with
  |zero=>exact h.1
  |succ j=>exact a j (by simpa using c) (by simpa using e)
theorem vX.refl: ∀l:List AV,vX l l
 |[]=>trivial
 |[x]=>eV.refl x
 |x::y::r=>⟨eV.refl x,vX.refl (y::r)⟩
def A5:KD->KD->Prop
 | .row e l n g,b=>(match b with
  | .row e' a j h=>e'=e/\a=l/\j=n/\ ∀k,k<n->h k=g k
  |_=>False)
 | .cells e f,b=>(match b with
  | .cells e' c=>e'=e/\c=f
  |_=>False)
theorem A5.refl (x:KD):A5 x x:=by cases x<;>simp[A5]
theorem A5.ok {F:Nat->Prop} {w:World} {v:Value} {x y:KD} (h:A5 x y) (f:xD F w v x):xD F w v y:=by
 cases x with
 |row e D m g=>
  cases y<;>simp only[A5] at h<;>first|exact h.elim|skip
  obtain⟨rfl,rfl,rfl,c⟩:=h;obtain⟨A,z,l,t⟩:=f;refine⟨A,z,λk a=>by rw[c k a];exact l k a,λk j a n q=> ?_⟩;have:=t k j a (by rw[<-c k a];exact n) q;simpa only[c k a] using this
 |cells e C=>
  cases y<;>simp only[A5] at h<;>first|exact h.elim|skip
  obtain⟨rfl,rfl⟩:=h;exact f
theorem A5.ref {β:Bd} {a:Nat} {x y:KD} (h:A5 x y):xM β x a=xM β y a:=by
 cases x<;>cases y<;>simp only[A5] at h<;>first|exact h.elim|rfl
def eN:AO->AO->Prop
 | .row e Q n g,b=>(match b with
  | .row e' L a P=>e'=e/\L=Q/\a=n/\ ∀k,k<n->P k=g k
  |_=>False)
 | .cells e O,b=>(match b with
  | .cells e' M=>e'=e/\vX O M
  |_=>False)
 | .mp n c val q j,b=>(match b with
  | .mp a f w h x=>a=n/\x=j/\ ∀k,k<n->f k=c k/\w k=val k/\h k=q k
  |_=>False)
 | .it mid C t,b=>(match b with
  | .it mid' z l=>mid'=mid/\z=C/\l=t
  |_=>False)
 | .ir n c val t F,b=>(match b with
  | .ir a f w l A=>a=n/\A=F/\ ∀k,k<n->f k=c k/\w k=val k/\l k=t k
  |_=>False)
 | .mr n c H q j G E,b=>(match b with
  | .mr a f N h x D K=>a=n/\x=j/\D=G/\K=E/\ ∀k,k<n->f k=c k/\A5 (N k) (H k)/\h k=q k
  |_=>False)
 | .dead,_=>True
theorem eN.refl (x:AO):eN x x:=by cases x<;>simp[eN,vX.refl,A5.refl]
theorem eN.ok {β:Bd} {n:Nat} {F:Nat->Prop} {id:Nat} {x y:AO} (h:eN x y) (l:lV β n F w id y):lV β n F w id x:=by
 cases x with
 |row e sz m g=>
  cases y<;>simp only[eN] at h<;>first|exact h.elim|skip
  obtain⟨rfl,rfl,rfl,c⟩:=h;obtain⟨xs,hx,P,q⟩:=l;refine⟨xs,hx,λk t=>by rw[<-c k t];exact P k t,λk j t f a=> ?_⟩;have:=q k j t (by rw[c k t];exact f) a;simpa only[c k t] using this
 |cells e cs=>
  cases y<;>simp only[eN] at h<;>first|exact h.elim|skip
  obtain⟨rfl,R⟩:=h;obtain⟨vs,z,hl,q⟩:=l;obtain⟨W,c⟩:=R.get;exact⟨vs,z,W.trans hl,λj f a=>⟨(c j f J).rep (q j J a).1,(q j J a).2⟩⟩
 |mp m M val O K=>
  cases y<;>simp only[eN] at h<;>first|exact h.elim|skip
  obtain⟨rfl,rfl,c⟩:=h;obtain⟨D,z,G,H,q⟩:=l;refine⟨D,z,G,H,λi f a=> ?_⟩;obtain⟨A,L,C⟩:=c i f;rw[<-A,<-L,<-C];exact q i f a
 |it mid a0 Q=>
  cases y<;>simp only[eN] at h<;>first|exact h.elim|skip
  obtain⟨rfl,rfl,rfl⟩:=h;exact l
 |ir m M val Q a2=>
  cases y<;>simp only[eN] at h<;>first|exact h.elim|skip
  obtain⟨rfl,rfl,c⟩:=h;obtain⟨g,D,K,sn,z,G,H,ct,eg,q,Y⟩:=l;refine⟨g,D,K,sn,z,G,H,ct,eg,λi f a=> ?_,Y⟩;obtain⟨A,L,C⟩:=c i f;rw[<-A,<-L,<-C];exact q i f a
 |mr m M a4 O K a3 a1=>
  cases y<;>simp only[eN] at h<;>first|exact h.elim|skip
  obtain⟨rfl,rfl,rfl,rfl,c⟩:=h;obtain⟨ha,N,D,z,G,H,ah,t,hd,S,l⟩:=l;refine⟨ha,N,D,z,G,H,λi E a=> ?_,λi E a U=> ?_,hd,S,λi h e a=> ?_⟩
  ·obtain⟨A,_,C⟩:=c i E;rw[<-A,<-C];exact ah i E a
  ·obtain⟨h3,h4⟩:=t i E a U;exact⟨h3,(c i E).2.1.ok h4⟩
  ·refine⟨?_,(l i h e a).2⟩;rw[(l i h e a).1];exact(c i (N i h e).2).2.1.ref
 |dead=>trivial
theorem eN.own {β:Bd} {id b:Nat} {x y:AO} (h:eN x y) (a:dG β id x b):dG β id y b:=by
 cases x with
 |row e A m g=>
  cases y<;>simp only[eN] at h<;>first|exact h.elim|skip
  exact a
 |cells e z=>
  cases y<;>simp only[eN] at h<;>first|exact h.elim|skip
  exact a
 |mp m c val j f=>
  cases y<;>simp only[eN] at h<;>first|exact h.elim|skip
  exact a
 |it mid l k=>
  cases y<;>simp only[eN] at h<;>first|exact h.elim|skip
  exact a
 |ir m c val k q=>
  cases y<;>simp only[eN] at h<;>first|exact h.elim|skip
  exact a
 |mr m c w j f t n=>
  cases y<;>simp only[eN] at h<;>first|exact h.elim|skip
  obtain⟨rfl,rfl,rfl,rfl,_⟩:=h;exact a
 |dead=>cases a
def rn:List (Nat×Nat)->Nat->Nat
 |[],i=>i
 |(x,y)::r,i=>match Nat.beq x i with
  |true=>y
  |false=>rn r i
def EF (ρ:List (Nat×Nat)) (m:Nat):List KE->List KE->Prop
 |[],_=>True
 |⟨s,g,c⟩::r,a=>(g=[]/\c.lt m=true/\(match lG s a with
   |some ([],e)=>eV (c.ren (rn ρ)) e
   |_=>False))/\EF ρ m r a
def AO.ltP (m:Nat):AO->Prop
 | .cells _ c=>AV.lts m c=true
 | .it mid _ _=>Nat.blt mid m=true
 | .mr _ _ _ _ _ a none=>Nat.blt a m=true
 | .mr _ _ _ _ _ a (some (_,h))=>Nat.blt a m=true/\Nat.blt h m=true
 |_=>True
def AO.ltB (m:Nat):AO->Bool
 | .cells _ c=>AV.lts m c
 | .it mid _ _=>Nat.blt mid m
 | .mr _ _ _ _ _ a none=>Nat.blt a m
 | .mr _ _ _ _ _ a (some (_,h))=>(match Nat.blt a m with
  |true=>Nat.blt h m
  |false=>false)
 |_=>true
theorem AO.ltB_iff {m:Nat} {o:AO} (h:o.ltB m=true):o.ltP m:=by
  unfold AO.ltB at h
  unfold AO.ltP
  split at h<;>first
    |exact h
    |trivial
    | (split at h
       · rename_i a;exact⟨a,h⟩
       · cases h)
    |(split<;>first|trivial|(rename_i a c e f;first|exact(a _ _ rfl).elim|exact(c _ _ _ rfl).elim|exact(e _ _ _ _ _ _ rfl).elim|exact(f _ _ _ _ _ _ _ _ rfl).elim))
def Gb (ρ:List (Nat×Nat)) (m:Nat):List OE->List OE->Prop
 |[],_=>True
 |⟨i,g,o⟩::r,a=>(g=[]/\Nat.blt i m=true/\o.ltP m/\(match o,fK (rn ρ i) a with
   | .dead,_=>True
   |o,some ([],c)=>eN (o.ren (rn ρ)) c
   |_,_=>False))/\Gb ρ m r a
def Tp (ρ:List (Nat×Nat)) (i:Nat):List OE->Bool
 |[]=>true
 |e::r=>match Nat.beq (rn ρ e.id) (rn ρ i) with
  |true=>false
  |false=>Tp ρ i r
def inj (ρ:List (Nat×Nat)):List OE->Bool
 |[]=>true
 |e::r=>match Tp ρ e.id r with
  |true=>inj ρ r
  |false=>false
def idm (m:Nat):List (Nat×Nat)->Bool
 |[]=>true
 |(x,y)::r=>match Nat.ble m x,Nat.beq x y with
  |false,false=>false
  |_,_=>idm m r
theorem EG {m:Nat}: ∀{ρ:List (Nat×Nat)},idm m ρ=true-> ∀i,i<m->rn ρ i=i
 |[],_,i,_=>rfl
 |(x,y)::r,h,i,e=>by
  unfold idm at h;unfold rn;split
  ·rename_i a;have a:x=i:=by simpa using a
   subst a;split at h
   ·cases h
   ·rename_i j k g;cases c:Nat.beq x y
    ·have:Nat.ble m x=false:=by
      cases f:Nat.ble m x
      ·rfl
      ·simp at f;omega
     exact(g this c).elim
    ·simpa using(show x=y by simpa using c).symm
  ·split at h
   ·cases h
   ·exact EG h i e
def EH (m:Nat) (ρ:List (Nat×Nat)) (O:List OE):Bool:=
 match idm m ρ with
 |true=>inj ρ O
 |false=>false
theorem EI {m:Nat} {ρ:List (Nat×Nat)} {O:List OE} (h:EH m ρ O=true):idm m ρ=true/\inj ρ O=true:=by
 unfold EH at h;split at h
 ·rename_i a;exact⟨a,h⟩
 ·cases h
def Cs (m:Nat) (ρ:List (Nat×Nat)) (x y:St):Prop:=
 match x,y with
 |⟨K,O,n⟩,⟨a,c,_⟩=>EF ρ n K a/\Gb ρ n O c/\EH m ρ O=true
theorem EF.get {ρ:List (Nat×Nat)} {m:Nat}: ∀{K c:List KE},EF ρ m K c-> ∀s g av,lG s K=some (g,av)->g=[]/\av.lt m=true/\ ∃a,lG s c=some ([],a)/\eV (av.ren (rn ρ)) a
 |[],_,_,s,g,av,h=>by simp[lG] at h
 |⟨t,w,q⟩::r,c,j,s,g,av,h=>by
  unfold lG at h;split at h
  ·rename_i f;have f:t=s:=by simpa using f
   subst f;simp only[dT,iF] at h;obtain⟨rfl,rfl⟩:=h;obtain⟨⟨k,l,e⟩,_⟩:=j;refine⟨k,l,?_⟩;split at e
   ·rename_i a n;exact⟨a,n,e⟩
   ·exact e.elim
  ·exact EF.get j.2 s g av h
theorem Gb.get {ρ:List (Nat×Nat)} {m:Nat}: ∀{O O':List OE},Gb ρ m O O'-> ∀i g o,fK i O=some (g,o)->g=[]/\i<m/\o.ltP m/\(o= .dead\/ ∃a,fK (rn ρ i) O'=some ([],a)/\eN (o.ren (rn ρ)) a)
 |[],_,_,i,g,o,h=>by simp[fK] at h
 |⟨t,q,w⟩::r,O',e,i,g,o,h=>by
  rw[uU] at h;split at h
  ·rename_i l;subst l;cases h;obtain⟨⟨f,j,k,c⟩,_⟩:=e;refine⟨f,uF j,k,?_⟩;split at c
   ·exact .inl rfl
   ·rename_i a _ n;exact .inr ⟨a,n,c⟩
   ·exact c.elim
  ·exact Gb.get e.2 i g o h
theorem gm {ρ:List (Nat×Nat)} {i:Nat}: ∀{O:List OE},Tp ρ i O=true-> ∀j g o,fK j O=some (g,o)->rn ρ j≠rn ρ i
 |[],_,j,g,o,h=>by simp[fK] at h
 |⟨t,k,l⟩::r,a,j,g,o,h=>by
  unfold Tp at a;split at a
  ·cases a
  ·rename_i f;unfold fK at h;split at h
   ·rename_i c;have c:t=j:=by simpa using c
    subst c;intro e;dsimp only at f;rw[e] at f;simp at f
   ·exact gm a j g o h
theorem Ct {ρ:List (Nat×Nat)}: ∀{O:List OE},inj ρ O=true-> ∀i j g e o f,fK i O=some (g,o)->fK j O=some (e,f)->rn ρ i=rn ρ j->i=j
 |[],_,i,j,g,e,o,f,h,_,_=>by simp[fK] at h
 |⟨t,w,x⟩::r,l,i,j,g,e,o,f,h,k,n=>by
  unfold inj at l;split at l
  ·rename_i q;dsimp only at q;unfold fK at h k;split at h<;>split at k
   ·rename_i c _ a;have c:t=i:=by simpa using c
    have a:t=j:=(by simpa using a);omega
   ·rename_i c _ a;have c:t=i:=by simpa using c
    subst c;exact absurd n.symm (gm q j e f k)
   ·rename_i c _ a;have a:t=j:=by simpa using a
    subst a;exact absurd n (gm q i g o h)
   ·exact Ct l i j g e o f h k n
  ·cases l
theorem lV.unre {β:Bd} {n m:Nat} {F M:Nat->Prop} {ρ:Nat->Nat} {i:Nat} {o:AO} (h:lV β n F w (ρ i) (o.ren ρ)) (E:o.ltP m) (H: ∀b,¬F b-> ¬M b):lV ⟨λid=>β.blk (ρ id),λid=>β.val (ρ id)⟩ m M w i o:=by
 have st: ∀{x:AV} {v:Value},Rep0 F w x v->Rep0 M w x v:=λh=>h.stable (λb _=>H b) (λ_ _ _=>rfl) (aG _);cases o with
 |cells e cs=>obtain⟨vs,l,aC,f⟩:=h;exact⟨vs,l,by rw[<-aC,AV.length_rens],λj c a=>⟨((f j (by rw[AV.length_rens];exact c) a).1.ren' _ (AV.rens_get _ cs j _ c).symm (AV.lts_get E j c)).stable (λb _=>H b) (λ_ _ _=>rfl) (aG _),(f j (by rw[AV.length_rens];exact c) a).2⟩⟩
 |row e sz m g=>obtain⟨xs,hx,a0,f⟩:=h;exact⟨xs,hx,a0,λk j D c a=>⟨st (f k j D c a).1,(f k j D c a).2⟩⟩
 |mp m L val O G=>obtain⟨A,l,q,t,f⟩:=h;exact⟨A,l,q,t,λi c a=>⟨st (f i c a).1,st (f i c a).2.1,(f i c a).2.2⟩⟩
 |it mid a3 a1=>obtain⟨q,l⟩:=h;exact⟨uF E,l⟩
 |ir m L val a1 a4=>obtain⟨g,A,G,sn,l,q,t,ct,Y,f,aO⟩:=h;exact⟨g,A,G,sn,l,q,t,ct,λb hb=>⟨H b (Y b hb).1,(Y b hb).2⟩,λi c a=>⟨st (f i c a).1,st (f i c a).2.1,(f i c a).2.2⟩,aO⟩
 |mr k L S O G P K=>
  obtain⟨aL,e1,z,e3,W⟩:=AO.ren_mr' ρ k L S O G P K;rw[e1] at h;obtain⟨_,bv,A,l,q,t,U,D,hd,a2,hr⟩:=h;have Q:P<m/\ ∀i h,K=some (i,h)->h<m:=by
   cases K with
   |none=>exact⟨uF E,λ_ _ e=>by cases e⟩
   |some p=>obtain⟨j,h⟩:=p;exact⟨uF E.1,λ_ _ e=>by cases e;exact uF E.2⟩
  exact⟨Q.1,λi h e=>⟨Q.2 i h e,(bv i _ (W i h e)).2⟩,A,l,q,t,λi C a=>⟨st (U i C a).1,(U i C a).2⟩,
   λi C a R=>⟨(D i C a ((z i).2 R)).1,(D i C a ((z i).2 R)).2.stable (λb _=>H b) (λ_ _ _=>rfl) (aG _) λ_ _=>rfl⟩,
   λi j g c a N h4=>hd i j g c a ((z i).2 N) ((z j).2 h4),λi j c a N=>a2 i j c a ((z i).2 N),λi h e a=>by
    have:=hr i _ (W i h e) a;refine⟨?_,this.2⟩;rw[this.1];cases S i<;>rfl⟩
 |dead=>trivial
def Xh (C:Cx) (ρ:List (Nat×Nat)) (O:List OE) (n:Nat):Prop:= ∀k,tS k C.lo=true->rn ρ k=k/\k<n/\ ∃p,fK k O=some p
theorem Xh.nil (h:C.lo=[]) {ρ:List (Nat×Nat)} {O:List OE} {n:Nat}:Xh C ρ O n:=λk a=>by rw[Hl h] at a;cases a
theorem SimF.leO {ρ:List (Nat×Nat)} {K:KF} {q x:List OE} {E yn:Nat} {β:Bd} (F:Xh C ρ q E) (hm:C.m<=E) (P:Gb ρ E q x) (hi:EH C.m ρ q=true) (S:SimF C K (λid=>fK id x) yn β a w):
  SimF C (λ_=>none) (λid=>fK id q) E ⟨λid=>β.blk (rn ρ id),λid=>β.val (rn ρ id)⟩ a w/\ ∀b,FO C.G (λid=>fK id q) ⟨λid=>β.blk (rn ρ id),λid=>β.val (rn ρ id)⟩ a b->FO C.G (λid=>fK id x) β a b:=by
 obtain⟨Q,hi⟩:=EI hi
 let z:Bd:=⟨λid=>β.blk (rn ρ id),λid=>β.val (rn ρ id)⟩
 have R: ∀(i:Nat) (o:AO),dG z i o=dG β (rn ρ i) (o.ren (rn ρ)):=λi o=>(A1 (β:=z) (β':=β) (j:=i) (j':=rn ρ i) (o:=o) (rn ρ) nT λ_ _=>rfl).symm;have D: ∀id g o b,fK id q=some (g,o)->dG z id o b-> ∃c,fK (rn ρ id) x=some ([],c)/\dG β (rn ρ id) c b:=λid g o b e n=>by
  obtain⟨_,_,_,h|⟨c,f,l⟩⟩:=P.get id g o e
  ·subst h;cases n
  ·exact⟨c,f,l.own (by rw[<-R];exact n)⟩
 have M: ∀b,FO C.G (λid=>fK id q) z a b->FO C.G (λid=>fK id x) β a b:=by
  rintro b (hg|⟨id,g,o,e,hs,n⟩)
  ·exact .inl hg
  ·obtain⟨c,f,l⟩:=D id g o b e n;exact .inr ⟨_,[],c,f,gG a,l⟩
 refine⟨⟨S.gold,S.dj,S.below,S.tsz,S.dfs,⟨λid A=>(by simp only[EG Q id A];exact S.ag.1 id A),hm⟩,⟨λid h=>(F id h).2.1,S.lk.2⟩,λs g av h=>jC,λid g o e=> ?_,λid g o b e hs n=> ?_,λid H g O o c b e N _ _ n Y=> ?_⟩,M⟩
 ·obtain⟨rfl,A,t,h⟩:=P.get id g o e;refine⟨A,λ_=> ?_⟩;rcases h with rfl|⟨c,f,l⟩
  ·trivial
  ·exact(l.ok ((S.of _ [] c f).2 (gG a))).unre t λb hn hf=>hn (M b hf)
 ·obtain⟨c,f,l⟩:=D id g o b e n;have:=S.allow _ [] c b f (gG a) l;cases t:tS id C.lo with
  |true=>rw[(F id t).1,t] at this;exact⟨λh=>jC,λ_=>this.2 rfl⟩
  |false=>
   refine⟨λ_=>this.1 ?_,λh=>jC⟩;cases L:tS (rn ρ id) C.lo with
   |false=>rfl
   |true=>obtain⟨h3,_,p,h4⟩:=F _ L;rw[Ct hi id (rn ρ id) g p.1 o p.2 e h4 h3.symm,L] at t;cases t
 ·obtain⟨p,f,l⟩:=D id g o b e n;obtain⟨p',U,W⟩:=D H O c b N Y;exact Ct hi id H g O o c e N (S.dist _ _ [] [] p p' b f U (gG a) (gG a) l W)
theorem wU.le {ρ:List (Nat×Nat)} {x y:St} (l:Xh C ρ x.O x.nid) (h:Cs C.m ρ x y) (F:C.m<=x.nid) (S:wU C y a w):wU C x a w:=by obtain⟨G,H,K⟩:=x;obtain⟨L,M,N⟩:=y;obtain⟨q,t,A⟩:=h;obtain⟨P,S⟩:=S;obtain⟨j,k⟩:=S.leO l F t A;refine⟨_,j.withK λs g e D=> ?_⟩;obtain⟨rfl,E,n,c,z⟩:=q.get s g e D;exact⟨λ_=>((eV.rep z ((S.kf s [] n c).1 (gG a))).ren' e rfl E).stable (λb _ f c=>f (k b c)) (λ_ _ _=>rfl) (aG _),λf=>(f (gG a)).elim⟩
def UE (s:Nat):List Nat->Bool
 |[]=>false
 |t::r=>match Nat.beq t s with
  |true=>true
  |false=>UE s r
def yQ:List Nat->List KE->List KE
 |_,[]=>[]
 |W,⟨s,[],a⟩::r=>(match UE s W with
  |true=>yQ W r
  |false=>⟨s,[],a⟩::yQ (s::W) r)
 |W,⟨s,_::_,_⟩::r=>yQ (s::W) r
def xX:List Nat->List OE->List OE
 |_,[]=>[]
 |W,⟨s,[],a⟩::r=>(match UE s W with
  |true=>xX W r
  |false=>⟨s,[],a⟩::xX (s::W) r)
 |W,⟨s,_::_,_⟩::r=>xX (s::W) r
def y3:List Nat->List KE->(List KE->Prop)->Prop
 |_,[],k=>k []
 |W,⟨s,[],a⟩::r,k=>(match UE s W with
  |true=>y3 W r k
  |false=>y3 (s::W) r λl=>k (⟨s,[],a⟩::l))
 |W,⟨s,_::_,_⟩::r,k=>y3 (s::W) r k
def y4:List Nat->List OE->(List OE->Prop)->Prop
 |_,[],k=>k []
 |W,⟨s,[],a⟩::r,k=>(match UE s W with
  |true=>y4 W r k
  |false=>y4 (s::W) r λl=>k (⟨s,[],a⟩::l))
 |W,⟨s,_::_,_⟩::r,k=>y4 (s::W) r k
def gn:List KE->List Nat
 |[]=>[]
 |e::r=>e.slot::gn r
def Ob:List OE->List Nat
 |[]=>[]
 |e::r=>e.id::Ob r
def Hm:List Nat->List Nat->List Nat
 |[],m=>m
 |a::r,m=>a::Hm r m
def T5:List KE->List KE->List KE
 |[],m=>m
 |a::r,m=>a::T5 r m
def Oc:List OE->List OE->List OE
 |[],m=>m
 |a::r,m=>a::Oc r m
theorem D2: ∀{W:List Nat} {K:List KE} {k:List KE->Prop},y3 W K k->k (yQ W K)
 |_,[],_,h=>h
 |W,⟨s,[],a⟩::r,k,h=>by
  cases c:UE s W with
  |true=>
   have e:yQ W (⟨s,[],a⟩::r)=yQ W r:=(by simp[yQ,c]);have f:y3 W r k:=by simpa [y3,c] using h
   rw[e];exact D2 f
  |false=>
   have e:yQ W (⟨s,[],a⟩::r)=⟨s,[],a⟩::yQ (s::W) r:=(by simp[yQ,c]);have f:y3 (s::W) r (λl=>k (⟨s,[],a⟩::l)):=by simpa [y3,c] using h
   rw[e];exact D2 (K:=r) f
 |W,⟨s,_::_,_⟩::r,k,h=>by unfold y3 at h;unfold yQ;exact D2 h
theorem D3: ∀{W:List Nat} {K:List OE} {k:List OE->Prop},y4 W K k->k (xX W K)
 |_,[],_,h=>h
 |W,⟨s,[],a⟩::r,k,h=>by
  cases c:UE s W with
  |true=>
   have e:xX W (⟨s,[],a⟩::r)=xX W r:=(by simp[xX,c]);have f:y4 W r k:=by simpa [y4,c] using h
   rw[e];exact D3 f
  |false=>
   have e:xX W (⟨s,[],a⟩::r)=⟨s,[],a⟩::xX (s::W) r:=(by simp[xX,c]);have f:y4 (s::W) r (λl=>k (⟨s,[],a⟩::l)):=by simpa [y4,c] using h
   rw[e];exact D3 (K:=r) f
 |W,⟨s,_::_,_⟩::r,k,h=>by unfold y4 at h;unfold xX;exact D3 h
def aI8 (W:List Nat) (u:List KE) (a:List OE) (st:St):St:=
 match st with
 |⟨K,O,c⟩=>⟨T5 u (yQ (Hm (gn u) W) K),Oc a (xX (Ob a) O),c⟩
def WE (W:List Nat) (u:List KE) (a:List OE) (st:St) (k:St->Prop):Prop:=
 match st with
 |⟨K,O,c⟩=>y3 (Hm (gn u) W) K λe=>y4 (Ob a) O λf=>k ⟨T5 u e,Oc a f,c⟩
theorem Hn {W:List Nat} {u:List KE} {a:List OE} {st:St} {k:St->Prop} (h:WE W u a st k):k (aI8 W u a st):=by obtain⟨K,O,c⟩:=st;exact D3 (D2 h)
def Cu (a:List KE):List KE->List (Option (List (Nat×Bool)×AV))
 |[]=>[]
 |e::r=>lG e.slot a::Cu a r
def Tq (ρ:List (Nat×Nat)):List KE->List (Option (List (Nat×Bool)×AV))
 |[]=>[]
 |e::r=>some ([],e.av.ren (rn ρ))::Tq ρ r
def Tr (ρ:List (Nat×Nat)) (O':List OE):List OE->List (Option (List (Nat×Bool)×AO))
 |[]=>[]
 |e::r=>fK (rn ρ e.id) O'::Tr ρ O' r
def Ts (ρ:List (Nat×Nat)):List OE->List (Option (List (Nat×Bool)×AO))
 |[]=>[]
 |e::r=>some ([],e.o.ren (rn ρ))::Ts ρ r
def ltK (m:Nat):List KE->Bool
 |[]=>true
 |e::r=>match AV.lt m e.av with
  |true=>ltK m r
  |false=>false
def ltO (m:Nat):List OE->Bool
 |[]=>true
 |⟨i,_,o⟩::r=>(match Nat.blt i m,o.ltB m with
  |true,true=>ltO m r
  |_,_=>false)
def Ho (ρ:List (Nat×Nat)) (a:List KE):List KE->Prop
 |[]=>True
 |[e]=>(match e.tags,lG e.slot a with
  |[],some ([],c)=>eV (e.av.ren (rn ρ)) c
  |_,_=>False)
 |e::r=>(match e.tags,lG e.slot a with
  |[],some ([],c)=>eV (e.av.ren (rn ρ)) c/\Ho ρ a r
  |_,_=>False)
def varsO (ρ:List (Nat×Nat)) (O':List OE):List OE->Prop
 |[]=>True
 |[e]=>(match e.tags,fK (rn ρ e.id) O' with
  |[],some ([],a)=>eN (e.o.ren (rn ρ)) a
  |_,_=>False)
 |e::r=>(match e.tags,fK (rn ρ e.id) O' with
  |[],some ([],a)=>eN (e.o.ren (rn ρ)) a/\varsO ρ O' r
  |_,_=>False)
structure ToS (m:Nat) (W:List Nat) (ρ:List (Nat×Nat)) (u:List KE) (ou:List OE) (K K':List KE) (O O':List OE) (nid:Nat):Prop where
 same:Cu K' (yQ (Hm (gn u) W) K)=Tq ρ (yQ (Hm (gn u) W) K)
 sameO:Tr ρ O' (xX (Ob ou) O)=Ts ρ (xX (Ob ou) O)
 lts:ltK nid (T5 u (yQ (Hm (gn u) W) K))=true
 ltsO:ltO nid (Oc ou (xX (Ob ou) O))=true
 inj:EH m ρ (Oc ou (xX (Ob ou) O))=true
 vars:Ho ρ K' u
 varsO:varsO ρ O' ou
def aI9 (m:Nat) (W:List Nat) (ρ:List (Nat×Nat)) (u:List KE) (g:List OE) (st c:St):Prop:=
 match st,c with
 |⟨K,O,a⟩,⟨e,f,_⟩=>ToS m W ρ u g K e O f a
theorem D4: ∀(W:List Nat) (K:List KE),∀e∈yQ W K,e.tags=[]
 |_,[],e,h=>by simp[yQ] at h
 |W,⟨s,[],a⟩::r,e,h=>by
  unfold yQ at h;split at h
  ·exact D4 W r e h
  ·rcases eF.1 h with rfl|h
   ·rfl
   ·exact D4 _ r e h
 |W,⟨s,_::_,_⟩::r,e,h=>by unfold yQ at h;exact D4 _ r e h
theorem D5: ∀(W:List Nat) (K:List OE),∀e∈xX W K,e.tags=[]
 |_,[],e,h=>by simp[xX] at h
 |W,⟨s,[],a⟩::r,e,h=>by
  unfold xX at h;split at h
  ·exact D5 W r e h
  ·rcases eF.1 h with rfl|h
   ·rfl
   ·exact D5 _ r e h
 |W,⟨s,_::_,_⟩::r,e,h=>by unfold xX at h;exact D5 _ r e h
theorem EF.cat {ρ:List (Nat×Nat)} {m:Nat} {j:List KE}: ∀{u K:List KE},Ho ρ j u->Cu j K=Tq ρ K->(∀e∈K,e.tags=[])->ltK m (T5 u K)=true->EF ρ m (T5 u K) j
 |[],[],_,_,_,_=>trivial
 |[],e::r,_,h,f,a=>by
  simp only[T5] at a|-;unfold ltK at a;split at a
  ·rename_i g;simp only[Cu,Tq,lS] at h;refine⟨⟨f e jS,g,?_⟩,?_⟩
   ·rw[h.1];exact eV.refl _
   ·have:=EF.cat (u:=[]) (K:=r) trivial h.2 (λe w=>f e (by simp[w])) (by simpa [T5] using a);simpa [T5] using this
  ·cases a
 |[e],K,c,h,f,a=>by
  simp only[T5] at a|-;unfold ltK at a;split at a
  ·rename_i g;unfold Ho at c;split at c
   ·rename_i q n l;refine⟨⟨n,g,?_⟩,?_⟩
    ·rw[l];exact c
    ·have:=EF.cat (u:=[]) (K:=K) (m:=m) trivial h f (by simpa [T5] using a);simpa [T5] using this
   ·exact c.elim
  ·cases a
 |e::t::r,K,c,h,f,a=>by
  simp only[T5] at a|-;unfold ltK at a;split at a
  ·rename_i g;unfold Ho at c;split at c
   ·rename_i q n l;refine⟨⟨n,g,?_⟩,?_⟩
    ·rw[l];exact c.1
    ·have:=EF.cat (u:=t::r) (K:=K) (m:=m) c.2 h f (by simpa [T5] using a);simpa [T5] using this
   ·exact c.elim
  ·cases a
theorem Gb.one {ρ:List (Nat×Nat)} {m:Nat} {O':List OE} {e:OE} {r:List OE} {k:AO} (j:e.tags=[]) (f:fK (rn ρ e.id) O'=some ([],k)) (c:eN (e.o.ren (rn ρ)) k) (a:ltO m (e::r)=true)
  (h:ltO m r=true->Gb ρ m r O'):Gb ρ m (e::r) O':=by
 obtain⟨i,g,o⟩:=e;simp only at j f c;unfold ltO at a;split at a
 ·rename_i l n;refine⟨⟨j,l,AO.ltB_iff n,?_⟩,h a⟩;rw[f];cases o<;>first|exact c|trivial
 ·cases a
theorem Gb.cat {ρ:List (Nat×Nat)} {m:Nat} {O':List OE}: ∀{u O:List OE},Go.Eng.varsO ρ O' u->Tr ρ O' O=Ts ρ O->(∀e∈O,e.tags=[])->ltO m (Oc u O)=true->Gb ρ m (Oc u O) O'
 |[],[],_,_,_,_=>trivial
 |[],e::r,_,h,c,f=>by simp only[Tr,Ts,lS] at h;refine Gb.one (c e jS) h.1 (eN.refl _) f λl=> ?_;exact Gb.cat (u:=[]) (O:=r) trivial h.2 (λe q=>c e (by simp[q])) l
 |[e],O,a,h,c,f=>by
  unfold Go.Eng.varsO at a;split at a
  ·rename_i t j g;refine Gb.one j g a f λl=> ?_;exact Gb.cat (u:=[]) (O:=O) trivial h c l
  ·exact a.elim
 |e::n::r,O,a,h,c,f=>by
  unfold Go.Eng.varsO at a;split at a
  ·rename_i t j g;refine Gb.one j g a.1 f λl=> ?_;exact Gb.cat (u:=n::r) (O:=O) a.2 h c l
  ·exact a.elim
theorem OJ (W:List Nat) (u:List KE) (a:List OE) (st:St):(aI8 W u a st).nid=st.nid:=by obtain⟨K,O,c⟩:=st;rfl
theorem WF {m:Nat} {W:List Nat} {ρ:List (Nat×Nat)} {u:List KE} {c:List OE} {st a:St} (h:aI9 m W ρ u c st a):Cs m ρ (aI8 W u c st) a:=by obtain⟨K,O,e⟩:=st;obtain⟨f,g,j⟩:=a;exact⟨EF.cat h.vars h.same (D4 _ _) h.lts,Gb.cat h.varsO h.sameO (D5 _ _) h.ltsO,h.inj⟩
theorem Hp {s:Nat} (h:s<a.tmps.size):a.put (some s) (a.tmps.getD s undef)=a:=by obtain⟨tmps,c⟩:=a;simp only at h;simp only[Act.put,Act.mk.injEq,and_true,jF,fS h,rN];rw[Array.setIfInBounds_def,rG h];simp
theorem Od {s:Nat} {v:Value} {K:List KE} {O:List OE} {nid:Nat} {β β':Bd} {e:Eff} {k:St->Prop} (S:SimF C (λs=>lG s K) (λid=>fK id O) nid β a w) (t:a.tmps.getD s undef=v)
  (l:uG β β' nid (FO C.G (λid=>fK id O) β a) (Y3 O []) w w v e) (h:k5 C.N C.lo (some s) [] K O nid e k): ∃c,k c/\wU C c a w:=by
 have j:s<a.tmps.size:=by obtain⟨_,x,_,_,_,_,n⟩:=D0 (λid g o h=>(S.of id g o h).1) h;rw[S.tsz];exact(n s rfl).1
 obtain⟨c,q,f,_⟩:=gl (dst:=some s) (gG a) S l h;rw[<-t,Hp j] at f;exact⟨c,q,β',f⟩
def Xi (N:Nat):List (Nat×TypeId×Nat)->St->(St->Prop)->Prop
 |[],st,k=>k st
 |(s,e,c)::r,⟨K,O,a⟩,k=>(match lG s K with
  |some ([],.val v)=>(match m5 v with
   |true=>k5 N [] (some s) [] K O a (.ext [.row e c 0 λ_=>[]] (.so a)) λst=>Xi N r st k
   |false=>False)
  |_=>False)
theorem Y4 (n:C.lo=[]): ∀{l:List (Nat×TypeId×Nat)} {st:St} {k:St->Prop},Xi C.N l st k->wU C st a w-> ∃c,k c/\wU C c a w
 |[],st,k,h,S=>⟨st,h,S⟩
 |(s,e,t)::r,⟨K,O,E⟩,k,h,S=>by
  unfold Xi at h;split at h
  ·rename_i v z;split at h
   ·rename_i D;obtain⟨F,S⟩:=S;have q:=((S.kf s [] _ z).1 (gG a)).val_inv;rw[iX D] at q;rw[<-n] at h;obtain⟨c,f,x⟩:=Od S q (.row e t 0 _ _ [] (Below.refl _ _) (kT.of_owns (World.ownsRow_nil w w.heap.size e t)).1 (λg A=>by cases A) (λk f=>J) (λk j f=>J)) h;exact Y4 n f x
   ·cases h
  ·cases h
end
end Go.Eng
