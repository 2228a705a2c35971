/-
  TopDelivered returns true whatever the input, and the input reads behind the call as it read before, where the three listed tables of Go's library hold what the program's text lays: a part of the proof.
-/
import Derived.Deep.LoopGhost
import Derived.Test.YtpnjmojpeaegoaaGreatDoorN7
set_option linter.unusedSimpArgs false
set_option linter.unusedVariables false
namespace Go.Eng
open Go.RowKit
theorem fd.of {P:Program} {t:TypeId} {d:TypeDesc} {a:Bool} {s b:Nat} {z:Value} {f:Bool} (g:P.underlying t=some d) (h:qe d=a)
  (c:(P.info? t).map (λi=>(i.zero,i.size,i.bytes))=some (some z,s,b)):fd P t ⟨d,a,s,b,z,f⟩:=by
 refine⟨g,h,?_⟩;cases e:P.info? t with
 |none=>rw[e] at c;cases c
 |some i=>rw[e] at c;simp at c;exact⟨i,rfl,c.2.1,c.2.2,c.1⟩
def UI (v:Option AV) (p q:Prop):Prop:=
 match v with
 |some (.b c)=>(c=true->p)/\(c=false->q)
 |_=>False
def ES (i j:Nat) (p q:Prop):Prop:=
 match Nat.beq i j with
 |true=>p
 |false=>q
def Cz:List Oper->List Nat
 |[]=>[]
 |o::r=>(match o.dst with
  |some d=>d::Cz r
  |none=>Cz r)
def k6:Code->List Nat
 | .region _ ⟨e⟩ _=>Cz e
 | .seq a b=>Hm (k6 a) (k6 b)
 | .cond _ a b=>Hm (k6 a) (k6 b)
 | .block _ c=>k6 c
 | .loop c=>k6 c
 |_=>[]
def UJ:Code->Bool
 | .seq _ b=>UJ b
 | .cond _ _ _=>true
 | .block _ _=>true
 |_=>false
inductive Gh where
 |own (s:Nat)
 |frz (s:Nat) (ids:List Nat)
 |eq (id:Nat) (o:AO)
 |sl (s:Nat) (b:AV)
 |ex (id:Nat)
 |nl (s:Nat) (e:TypeId) (sz:Nat)
 |nlc (id off:Nat) (e:TypeId) (sz:Nat)
 |mvc (id off:Nat)
 |frc (id off:Nat) (ids:List Nat)
 |mk (id:Nat) (kid:Nat->KD)
 |take (id:Nat)
 |put (id:Nat)
 |nx (id:Nat)
def kdO:KD->AO
 | .row e c n get=> .row e c n get
 | .cells e a=> .cells e a
def oKD:AO->Option KD
 | .row e c n get=>some (.row e c n get)
 | .cells e a=>(match AV.lts 0 a with
  |true=>some (.cells e a)
  |false=>none)
 |_=>none
def Ol:Nat->List AV->Option AV
 |_,[]=>none
 |0,a::_=>some a
 |n+1,_::r=>Ol n r
def s4:Nat->AV->List AV->List AV
 |_,_,[]=>[]
 |0,b,_::r=>b::r
 |n+1,b,a::r=>a::s4 n b r
theorem Da: ∀(n:Nat) (l:List AV),Ol n l=l[n]?
 |n,[]=>by cases n<;>rfl
 |0,a::r=>rfl
 |n+1,a::r=>by simpa [Ol] using Da n r
theorem ry: ∀(n:Nat) (b:AV) (l:List AV),(s4 n b l).length=l.length
 |n,b,[]=>by cases n<;>rfl
 |0,b,a::r=>rfl
 |n+1,b,a::r=>by simp[s4,ry n b r]
theorem Ia: ∀(n:Nat) (b:AV) (l:List AV) (j:Nat) (c:j<(s4 n b l).length) (h2:j<l.length),(s4 n b l)[j]=if j=n then b else l[j]
 |n,b,[],j,_,h2=>by simp at h2
 |0,b,a::r,0,_,_=>rfl
 |0,b,a::r,j+1,_,_=>rfl
 |n+1,b,a::r,0,_,_=>rfl
 |n+1,b,a::r,j+1,c,h2=>by have:=Ia n b r j (by simpa [s4] using c) j2;simpa [s4] using this
def Q0 (i:Nat):List (Nat×List Gh)->List Gh
 |[]=>[]
 |(j,l)::r=>match Nat.beq i j with
  |true=>l
  |false=>Q0 i r
def Xp (O:List OE) (a:List Nat) (id:Nat):Option AO:=
 match tS id a with
 |true=>Y3 O [] id
 |false=>none
def yw:List Nat->List OE->(List OE->Prop)->Prop
 |[],O,k=>k O
 |i::r,O,k=>(match fK i O with
  |some ([],_)=>yw r (⟨i,[],.dead⟩::O) k
  |_=>False)
def Om (N:Nat):Gh->St->(St->Prop)->Prop
 | .own s,⟨K,O,nid⟩,k=>(match lG s K with
  |some ([],.sv id c P n)=>(match fK id O with
   |some ([],.row e H _ get)=>(match Nat.beq H c with
    |true=>Cn N (some s) [] (.so nid) K (⟨nid,[],.row e c n λk=>get (k+P)⟩::⟨id,[],.dead⟩::O) (nid+1) k
    |false=>False)
   |_=>False)
  |some ([],.so id)=>(match fK id O with
   |some ([],.row e c n get)=>Cn N (some s) [] (.so nid) K (⟨nid,[],.row e c n get⟩::⟨id,[],.dead⟩::O) (nid+1) k
   |_=>False)
  |_=>False)
 | .frz s A,⟨K,O,nid⟩,k=>(match lG s K with
  |some ([],a)=>sZ (Xp O A) 60 a λb=>yw A O λE=>Cn N (some s) [] b K E nid k
  |_=>False)
 | .eq id o,⟨K,O,nid⟩,k=>(match fK id O with
  |some ([],D)=>eN o D/\k ⟨K,⟨id,[],o⟩::O,nid⟩
  |_=>False)
 | .sl s b,⟨K,O,nid⟩,k=>(match lG s K with
  |some ([],L)=>eV b L/\Cn N (some s) [] b K O nid k
  |_=>False)
 | .ex id,⟨K,O,nid⟩,k=>(match fK id O with
  |some ([],D)=> ∃o,eN o D/\k ⟨K,⟨id,[],o⟩::O,nid⟩
  |_=>False)
 | .nl s e c,⟨K,O,nid⟩,k=>(match lG s K with
  |some ([],.val _)=>Xi N [(s,e,c)] ⟨K,O,nid⟩ k
  |_=>k ⟨K,O,nid⟩)
 | .nlc id g e c,⟨K,O,nid⟩,k=>(match fK id O with
  |some ([],.cells t z)=>(match Ol g z with
   |some (.val v)=>(match m5 v with
    |true=>k ⟨K,⟨id,[],.cells t (s4 g (.so nid) z)⟩::⟨nid,[],.row e c 0 λ_=>[]⟩::O,nid+1⟩
    |false=>k ⟨K,O,nid⟩)
   |_=>k ⟨K,O,nid⟩)
  |_=>k ⟨K,O,nid⟩)
 | .frc id g A,⟨K,O,nid⟩,k=>(match fK id O with
  |some ([],.cells t z)=>(match Ol g z with
   |some x=>sZ (Xp O A) 60 x λb=>yw A O λE=>(match fK id E with
    |some ([],.cells Q M)=>k ⟨K,⟨id,[],.cells Q (s4 g b M)⟩::E,nid⟩
    |_=>False)
   |none=>False)
  |_=>False)
 | .mvc id g,⟨K,O,nid⟩,k=>(match fK id O with
  |some ([],.cells t z)=>(match Ol g z with
   |some (.so i)=>(match fK i O with
    |some ([],.row e c n get)=>k ⟨K,⟨id,[],.cells t (s4 g (.so nid) z)⟩::⟨nid,[],.row e c n get⟩::⟨i,[],.dead⟩::O,nid+1⟩
    |_=>k ⟨K,O,nid⟩)
   |_=>k ⟨K,O,nid⟩)
  |_=>k ⟨K,O,nid⟩)
 | .mk id f,⟨K,O,nid⟩,k=>(match fK id O with
  |some ([],.mp n w _ q l)=>n=0/\k ⟨K,⟨id,[],.mr 0 w f q l nid none⟩::⟨nid,[],.dead⟩::O,nid+1⟩
  |_=>k ⟨K,O,nid⟩)
 | .take id,⟨K,O,nid⟩,k=>(match fK id O with
  |some ([],.mr n w f q l G none)=>(∃i,i<n/\k ⟨K,⟨id,[],.mr n w f q l G (some (i,nid))⟩::⟨nid,[],kdO (f i)⟩::O,nid+1⟩)\/k ⟨K,O,nid⟩
  |_=>k ⟨K,O,nid⟩)
 | .put id,⟨K,O,nid⟩,k=>(match fK id O with
  |some ([],.mr n w f q l _ (some (i,h)))=>(match fK h O with
   |some ([],o)=>(match oKD o with
    |some F=> ∃C,((∀j,j<n->j≠i->C j=f j)/\A5 F (C i)/\gf (f i) h=gf F h)/\k ⟨K,⟨id,[],.mr n w C q l nid none⟩::⟨nid,[],.dead⟩::⟨h,[],.dead⟩::O,nid+1⟩
    |none=>False)
   |_=>False)
  |_=>k ⟨K,O,nid⟩)
 | .nx id,⟨K,O,nid⟩,k=>(match fK id O with
  |some ([],.mr n w f q l _ none)=>k ⟨K,⟨id,[],.mr n w f q l nid none⟩::⟨nid,[],.dead⟩::O,nid+1⟩
  |_=>k ⟨K,O,nid⟩)
def UK (N:Nat):List Gh->St->(St->Prop)->Prop
 |[],st,k=>k st
 |g::r,st,k=>Om N g st λst=>UK N r st k
section
variable {C : Cx} {P : Program} {T : List (Nat × TI)} {w : World} {N : Nat} {a : Act} {β β' : Bd} {K : List KE} {O L : List OE} {nid Z : Nat}
def On (p:OE->Prop):List OE->Prop
 |[]=>True
 |e::r=>p e/\On p r
theorem On.get {p:OE->Prop}: ∀{l:List OE},On p l-> ∀e∈l,p e
 |_::_,h,e,a=>by
  rcases eF.1 a with rfl|a
  ·exact h.1
  ·exact On.get h.2 e a
def ia (β:Bd):List OE->Prop
 |[]=>True
 |e::r=>On (λa=> ∀b,dG β e.id e.o b-> ¬dG β a.id a.o b) r/\ia β r
theorem ia.get {β:Bd}: ∀{l:List OE},ia β l-> ∀{e a:OE} {b:Nat},e∈l->a∈l->dG β e.id e.o b->dG β a.id a.o b->e=a
 |_::_,h,e,a,b,n,k,f,c=>by
  rcases eF.1 n with rfl|g<;>rcases eF.1 k with rfl|j
  ·rfl
  ·exact(h.1.get a j b f c).elim
  ·exact(h.1.get e g b c f).elim
  ·exact ia.get h.2 g j f c
theorem Ib {id:Nat} {O:List OE}: ∀{L:List OE},fK id (L++O)=Nx (λid=>fK id L) (λid=>fK id O) id
 |[]=>rfl
 |e::r=>by
  have a:=Ib (id:=id) (O:=O) (L:=r);unfold Nx at a|-;dsimp only at a|-;rw[xK,uU,uU];by_cases h:id=e.id
  ·rw[aE h,aE h]
  ·rw[aB h,aB h];exact a
theorem J7 {id:Nat} {g:oS} {o:AO}: ∀{L:List OE},fK id L=some (g,o)->(⟨id,g,o⟩:OE)∈L
 |e::r,h=>by
  rw[uU] at h;by_cases a:id=e.id
  ·rw[aE a] at h;obtain⟨i,t,x⟩:=e;cases a;cases h;exact hX
  ·rw[aB a] at h;exact fZ _ (J7 h)
theorem yx {e:OE}: ∀{L:List OE},e∈L-> ∃p,fK e.id L=some p
 |x::r,h=>by
  rw[uU];by_cases a:e.id=x.id
  ·rw[aE a];exact⟨_,rfl⟩
  ·rw[aB a];rcases eF.1 h with rfl|h
   ·exact absurd rfl a
   ·exact yx h
def ReE (C:Cx) (β β':Bd) (Z:Nat) (a:Act) (w:World) (L O:List OE) (e:OE):Prop:=
 e.tags=[]/\e.id<Z/\(∀b,dG β' e.id e.o b-> ∃i∈L,∃o,fK i.id O=some ([],o)/\dG β i.id o b)/\lV β' Z (FO C.G (λid=>fK id O) β a) w e.id e.o
theorem ReE.dead {i:Nat} (h:i<Z):ReE C β β' Z a w L O ⟨i,[],.dead⟩:=⟨rfl,h,λ_ h=>h.elim,trivial⟩
theorem SimF.reL {K:KF} (S:SimF C K (λid=>fK id O) nid β a w) (n:C.lo=[]) (l:yL nid β β') (f:nid<=Z) (L:List OE) (j:On (ReE C β β' Z a w L O) L) (F:ia β' L):SimF C K (λid=>fK id (L++O)) Z β' a w/\ ∀b,FO C.G (λid=>fK id (L++O)) β' a b->FO C.G (λid=>fK id O) β a b:=
 S.re n l f (λid=>fK id L) (funext λid=>Ib) (λid g o h _=>by
  obtain⟨W,A,D,E⟩:=j.get _ (J7 h);refine⟨λb c=> ?_,λR=>E.stable A (aG _) (λ_ _=>nT) (λb _ f M=>f (R b M)) (λ_ _ _=>rfl) (aG _) (λ_ _=>rfl)⟩;obtain⟨e,H,P,t,x⟩:=D b c;obtain⟨p,N⟩:=yx H;exact⟨e.id,[],P,p,N,t,gG a,x⟩) (λid g o h=>(j.get _ (J7 h)).2.1)
  λid Q g U o Y b h z _ _ c q=>fW OE.id (F.get (J7 h) (J7 z) c q)
theorem SimF.toL {K:List KE} (S:SimF C (λs=>lG s K) (λid=>fK id O) nid β a w) (e:C.lo=[]) (c:yL nid β β') (h:nid<=Z) (L:List OE) (f:On (ReE C β β' Z a w L O) L) (g:ia β' L):wU C ⟨K,L++O,Z⟩ a w:=
 ⟨β',(S.reL e c h L f g).1⟩
theorem SimF.putSame {s:Nat} {b:AV} {k:St->Prop} (S:SimF C (λs=>lG s K) (λid=>fK id O) nid β a w) (j:Rep β nid (FO C.G (λid=>fK id O) β a) w b (a.tmps.getD s undef)) (h:Cn C.N (some s) [] b K O nid k): ∃c,k c/\wU C c a w:=by obtain⟨l,h,g,f⟩:=Hh h;have e:=S.put (some s) [] b (a.tmps.getD s undef) f (λ_=>j) (λn=>(n (gG a)).elim);rw[Hp (by rw[S.tsz];exact(f s rfl).1),<-g] at e;exact⟨_,h,β,e⟩
theorem SimF.eqO {id:Nat} {o e:AO} (S:SimF C (λs=>lG s K) (λid=>fK id O) nid β a w) (g:C.lo=[]) (c:fK id O=some ([],e)) (f:eN o e):wU C ⟨K,⟨id,[],o⟩::O,nid⟩ a w:=
 S.toL g (λ_ _=>nT) (aG _) [⟨id,[],o⟩] ⟨⟨rfl,(S.of id [] _ c).1,λb h=>⟨_,bV.2 rfl,e,c,f.own h⟩,f.ok ((S.of id [] _ c).2 (gG a))⟩,trivial⟩ ⟨trivial,trivial⟩
theorem ic {n z id off:Nat} {F l:Nat->Prop} {t:TypeId} {cs:List AV} {x y:AV} (G:lV β n F w id (.cells t cs)) (D:Ol off cs=some x) (L:β'.blk id=β.blk id) (E: ∀c v,Rep β n F w c v->Rep β' z l w c v)
  (M: ∀(a:List Value) (e:TypeId) (h:off<a.length),w.heap[β.blk id]? =some (.cells a.toArray e (0,0))->Rep β n F w x a[off]->Rep β' z l w y a[off]):lV β' z l w id (.cells t (s4 off y cs)):=by
 obtain⟨a,C,H,K⟩:=G;refine⟨a,by rw[L];exact C,by rw[ry];exact H,λj g A=> ?_⟩;have q:j<cs.length:=by rw[ry] at g;exact g
 rw[Ia off _ cs j g q];have f:=K j q A;by_cases k:j=off
 ·rw[aE k];subst k;rw[Da,bL q] at D;rw[cK D] at f;exact⟨M a t A C f.1,f.2⟩
 ·rw[aB k];exact⟨E _ _ f.1,f.2⟩
theorem yy: ∀{c:List Nat} {O:List OE} {k:List OE->Prop},yw c O k-> ∃O',k O'/\ ∀id,(tS id c=true/\(∃o,fK id O=some ([],o))/\fK id O'=some ([],.dead))\/(tS id c=false/\fK id O'=fK id O)
 |[],O,k,h=>⟨O,h,λ_=> .inr nT⟩
 |i::r,O,k,h=>by
  unfold yw at h;split at h
  ·rename_i j g;obtain⟨O',h,f⟩:=yy h;refine⟨O',h,λid=> ?_⟩;have a:=f id;rw[uU] at a;unfold tS;by_cases e:id=i
   ·subst e;rw[show Nat.beq id id=true by simp];refine .inl ⟨rfl,⟨j,g⟩,?_⟩;rw[aE rfl] at a;rcases a with a|a
    ·exact a.2.2
    ·exact a.2
   ·rw[show Nat.beq id i=false from lO.2 λl=>e (kN l)];rw[aB e] at a;exact a
  ·cases h
theorem SimF.frz {c:List Nat} {x:AV} {v:Value} {k:AV->List OE->Prop} (S:SimF C (λs=>lG s K) (λid=>fK id O) nid β a w) (W:C.lo=[]) (hv:Rep β nid (FO C.G (λid=>fK id O) β a) w x v)
  (h:sZ (Xp O c) 60 x λb=>yw c O (k b)): ∃b O',k b O'/\SimF C (λs=>lG s K) (λid=>fK id O') nid β a w/\Rep0 (FO C.G (λid=>fK id O') β a) w b v/\ ∀id t o,fK id O'=some (t,o)->o= .dead\/fK id O=some (t,o):=by
 let A:Nat->Prop:=λb=>FO C.G (λid=>fK id O) β a b/\ ∀id o,tS id c=true->fK id O=some ([],o)-> ¬dG β id o b
 have l: ∀{id o},Xp O c id=some o->tS id c=true/\Y3 O [] id=some o:=λ{id o} h=>by
  unfold Xp at h;split at h
  ·rename_i hm;exact⟨hm,h⟩
  ·cases h
 have N: ∀{id o},Y3 O [] id=some o->fK id O=some ([],o):=λ{id o} h=>by
  unfold Y3 at h;split at h
  ·rename_i g M q;cases g with
   |nil=>simp[wI] at h;rw[q,h]
   |cons p r=>simp[wI,R5] at h
  ·cases h
 obtain⟨b,h,hb⟩:=(v8 (S.env (zU (O:=O) (gG a))).toEnv (Fa:=A) (λg h=>h.1) (lkv:=Xp O c) (λid o h=>(l h).2) (λid o g L j hF=>hF.2 id o (l L).1 (N (l L).2) j) 60).1 x _ _ hv h;obtain⟨O',h,n⟩:=yy h;obtain⟨R,U⟩:=S.kill W (O':=λid=>fK id O') λid=>(n id).elim (λh=> .inr ⟨⟨_,h.2.1⟩,h.2.2⟩) λh=> .inl h.2;refine⟨b,O',h,R,hb.stable (λg _ hn H=>hn ⟨U g H,λid o P j E=> ?_⟩) (λ_ _ _=>rfl) (aG _),λid t o h=> ?_⟩
 ·rcases H with q|⟨z,Y,M,f,Q,D⟩
  ·exact S.apart j (gG a) E q
  ·dsimp only at f;rcases n z with ⟨_,_,e⟩|⟨F,e⟩
   ·rw[e] at f;cases f;cases D
   ·rw[e] at f;rw[S.dist z id Y [] M o g f j Q (gG a) D E,P] at F;cases F
 ·rcases n id with ⟨_,_,e⟩|⟨_,e⟩<;>rw[e] at h
  ·cases h;exact .inl rfl
  ·exact .inr h
theorem SimF.mkR {id:Nat} {l val:Nat->AV} {q:Nat->KD} {born:Nat->Nat} {f:Nat} (S:SimF C (λs=>lG s K) (λid=>fK id O) nid β a w) (A:C.lo=[]) (t:fK id O=some ([],.mp 0 l val born f)):
  wU C ⟨K,⟨id,[],.mr 0 l q born f nid none⟩::⟨nid,[],.dead⟩::O,nid+1⟩ a w:=by
 obtain⟨x,z⟩:=S.of id [] _ t;obtain⟨D,E,F,G,_⟩:=z (gG a);refine S.toL A (λ_ _=>nT) (eP _) [⟨id,[],.mr 0 l q born f nid none⟩,⟨nid,[],.dead⟩] ⟨⟨rfl,jJ x,λb n=>⟨_,hX,_,t,?_⟩,?_⟩,.dead (gA _),trivial⟩ ⟨⟨λ_ _ h=>h,trivial⟩,trivial,trivial⟩
 ·rcases n with n|⟨i,c,_⟩
  ·exact n
  ·exact absurd c (dU i)
 ·exact⟨gA _,λ_ _ e=>(by cases e),D,E,F,G,λi c=>absurd c (dU i),λi c=>absurd c (dU i),λi j g c=>absurd c (dU i),λi j c=>absurd c (dU i),λ_ _ e=>(by cases e)⟩
theorem xD.obj {F:Nat->Prop} {w:World} {v:Value} {a:KD} (h:xD F w v a) {β:Bd} {n q:Nat} (z:β.val q=v) (l: ∀g,H1 v=some g->β.blk q=g):lV β n F w q (kdO a):=by
 cases a with
 |row e D m get=>rw[<-z] at h;exact h
 |cells e C=>obtain⟨b,A,rfl,t,x,k⟩:=h;exact⟨A,by rw[l b rfl];exact t,x,λj c f=>⟨.pure _ _ (k j c f).1,(k j c f).2⟩⟩
theorem xD.own {F:Nat->Prop} {w:World} {v:Value} {a:KD} (h:xD F w v a) {β:Bd} {q g:Nat} (f:β.val q=v) (c: ∀g,H1 v=some g->β.blk q=g):dG β q (kdO a) g↔H1 v=some g:=by
 cases a with
 |row e l m get=>obtain⟨t,j,_⟩:=h;rw[H7 j];show kI (β.val q)=some g↔_;rw[f]
 |cells e k=>obtain⟨b,n,rfl,_⟩:=h;show β.blk q=g↔_;rw[c b rfl];simp[H1]
theorem xD.ref {F:Nat->Prop} {w:World} {v:Value} {a:KD} (h:xD F w v a) {β:Bd} {q:Nat} (f:β.val q=v) (c: ∀g,H1 v=some g->β.blk q=g):v=xM β a q/\v.oneCell'=true:=by
 cases a with
 |row e l m get=>obtain⟨t,j,_⟩:=h;exact⟨f.symm,j.one⟩
 |cells e k=>obtain⟨b,n,rfl,_⟩:=h;exact⟨by simp only[xM];rw[c b rfl],rfl⟩
theorem MW (j:Nat):tO none j:=λh e=>by cases e
theorem Oo {i h j:Nat} (a:j≠i):tO (some (i,h)) j:=λq e=>a (by cases e;rfl)
theorem SimF.takeR {id i n:Nat} {F:Nat->AV} {t:Nat->KD} {born:Nat->Nat} {D c:Nat} (S:SimF C (λs=>lG s K) (λid=>fK id O) nid β a w) (ai:C.lo=[]) (P:fK id O=some ([],.mr n F t born D c none)) (hi:i<n):
  wU C ⟨K,⟨id,[],.mr n F t born D c (some (i,nid))⟩::⟨nid,[],kdO (t i)⟩::O,nid+1⟩ a w:=by
 obtain⟨E,a2⟩:=S.of id [] _ P;obtain⟨A,_,W,hh,hm,ho,ah,hk,Y,R,_⟩:=a2 (gG a);have nh: ∀j,tO (some (i,nid)) j->j≠i:=λj h e=>h nid (by rw[e]);have a1:i<W.size:=J
 obtain⟨hv,x⟩:=hk i hi a1 (MW i)
 let v:=wt (β.val c) i
 let β':Bd:=(β.valAt nid v).blkAt nid ((H1 v).getD 0)
 have L:β'.val nid=v:=by simp[β',Bd.blkAt,Bd.valAt]
 have H: ∀g,H1 v=some g->β'.blk nid=g:=λg e=>by simp[β',Bd.blkAt,e]
 have l:yL nid β β':=λq hq=>by simp[β',Bd.blkAt,Bd.valAt,yG hq]
 have x:xD (FO C.G (λid=>fK id O) β a) w v (t i):=by rw[hv] at x;exact x
 have a0: ∀b,dG β' id (.mr n F t born D c (some (i,nid))) b->dG β id (.mr n F t born D c none) b:=by
  rintro b (h|⟨j,z,_,M⟩)
  ·exact .inl (by rw[<-(l id E).1];exact h)
  ·exact .inr ⟨j,z,MW j,by rw[<-(l c A).2];exact M⟩
 refine S.toL ai l (eP _) [⟨id,[],.mr n F t born D c (some (i,nid))⟩,⟨nid,[],kdO (t i)⟩] ⟨⟨rfl,jJ E,λb N=>⟨_,hX,_,P,a0 b N⟩,?_⟩,⟨rfl,gA _,λb N=>⟨_,hX,_,P,.inr ⟨i,hi,MW i,(x.own L H).1 N⟩⟩,x.obj L H⟩,trivial⟩ ⟨⟨λb z f=> ?_,trivial⟩,trivial,trivial⟩
 ·refine⟨jJ A,λi' h e=> ?_,W,by rw[(l id E).1];exact hh,hm,ho,ah,λj Q f U=> ?_,?_,?_,λi' h e f=> ?_⟩
  ·cases e;exact⟨gA _,hi⟩
  ·rw[(l c A).2];exact hk j Q f (MW j)
  ·rw[(l c A).2];exact λp r g z f _ _=>Y p r g z f (MW p) (MW r)
  ·rw[(l c A).2,(l id E).1];exact λp r z f _=>R p r z f (MW p)
  ·cases e;rw[hv];exact x.ref L H
 ·have f:=(x.own L H).1 f;rcases z with h|⟨j,Q,U,M⟩
  ·have h:β'.blk id=b:=h;rw[(l id E).1] at h;exact R i i hi hi (MW i) (by rw[h];exact f)
  ·rw[(l c A).2] at M;exact nh j U (Y j i b Q hi (MW j) (MW i) M f)
theorem SimF.putR {id i h n:Nat} {Y:Nat->AV} {F bn:Nat->KD} {born:Nat->Nat} {Q U:Nat} {o:AO} {A:KD} (S:SimF C (λs=>lG s K) (λid=>fK id O) nid β a w) (ai:C.lo=[]) (M:fK id O=some ([],.mr n Y F born Q U (some (i,h)))) (H:fK h O=some ([],o)) (x:oKD o=some A)
  (aA: ∀j,j<n->j≠i->bn j=F j) (a9:A5 A (bn i)) (a8:gf (F i) h=gf A h):
  wU C ⟨K,⟨id,[],.mr n Y bn born Q nid none⟩::⟨nid,[],.dead⟩::⟨h,[],.dead⟩::O,nid+1⟩ a w:=by
 obtain⟨W,b5⟩:=S.of id [] _ M;obtain⟨ha,bv,es,hh,hm,ho,ah,hk,hd,b4,co⟩:=b5 (gG a);obtain⟨a6,a7⟩:=S.of h [] _ H;obtain⟨_,hi⟩:=bv i h rfl;have b0:i<es.size:=J
 obtain⟨hv,aT⟩:=co i h rfl b0;have a5:h≠id:=by intro e;subst e;rw[M] at H;cases H;simp[oKD] at x
 let v:=es[i].val
 have a2:v=xM β A h:=by show es[i].val=_;rw[hv];revert a8;cases F i<;>cases A<;>intro e<;>simp[gf] at e<;>rfl
 obtain⟨a4,R⟩:xD (FO C.G (λid=>fK id O) β a) w v A/\ ∀g,dG β h o g↔H1 v=some g:=by
  have a1:=a7 (gG a);cases o with
  |row e sz m get=>cases x;have L:v=β.val h:=a2;refine⟨by rw[L];exact a1,λg=> ?_⟩;obtain⟨xs,hx,_⟩:=a1;rw[L,H7 hx];exact M3
  |cells e cs=>
   have x:(match AV.lts 0 cs with|true=>some (KD.cells e cs)|false=>none)=some A:=x
   split at x
   ·rename_i b1;cases x;have L:v= .pointer (some ⟨β.blk h,0,none⟩):=a2;obtain⟨P,eu,b3,a3⟩:=a1;refine⟨⟨β.blk h,P,L,eu,b3,λj f l=>⟨(a3 j f l).1.toPure (AV.lts_get b1 j f),(a3 j f l).2⟩⟩,λg=> ?_⟩;rw[L];show β.blk h=g↔_;simp[H1]
   ·cases x
  |_=>simp[oKD] at x
 let P:List Value:=(List.range n).map λj=>if j=i then v else wt (β.val U) j
 let β':Bd:=β.valAt nid (.agg P.toArray)
 have E: ∀j,j<n->wt (β'.val nid) j=if j=i then v else wt (β.val U) j:=λj N=>by
  have e:β'.val nid= .agg P.toArray:=by simp[β',Bd.valAt]
  rw[e];simp[wt,P,List.getD,N]
 have aS:yL nid β β':=lT _ _ _;have a0: ∀b,dG β id (.mr n Y F born Q U (some (i,h))) b->dG β h o b->False:=λb f l=>a5 (S.dist h id [] [] _ _ b H M (gG a) (gG a) l f);refine S.toL ai aS (eP _) [⟨id,[],.mr n Y bn born Q nid none⟩,⟨nid,[],.dead⟩,⟨h,[],.dead⟩] ⟨⟨rfl,jJ W,λb hb=> ?_,?_⟩,.dead (gA _),.dead (jJ a6),trivial⟩ ⟨⟨λ_ _ h=>h,λ_ _ h=>h,trivial⟩,⟨λ_ h _=>h,trivial⟩,trivial,trivial⟩
 ·rcases hb with hb|⟨j,f,_,c⟩
  ·exact⟨_,hX,_,M,.inl (by rw[<-(aS id W).1];exact hb)⟩
  ·rw[E j f] at c;by_cases t:j=i
   ·rw[aE t] at c;exact⟨_,fZ _ (fZ _ hX),o,H,(R b).2 c⟩
   ·rw[aB t] at c;exact⟨_,hX,_,M,.inr ⟨j,f,Oo t,c⟩⟩
 ·refine⟨gA _,λ_ _ e=>(by cases e),es,by rw[(aS id W).1];exact hh,hm,ho,ah,λj N l _=> ?_,λp r g f l _ _ c z=> ?_,λp r f l _ c=> ?_,λ_ _ e=>(by cases e)⟩
  ·rw[E j N];by_cases t:j=i
   ·subst t;rw[aE rfl];exact⟨rfl,a9.ok a4⟩
   ·rw[aB t,aA j N t];exact hk j N l (Oo t)
  ·rw[E p f] at c;rw[E r l] at z;by_cases q:p=i<;>by_cases D:r=i
   ·omega
   ·rw[aE q] at c;rw[aB D] at z;exact(a0 g (.inr ⟨r,l,Oo D,z⟩) ((R g).2 c)).elim
   ·rw[aB q] at c;rw[aE D] at z;exact(a0 g (.inr ⟨p,f,Oo q,c⟩) ((R g).2 z)).elim
   ·rw[aB q] at c;rw[aB D] at z;exact hd p r g f l (Oo q) (Oo D) c z
  ·rw[E p f,(aS id W).1] at c;by_cases q:p=i
   ·rw[aE q] at c;exact a0 _ (.inl rfl) ((R _).2 c)
   ·rw[aB q] at c;exact b4 p r f l (Oo q) c
theorem SimF.nxR {id n:Nat} {k:Nat->AV} {l:Nat->KD} {born:Nat->Nat} {f g:Nat} (S:SimF C (λs=>lG s K) (λid=>fK id O) nid β a w) (E:C.lo=[]) (x:fK id O=some ([],.mr n k l born f g none)):
  wU C ⟨K,⟨id,[],.mr n k l born f nid none⟩::⟨nid,[],.dead⟩::O,nid+1⟩ a w:=by
 obtain⟨j,A⟩:=S.of id [] _ x;obtain⟨U,_,F,N,Q,R,D,P,M,z,_⟩:=A (gG a)
 let β':Bd:=β.valAt nid (β.val g)
 have q:yL nid β β':=lT _ _ _;have c:β'.val nid=β.val g:=by simp[β',Bd.valAt]
 refine S.toL E q (eP _) [⟨id,[],.mr n k l born f nid none⟩,⟨nid,[],.dead⟩] ⟨⟨rfl,jJ j,λb t=>⟨_,hX,_,x,?_⟩,gA _,λ_ _ e=>(by cases e),F,by rw[(q id j).1];exact N,Q,R,D,by rw[c];exact P,by rw[c];exact M,by rw[c,(q id j).1];exact z,λ_ _ e=>(by cases e)⟩,.dead (gA _),trivial⟩ ⟨⟨λ_ _ h=>h,trivial⟩,trivial,trivial⟩;rcases t with t|⟨i,G,H,L⟩
 ·exact .inl t
 ·exact .inr ⟨i,G,H,by rw[<-c];exact L⟩
theorem Rep.so' {id n:Nat} {F:Nat->Prop} {v:Value} (c:id<n) (e:β.val id=v) (a:v.oneCell'=true):Rep β n F w (.so id) v:=by subst e;exact .so id c a
theorem SimF.ownR {s id:Nat} {v:Value} {e:TypeId} {sz n P:Nat} {get c:Nat->List AV} {f:List Value} {k:St->Prop} (S:SimF C (λs=>lG s K) (λid=>fK id O) nid β a w) (F:C.lo=[]) (x:fK id O=some ([],.row e sz P get)) (M:a.tmps.getD s undef=v)
  (q:kT w e sz v n f) (A: ∀g,kI v=some g->kI (β.val id)=some g) (z: ∀k,k<n->(c k).length=sz) (L: ∀(k j:Nat) (_:k<n) (Q:j<(c k).length) (R:k*sz+j<f.length),Rep0 (FO C.G (λid=>fK id O) β a) w (c k)[j] f[k*sz+j]/\f[k*sz+j].oneCell'=true)
  (h:Cn C.N (some s) [] (.so nid) K (⟨nid,[],.row e sz n c⟩::⟨id,[],.dead⟩::O) (nid+1) k): ∃t,k t/\wU C t a w:=by
 have D:=(S.of id [] _ x).1;have l:(β.valAt nid v).val nid=v:=by simp[Bd.valAt]
 have E:=(S.reL F (lT β nid v) (eP _) [⟨nid,[],.row e sz n c⟩,⟨id,[],.dead⟩] ⟨⟨rfl,gA _,λb H=>⟨_,fZ _ hX,_,x,A b (by rw[<-l];exact H)⟩,f,by rw[l];exact q,z,L⟩,.dead (jJ D),trivial⟩ ⟨⟨λ_ _ h=>h,trivial⟩,trivial,trivial⟩).1;exact E.putSame (by rw[M];exact .so' (gA _) l q.one) h
theorem OO (z:C.lo=[]): ∀{g:Gh} {st:St} {k:St->Prop},Om C.N g st k->wU C st a w-> ∃Y,k Y/\wU C Y a w
 | .own s,⟨K,O,nid⟩,k,h,⟨β,S⟩=>by
  dsimp only[Om] at h;dsimp only at S;split at h
  ·rename_i id sz q n Q;split at h
   ·rename_i e l n0 get f;split at h
    ·rename_i b1;obtain rfl:=kN b1;obtain⟨a0,a3⟩:=((S.kf s [] _ Q).1 (gG a)).sv_inv;generalize hu:a.tmps.getD s undef=v at a3;obtain⟨xs,E,R,P⟩:=(S.of id [] _ f).2 (gG a);have ck: ∀ys:List Value,kT w e l v n ys->n=0->(∀g,kI v=some g->kI (β.val id)=some g)-> ∃Y,k Y/\wU C Y a w:=λys hy h0 hb=>S.ownR z f hu hy hb (λk H=>J) (λk j H=>J) h;rcases a3 with ⟨rfl,L,hb⟩|⟨ad,rfl,L,_⟩|⟨g,o,m,c,hb,bQ,a7,rfl⟩
     ·exact ck [] ⟨by simp[L],.inl ⟨rfl,L⟩⟩ L λg h=>jC
     ·exact ck [] ⟨by simp[L],.inr (.inl ⟨ad,rfl,L⟩)⟩ L λg h=>jC
     ·rcases E.2 with ⟨F,_⟩|⟨ad,F,_⟩|⟨g',M,A,a1,F,hh,a8,b4,b5,a5⟩
      ·rw[hb] at F;cases F
      ·rw[hb] at F;cases F;omega
      ·rw[hb] at F;simp only[Value.slice.injEq,dT,Addr.mk.injEq] at F;obtain⟨⟨rfl,rfl,_⟩,rfl,rfl⟩:=F;have U:(q+(A+1-q))*l=q*l+(A+1-q)*l:=fV _ _ _;have e2:(q+n)*l=q*l+n*l:=fV _ _ _;have e3:q+(A+1-q)=A+1:=J
       rw[e3] at U;have e4:(q+n)*l<=m*l:=bU _ a7;have e5:m*l<=(A+1)*l:=bU _ a8;have hy:kT w e l (.slice (some ⟨g,o+q*l,none⟩) n (A+1-q)) n ((a1.toList.drop (o+q*l)).take (n*l)):=by
        refine⟨?_,.inr (.inr ⟨g,o+q*l,A-q,a1,?_,hh,J,J,?_,rfl⟩)⟩
        ·simp;omega
        ·congr 1
         omega
        ·have e6:A-q+1=A+1-q:=J;rw[e6];omega
       refine S.ownR z f hu hy (λg' W=> ?_) (λk H=>R _ J) (λk j H G h2=> ?_) h
       ·rw[hb,<-W];have U:A+1-q=(A+1-q-1)+1:=J
        rw[U];rfl
       ·have hl:=R (k+q) J;have e6:(k+q)*l=k*l+q*l:=fV _ _ _;have e7:(k+1)*l<=n*l:=bU _ H;rw[fV,xB] at e7;have h4:(k+q)*l+j<xs.length:=by rw[E.1];omega
        have h3:((a1.toList.drop (o+q*l)).take (n*l))[k*l+j]=xs[(k+q)*l+j]:=by
         simp only[<-a5,pZ,wT]
         congr 1
         omega
        rw[h3];exact P (k+q) j J G h4
    ·cases h
   ·cases h
  ·rename_i id Q;split at h
   ·rename_i e sz n get D;obtain⟨xs,E,R,fj⟩:=(S.of id [] _ D).2 (gG a);exact S.ownR z D ((S.kf s [] _ Q).1 (gG a)).so_inv.2 E (λ_ h=>h) R fj h
   ·cases h
  ·cases h
 | .frz s b3,⟨K,O,nid⟩,k,h,⟨β,S⟩=>by
  dsimp only[Om] at h;split at h
  ·rename_i av Q;obtain⟨b,O',h,S1,hb,_⟩:=S.frz z ((S.kf s [] _ Q).1 (gG a)) h;exact S1.putSame (.pure _ _ hb) h
  ·cases h
 | .eq id o,⟨K,O,nid⟩,k,h,⟨β,S⟩=>by
  dsimp only[Om] at h;split at h
  ·rename_i f;exact⟨_,h.2,S.eqO z f h.1⟩
  ·cases h
 | .sl s b,⟨K,O,nid⟩,k,h,⟨β,S⟩=>by
  dsimp only[Om] at h;split at h
  ·rename_i av Q;exact S.putSame (eV.rep h.1 ((S.kf s [] av Q).1 (gG a))) h.2
  ·cases h
 | .ex id,⟨K,O,nid⟩,k,h,⟨β,S⟩=>by
  dsimp only[Om] at h;split at h
  ·rename_i f;obtain⟨o,he,h⟩:=h;exact⟨_,h,S.eqO z f he⟩
  ·cases h
 | .nl s e sz,⟨K,O,nid⟩,k,h,S=>by
  dsimp only[Om] at h;split at h
  ·exact Y4 z h S
  ·exact⟨_,h,S⟩
 | .nlc id M e sz,⟨K,O,nid⟩,k,h,⟨β,S⟩=>by
  dsimp only[Om] at h
  repeat' split at h
  ·rename_i t cs f _ v P _ hn;have a0:=(S.of id [] _ f).1;have hval:(β.valAt nid (.slice none 0 0)).val nid= .slice none 0 0:=by simp[Bd.valAt]
   refine⟨_,h,S.toL z (lT β nid (.slice none 0 0)) (eP _) [⟨id,[],.cells t (s4 M (.so nid) cs)⟩,⟨nid,[],.row e sz 0 λ_=>[]⟩] ⟨⟨rfl,jJ a0,λb hb=>⟨_,hX,_,f,hb⟩,?_⟩,⟨rfl,gA _,λb hb=> ?_,?_⟩,trivial⟩ ⟨⟨λb _ hb=> ?_,trivial⟩,trivial,trivial⟩⟩
   ·refine ic ((S.of id [] _ f).2 (gG a)) P rfl (λc v h=>(h.same (lT _ _ _)).more (eP _)) λvs e' h' _ hr=> ?_;have U:=hr.val_inv;rw[iX hn] at U;rw[U];exact .so' (gA _) hval rfl
   ·exact qR
   ·exact⟨[],by rw[hval];exact⟨jS,.inl nT⟩,λk H=>absurd H (dU k),λk j H=>absurd H (dU k)⟩
   ·exact qR
  all_goals exact⟨_,h,β,S⟩
 | .frc id M b3,⟨K,O,nid⟩,k,h,⟨β,S⟩=>by
  dsimp only[Om] at h;dsimp only at S;split at h
  ·rename_i t cs f;split at h
   ·rename_i x E;obtain⟨vs,hh,hl,P⟩:=(S.of id [] _ f).2 (gG a);have a4:=E;rw[Da] at a4;obtain⟨cG,dw⟩:=bM.1 a4;have hv:=(P M cG (hl▸cG)).1;rw[dw] at hv;obtain⟨b,O',h,S1,hb,hO⟩:=S.frz z hv h;split at h
    ·rename_i t' b0 W;rcases hO id _ _ W with G|G
     ·cases G
     ·rw[f] at G;cases G;refine⟨_,h,S1.toL z (λ_ _=>nT) (aG _) [⟨id,[],.cells t (s4 M b cs)⟩] ⟨⟨rfl,(S.of id [] _ f).1,λb hb=>⟨_,hX,_,W,hb⟩,ic ((S1.of id [] _ W).2 (gG a)) E rfl (λ_ _ h=>h) λus e' G h2 _=> ?_⟩,trivial⟩ ⟨trivial,trivial⟩⟩;rw[hh] at h2;have bF:vs=us:=by
       have:=cK h2;simp at this
       first|exact this|exact this.1
      subst bF;exact .pure _ _ hb
    ·cases h
   ·cases h
  ·cases h
 | .mvc id M,⟨K,O,nid⟩,k,h,⟨β,S⟩=>by
  dsimp only[Om] at h
  repeat' split at h
  ·rename_i t cs f _ i P _ e sz n get D;have a9:id≠i:=λh=>by rw[h,D] at f;cases f
   have a0:=(S.of id [] _ f).1;have a6:=(S.of i [] _ D).1;obtain⟨xs,E,R,fj⟩:=(S.of i [] _ D).2 (gG a);have hval:(β.valAt nid (β.val i)).val nid=β.val i:=by simp[Bd.valAt]
   have a2: ∀b,dG (β.valAt nid (β.val i)) nid (.row e sz n get) b->dG β i (.row e sz n get) b:=λb hb=>by rw[show dG _ nid (AO.row e sz n get) b=(kI ((β.valAt nid (β.val i)).val nid)=some b) from rfl,hval] at hb;exact hb
   refine⟨_,h,S.toL z (lT β nid (β.val i)) (eP _) [⟨id,[],.cells t (s4 M (.so nid) cs)⟩,⟨nid,[],.row e sz n get⟩,⟨i,[],.dead⟩] ⟨⟨rfl,jJ a0,λb hb=>⟨_,hX,_,f,hb⟩,?_⟩,⟨rfl,gA _,λb hb=>⟨_,fZ _ (fZ _ hX),_,D,a2 b hb⟩,xs,by rw[hval];exact E,R,fj⟩,.dead (jJ a6),trivial⟩
    ⟨⟨λb hb ap=>a9 (S.dist id i [] [] _ _ b f D (gG a) (gG a) hb (a2 b ap)),λ_ _ h=>h,trivial⟩,⟨λ_ _ h=>h,trivial⟩,trivial,trivial⟩⟩
   refine ic ((S.of id [] _ f).2 (gG a)) P rfl (λc v h=>(h.same (lT _ _ _)).more (eP _)) λvs e' h' _ hr=> ?_;rw[hr.so_inv.2];exact .so' (gA _) hval E.one
  all_goals exact⟨_,h,β,S⟩
 | .mk id b6,⟨K,O,nid⟩,k,h,⟨β,S⟩=>by
  dsimp only[Om] at h;split at h
  ·rename_i f;obtain⟨rfl,h⟩:=h;exact⟨_,h,S.mkR z f⟩
  ·exact⟨_,h,β,S⟩
 | .take id,⟨K,O,nid⟩,k,h,⟨β,S⟩=>by
  dsimp only[Om] at h;split at h
  ·rename_i f;rcases h with ⟨i,D,h⟩|h
   ·exact⟨_,h,S.takeR z f D⟩
   ·exact⟨_,h,β,S⟩
  ·exact⟨_,h,β,S⟩
 | .put id,⟨K,O,nid⟩,k,h,⟨β,S⟩=>by
  dsimp only[Om] at h;split at h
  ·rename_i f;split at h
   ·rename_i dY;split at h
    ·rename_i da;obtain⟨bn,⟨G,h2,h3⟩,h⟩:=h;exact⟨_,h,S.putR z f dY da G h2 h3⟩
    ·cases h
   ·cases h
  ·exact⟨_,h,β,S⟩
 | .nx id,⟨K,O,nid⟩,k,h,⟨β,S⟩=>by
  dsimp only[Om] at h;split at h
  ·rename_i f;exact⟨_,h,S.nxR z f⟩
  ·exact⟨_,h,β,S⟩
theorem pd (e:C.lo=[]): ∀{l:List Gh} {st:St} {k:St->Prop},UK C.N l st k->wU C st a w-> ∃c,k c/\wU C c a w
 |[],st,k,h,S=>⟨st,h,S⟩
 |g::r,st,k,h,S=>by obtain⟨c,h,S⟩:=OO e h S;exact pd e h S
end
def WO (b:St->(Exit->St->Prop)->Prop) (Q:Exit->St->Prop):Nat->St->Prop
 |0,_=>False
 |n+1,st=>b st λe a=>match e with
  | .normal=>WO b Q n a
  |e=>Q e a
def UL:List Gh->Bool×List Nat
 | .frz f a::_=>(Nat.beq f 1,a)
 |_=>(false,[])
def aEd (P:Program) (T:List (Nat×TI)) (N m:Nat) (a:List Oper):Bool->Bool×List Nat->St->(St->Prop)->Prop
 |false,_,st,k=>ED P T N [] a a st k
 |true,(e,c),st,k=>EN P T N m a e c st k
def yR (B:List (Nat×List Gh)):Code->Bool
 | .region i ⟨a⟩ true=>EO a (UL (Q0 (Nat.add 2000000 i) B)).1
 | .seq x y=>yR B x&&yR B y
 | .cond _ x y=>yR B x&&yR B y
 | .block _ c=>yR B c
 | .loop c=>yR B c
 |_=>true
def uR (P:Program) (T:List (Nat×TI)) (N m:Nat) (B:List (Nat×List Gh)):Code->St->(Exit->St->Prop)->Prop
 | .skip,st,Q=>Q .normal st
 | .region i ⟨n⟩ d,st,Q=>UK N (Q0 i B) st λst=>aEd P T N m n d (UL (Q0 (Nat.add 2000000 i) B)) st λa=>Nz a λq=>UK N (Q0 (Nat.add 1000000 i) B) q (Q .normal)
 | .seq x y,st,Q=>(match UJ x with
  |false=>uR P T N m B x st λe a=>match e with
   | .normal=>uR P T N m B y a Q
   |e=>Q e a
  |true=>(uR P T N m B x st λe a=>match e with
    | .normal=>uR P T N m B y a Q
    |e=>Q e a)\/
   ∃(l:List (Nat×TypeId×Nat)),Xi N l st λst=> ∃(X:Type) (I:X->Prop) (u:X->List KE) (f:X->List OE),(uR P T N m B x st λe a=>match e with
    | .normal=> ∃z g,I z/\aI9 m (k6 x) g (u z) (f z) st a
    |e=>Q e a)/\
    ∀z,I z->WE (k6 x) (u z) (f z) st λs=>uR P T N m B y s Q)
 | .cond c x y,st,Q=>(match st with
  |⟨K,O,nid⟩=>UI (i3 K [] c) (uR P T N m B x ⟨K,O,nid⟩ Q) (uR P T N m B y ⟨K,O,nid⟩ Q))
 | .block i c,st,Q=>uR P T N m B c st λe a=>match e with
  | .exit j=>ES j i (Q .normal a) (Q (.exit j) a)
  |e=>Q e a
 | .loop c,st,Q=>(match Q0 888888 B with
  | .own k::_=>WO (λst Q=>uR P T N m B c st Q) Q k st
  |_=> ∃(l:List (Nat×TypeId×Nat)),Xi N l st λst=> ∃(X:Type) (I:X->Prop) (u:X->List KE) (f:X->List OE) (h:X->Nat),
   (∃x g,I x/\aI9 m (k6 c) g (u x) (f x) st st)/\
   ∀x,I x->WE (k6 c) (u x) (f x) st λs=>uR P T N m B c s λe a=>match e with
    | .normal=> ∃y g,I y/\h y<h x/\aI9 m (k6 c) g (u y) (f y) st a
    |e=>Q e a)
 | .exit i,st,Q=>Q (.exit i) st
 | .ret,st,Q=>Q .ret st
 |_,_,_=>False
section
variable {C : Cx} {P : Program} {T : List (Nat × TI)} {w : World} {a : Act} {B : List (Nat × List Gh)}
theorem wU.nid {st:St}:wU C st a w->C.m<=st.nid:=λ⟨_,S⟩=>S.ag.2
def EP (C:Cx) (Q:Exit->St->Prop):Exit->Act->World->Prop:=λe a w=> ∃st,wU C st a w/\Q e st
theorem Ic (hT:iM P T) (D:C.lo=[]): ∀(c:Code) {st:St} {Q:Exit->St->Prop} {a:Act} {w:World},yR B c=true->wU C st a w->uR P T C.N C.m B c st Q->c.wp P (EP C Q) a w:=by
 have le: ∀{W:List Nat} {U:List (Nat×Nat)} {u:List KE} {G:List OE} {st f:St} {a0 a:Act} {w0 w:World},wU C st a0 w0->wU C f a w->aI9 C.m W U u G st f->wU C (aI8 W u G st) a w:=λM S h=>S.le (.nil D) (WF h) (by rw[OJ];exact M.nid);intro c
 induction c with
 |skip=>exact λ_ S h=>wp_skip ⟨_,S,h⟩
 |region i a3 a5=>
  intro st Q a w q S h;obtain⟨a3⟩:=a3;obtain⟨st,h,S⟩:=pd D h S;have a2: ∀f A E,(Nz f λa8=>UK C.N (Q0 (Nat.add 1000000 i) B) a8 (Q .normal))->wU C f A E->EP C Q .normal A E:=λf A E g t=>by obtain⟨a8,h2,S2⟩:=Oa D g t;obtain⟨a9,h3,S3⟩:=pd D h2 S2;exact⟨a9,S3,h3⟩
  cases a5 with
  |false=>exact wp_region_lit (kl (P:=P) hT S (by rw[D];exact h) a2)
  |true=>exact Hz hT D q S h a2
 |seq x y H L=>
  intro st Q a w q S h;have q:=tW.1 q;have a1: ∀{st:St} {a:Act} {w:World},wU C st a w->(uR P T C.N C.m B x st λe f=>match e with
    | .normal=>uR P T C.N C.m B y f Q
    |e=>Q e f)->(Code.seq x y).wp P (EP C Q) a w:=by
   intro st a w S h;refine wp_seq (Code.wp_mono ?_ (H q.1 S h));rintro e A E ⟨f,t,g⟩;cases e
   case normal=>exact L q.2 t g
   all_goals exact⟨f,t,g⟩
  simp only[uR] at h;split at h
  ·exact a1 S h
  ·rcases h with h|⟨l,h⟩
   ·exact a1 S h
   ·obtain⟨st,⟨X,I,u,G,h,hy⟩,S⟩:=Y4 D h S;refine wp_seq (Code.wp_mono ?_ (H q.1 S h));rintro e A E ⟨f,t,g⟩;cases e
    case normal=>obtain⟨z,U,hz,a7⟩:=g;exact L q.2 (le S t a7) (Hn (hy z hz))
    all_goals exact⟨f,t,g⟩
 |cond c x y H L=>
  intro st Q a w q S h;have q:=tW.1 q;obtain⟨K,O,nid⟩:=st;simp only[uR] at h;unfold UI at h;split at h
  ·rename_i b F;obtain⟨β,S⟩:=S;exact wp_cond_split (x1 S (gG a) c _ F).b_inv (λF=>H q.1 ⟨β,S⟩ (h.1 F)) (λF=>L q.2 ⟨β,S⟩ (h.2 F))
  ·cases h
 |block i c R=>
  intro st Q a w q S h;refine wp_block (Code.wp_mono ?_ (R q S h));rintro e A E ⟨f,t,g⟩;cases e
  case exit j=>
   simp only[ES] at g;simp only[Exit.inBlock];split at g
   ·rename_i F;rw[aE (by simpa using F)];exact⟨f,t,g⟩
   ·rename_i F;rw[aB (λe=>by subst e;simp at F)];exact⟨f,t,g⟩
  all_goals exact⟨f,t,g⟩
 |loop c R=>
  intro st Q a w q S h;simp only[uR] at h;split at h
  ·rename_i k _ _;refine wp_loop_ghost (λn a w=> ∃st,wU C st a w/\WO (λst Q=>uR P T C.N C.m B c st Q) Q n st) k ⟨st,S,h⟩ ?_;rintro n a w ⟨st,S,h⟩;cases n with
   |zero=>exact h.elim
   |succ n=>
    refine Code.wp_mono ?_ (R q S h);rintro e A E ⟨f,t,g⟩;cases e
    case normal=>exact⟨n,gA n,f,t,g⟩
    all_goals exact⟨f,t,g⟩
  obtain⟨l,h⟩:=h;obtain⟨st,⟨X,I,u,G,μ,⟨x,U,hx,Y⟩,a4⟩,M⟩:=Y4 D h S;refine wp_loop_ghost (λn a w=> ∃x,I x/\μ x=n/\wU C (aI8 (k6 c) (u x) (G x) st) a w) (μ x) ⟨x,hx,rfl,le M M Y⟩ ?_;rintro n a w ⟨x,hx,rfl,S⟩;refine Code.wp_mono ?_ (R q S (Hn (a4 x hx)));rintro e A E ⟨f,t,g⟩;cases e
  case normal=>obtain⟨y,U,hy,a6,Y⟩:=g;exact⟨μ y,a6,y,hy,rfl,le M t Y⟩
  all_goals exact⟨f,t,g⟩
 |exit i=>exact λ_ S h=>wp_exit ⟨_,S,h⟩
 |ret=>exact λ_ S h=>wp_ret ⟨_,S,h⟩
 |_=>intros;contradiction
def Db (T:List (Nat×TI)) (K:List KE) (O:List OE):List ResultVar->(List AV->Prop)->Prop
 |[],k=>k []
 | .tmp t::r,k=>(match lG t K with
  |some ([],a)=>Db T K O r λl=>k (a::l)
  |_=>False)
 | .cell t g::r,k=>(match lG t K,lF g T with
  |some ([],.p id e),some c=>(match fK id O with
   |some ([],.cells _ f)=>zS e c.size f λl=>F8 c.agg l λa=>Db T K O r λl=>k (a::l)
   |_=>False)
  |_,_=>False)
def Ie:List AV->AV
 |[a]=>a
 |l=> .tup l
mutual
def AV.fresh:AV->Bool
 | .rs _ _ _=>false
 | .rp _=>false
 | .rm _ _ _=>false
 | .fn _ a=>AV.freshs a
 | .ag a=>AV.freshs a
 | .tup a=>AV.freshs a
 |_=>true
def AV.freshs:List AV->Bool
 |[]=>true
 |c::r=>match AV.fresh c with
  |true=>AV.freshs r
  |false=>false
end
theorem AV.freshs_get: ∀{l:List AV},AV.freshs l=true-> ∀(j:Nat) (h:j<l.length),AV.fresh l[j]=true
 |[],_,j,h=>jh
 |c::r,a,j,h=>by
  unfold AV.freshs at a;split at a
  ·rename_i e;cases j with
   |zero=>exact e
   |succ j=>exact AV.freshs_get a j jH
  ·cases a
theorem Rep0.any {F C:Nat->Prop} {w:World} {x:AV} {v:Value} (h:Rep0 F w x v) (a:x.fresh=true):Rep0 C w x v:=by
 induction h with
 |b c=>exact .b c
 |i k n=>exact .i k n
 |s x=>exact .s x
 |val v=>exact .val v
 |u v=>exact .u v
 |fn f A t l h q=>exact .fn f A t l λj e g=>q j e g (AV.freshs_get (by simpa [AV.fresh] using a) j e)
 |ag z t l h q=>exact .ag z t l λj e g=>q j e g (AV.freshs_get (by simpa [AV.fresh] using a) j e)
 |tup z t l h q=>exact .tup z t l λj e g=>q j e g (AV.freshs_get (by simpa [AV.fresh] using a) j e)
 |rsnil D get=>simp[AV.fresh] at a
 |rsz=>simp[AV.fresh] at a
 |rs=>simp[AV.fresh] at a
 |rp=>simp[AV.fresh] at a
 |rmnil=>simp[AV.fresh] at a
 |rm=>simp[AV.fresh] at a
theorem Rep.any {β:Bd} {n:Nat} {F L:Nat->Prop} {w:World} {x:AV} {v:Value} (h:Rep β n F w x v) (C:x.fresh=true):Rep β n L w x v:=by
 induction h with
 |pure a v h=>exact .pure a v (h.any C)
 |p id l e=>exact .p id l e
 |so id e k=>exact .so id e k
 |pe id E K l g o m c e h=>exact .pe id E K l g o m c e h
 |mo id e=>exact .mo id e
 |sv id E O m v e h=>exact .sv id E O m v e h
 |sc id l m H e N M=>exact .sc id l m H e N M
 |fn f G A t h z=>exact .fn f G A t λj k q=>z j k q (AV.freshs_get (by simpa [AV.fresh] using C) j k)
 |ag D A t h z=>exact .ag D A t λj k q=>z j k q (AV.freshs_get (by simpa [AV.fresh] using C) j k)
 |tup D A t h z=>exact .tup D A t λj k q=>z j k q (AV.freshs_get (by simpa [AV.fresh] using C) j k)
def Y7 (n:Nat):List AO->List OE
 |[]=>[]
 |o::r=>⟨n,[],o⟩::Y7 (n+1) r
def ET:KD->Prop
 | .row _ _ n get=> ∀k,k<n->AV.freshs (get k)=true
 | .cells _ a=>AV.freshs a=true
theorem xD.any {F q:Nat->Prop} {w:World} {v:Value} {k:KD} (h:xD F w v k) (l:ET k):xD q w v k:=by
 cases k with
 |row e G m get=>obtain⟨D,A,n,f⟩:=h;exact⟨D,A,n,λk j g a c=>⟨(f k j g a c).1.any (AV.freshs_get (l k g) j a),(f k j g a c).2⟩⟩
 |cells e E=>obtain⟨b,C,z,t,x,f⟩:=h;exact⟨b,C,z,t,x,λj a c=>⟨(f j a c).1.any (AV.freshs_get l j a),(f j a c).2⟩⟩
def rz:AO->Prop
 | .cells _ e=>AV.freshs e=true
 | .row _ _ n get=> ∀k,k<n->AV.freshs (get k)=true
 | .mp n a val _ _=> ∀k,k<n->AV.fresh (a k)=true/\AV.fresh (val k)=true
 | .it _ _ _=>True
 | .ir _ _ _ _ _=>False
 | .mr n a c _ _ _ _=> ∀k,k<n->AV.fresh (a k)=true/\ET (c k)
 | .dead=>True
def pg:List AO->Prop
 |[]=>True
 |[o]=>rz o
 |o::r=>rz o/\pg r
theorem lV.any {β:Bd} {n:Nat} {F L:Nat->Prop} {w:World} {id:Nat} {o:AO} (h:lV β n F w id o) (l:rz o):lV β n L w id o:=by
 cases o with
 |cells e cs=>obtain⟨R,t,P,f⟩:=h;exact⟨R,t,P,λj g a=>⟨(f j g a).1.any (AV.freshs_get l j g),(f j g a).2⟩⟩
 |row e sz m get=>obtain⟨S,Q,H,f⟩:=h;exact⟨S,Q,H,λk j q g a=>⟨(f k j q g a).1.any (AV.freshs_get (l k q) j g),(f k j q g a).2⟩⟩
 |mp m K val G E=>obtain⟨x,t,z,A,f⟩:=h;exact⟨x,t,z,A,λi c a=>⟨(f i c a).1.any (l i c).1,(f i c a).2.1.any (l i c).2,(f i c a).2.2⟩⟩
 |it mid U Y=>exact h
 |ir=>exact l.elim
 |mr m K a1 G E a0 W=>obtain⟨O,N,x,t,z,A,D,q,M⟩:=h;exact⟨O,N,x,t,z,A,λi c a=>⟨(D i c a).1.any (l i c).1,(D i c a).2⟩,λi c a C=>⟨(q i c a C).1,(q i c a C).2.any (l i c).2⟩,M⟩
 |dead=>trivial
structure RetIs (os:List AO) (r:AV) (av:AV) (O:List OE) (nid:Nat):Prop where
 is: ∃ρ,Cs 0 ρ ⟨[⟨0,[],r⟩],Y7 0 os,os.length⟩ ⟨[⟨0,[],av⟩],O,nid⟩/\r.fresh=true/\pg os
theorem RetIs.b {c d:Bool} {O:List OE} {nid:Nat} (h:d=c):RetIs [] (.b c) (.b d) O nid:=⟨[],⟨⟨⟨rfl,rfl,by subst h;exact eV.refl (.b d)⟩,trivial⟩,trivial,rfl⟩,rfl,trivial⟩
theorem RetIs.i {k:IntKind} {c d:Int} {O:List OE} {nid:Nat} (h:d=c):RetIs [] (.i k c) (.i k d) O nid:=⟨[],⟨⟨⟨rfl,rfl,by subst h;exact eV.refl (.i k d)⟩,trivial⟩,trivial,rfl⟩,rfl,trivial⟩
def Xq:List AO->List AO->List AO
 |[],m=>m
 |a::r,m=>a::Xq r m
theorem Uc: ∀l m:List AO,Xq l m=l++m
 |[],m=>rfl
 |a::r,m=>by simp[Xq,Uc r m]
structure RetM (al:Bool) (m:Nat) {Y:Type} (spec:Y->Prop) (outs os:Y->List AO) (r:Y->AV) (av:AV) (O:List OE) (nid:Nat):Prop where
 is: ∃y ρ,spec y/\Cs m ρ ⟨[⟨0,[],r y⟩],Y7 0 (Xq (outs y) (os y)),(Xq (outs y) (os y)).length⟩ ⟨[⟨0,[],av⟩],O,nid⟩/\(outs y).length=m/\(al=false->(r y).fresh=true/\pg (Xq (outs y) (os y)))
structure RetA (r:AV) (av:AV) (O:List OE) (nid:Nat):Prop where
 is:r.lt 0=true/\eV (r.ren (rn [])) av
def Oq (N:Nat) (B:List (Nat×List Gh)) (T:List (Nat×TI)) (res:List ResultVar) (R:AV->List OE->Nat->Prop) (e:Exit) (st:St):Prop:=
 match e with
 | .normal=>UK N (Q0 999999 B) st λ⟨K,O,nid⟩=>Db T K O res λl=>R (Ie l) O nid
 | .ret=>UK N (Q0 999999 B) st λ⟨K,O,nid⟩=>Db T K O res λl=>R (Ie l) O nid
 |_=>False
theorem Q1 {α q:Type} (f:α->Sem q): ∀(l:List α) (c:List q),l.length=c.length->(∀(j:Nat) (g:j<l.length) (n:j<c.length),(f l[j]).run P w= .ok c[j] w)->(l.mapM f).run P w= .ok c w
 |[],[],_,_=>rfl
 |[],_::_,h,_=>jh
 |_::_,[],h,_=>jh
 |a::r,v::c,t,h=>by rw[List.mapM_cons];have e:=h 0 jS jS;simp only[fE] at e;simp[e,Q1 f r c (by simpa using t) (λj g n=>h (j+1) (iA g) (iA n))]
theorem T6 (M:iM P T) {K:List KE} {O:List OE} {nid:Nat} {β:Bd} (S:SimF C (λs=>lG s K) (λid=>fK id O) nid β a w): ∀{res:List ResultVar} {k:List AV->Prop},Db T K O res k->
  ∃l,k l/\ ∃f:List Value,res.length=f.length/\l.length=f.length/\
   (∀(j:Nat) (h1:j<res.length) (g:j<f.length),(match res[j] with| .tmp t=>(pure (a.tmps.getD t undef):Sem Value)| .cell t U=>do loadVar U (<-asAddr (a.tmps.getD t undef))).run P w= .ok f[j] w)/\
   ∀(j:Nat) (h1:j<l.length) (g:j<f.length),Rep β nid (FO C.G (λid=>fK id O) β a) w l[j] f[j]
 |[],k,h=>⟨[],h,[],rfl,rfl,λj h1=>jl,λj h1=>jl⟩
 | .tmp t::r,k,h=>by
  unfold Db at h;split at h
  ·rename_i A N;obtain⟨l,Q,f,h1,g,H,L⟩:=T6 M S h;refine⟨_,Q,a.tmps.getD t undef::f,by simp[h1],by simp[g],λj n q=> ?_,λj n q=> ?_⟩
   ·cases j with
    |zero=>rfl
    |succ j=>exact H j (iU n) (iU q)
   ·cases j with
    |zero=>exact(S.kf t [] A N).1 (gG a)
    |succ j=>exact L j (iU n) (iU q)
  ·cases h
 | .cell t U::r,k,h=>by
  unfold Db at h;split at h
  ·rename_i id c z N ht;split at h
   ·rename_i e F ho;obtain⟨a2,h⟩:=rC h;have hv:=((S.kf t [] _ N).1 (gG a)).p_inv;obtain⟨D,hh,hl,hc⟩:=(S.of id [] _ ho).2 (gG a);have W:=Gj (w:=w) (M.get ht) (β.blk id) c ((D.drop c).take z.size) jO (λj hj=>by
     simp at hj;rw[cell_of_row w _ _ _ _ _ hh];simp)
    have Y: ∀(j:Nat) (h1:j<((F.drop c).take z.size).length) (g:j<((D.drop c).take z.size).length),Rep β nid (FO C.G (λid=>fK id O) β a) w ((F.drop c).take z.size)[j] ((D.drop c).take z.size)[j]:=λj h1 g=>by simp at h1 g;simpa using(hc (c+j) J J).1
    have a1: ∃(v:Value) (A:AV),(loadVar U ⟨β.blk id,c,none⟩).run P w= .ok v w/\Rep β nid (FO C.G (λid=>fK id O) β a) w A v/\Db T K O r λl=>k (A::l):=by
     unfold F8 at h;split at h
     ·rename_i E;exact⟨_,_,W.1 E,.ag _ _ jO Y,h⟩
     ·rename_i x E R;have h0:0<((D.drop c).take z.size).length:=by
       have:((F.drop c).take z.size).length=1:=by rw[R];rfl
       simp at this|-;omega
      refine⟨_,x,W.2 E h0,?_,h⟩;have:=Y 0 (by rw[R];simp) h0;simpa only[R,fE] using this
     ·cases h
    obtain⟨v,A,a0,ez,h⟩:=a1;obtain⟨l,Q,f,h1,g,H,L⟩:=T6 M S h;refine⟨_,Q,v::f,by simp[h1],by simp[g],λj n q=> ?_,λj n q=> ?_⟩
    ·cases j with
     |zero=>simp[hv.2,asAddr,a0]
     |succ j=>exact H j (iU n) (iU q)
    ·cases j with
     |zero=>exact ez
     |succ j=>exact L j (iU n) (iU q)
   ·cases h
  ·cases h
theorem sa: ∀(os:List AO) (n i:Nat),fK i (Y7 n os)=if n<=i then(os[i-n]?).map λo=>([],o) else none
 |[],n,i=>by simp[Y7,fK]
 |o::r,n,i=>by
  simp only[Y7];rw[uU,sa r (n+1) i];by_cases h:i=n
  ·subst h;simp
  ·rw[aB h];by_cases a:n+1<=i
   ·rw[aE a,aE J];have e:i-n=(i-(n+1))+1:=J
    rw[e,kW]
   ·rw[aB a,aB J]
theorem km: ∀{os:List AO},pg os-> ∀(j:Nat) (o:AO),os[j]? =some o->rz o
 |[],_,j,o,h=>jh
 |[c],a,j,o,h=>by
  cases j with
  |zero=>simp at h;subst h;exact a
  |succ j=>simp at h
 |c::e::r,a,j,o,h=>by
  cases j with
  |zero=>simp at h;subst h;exact a.1
  |succ j=>exact km a.2 j o jH
def lz (n:Nat):List AV->List KE
 |[]=>[]
 |a::r=>⟨n,[],a⟩::lz (n+1) r
theorem Ig: ∀(l:List AV) (n s:Nat),lG s (lz n l)=if n<=s then(l[s-n]?).map λa=>([],a) else none
 |[],n,s=>by simp[lz,lG]
 |a::r,n,s=>by
  simp only[lz,lG];rw[Ig r (n+1) s];by_cases h:n=s
  ·subst h;simp
  ·have:Nat.beq n s=false:=by
    cases f:Nat.beq n s
    ·rfl
    ·exact absurd (by simpa using f) h
   rw[this];by_cases c:n+1<=s
   ·rw[aE c,aE J];have e:s-n=(s-(n+1))+1:=J
    rw[e,kW]
   ·rw[aB c,aB J]
theorem J8 (hT:iM P T) {f:FuncId} {fn:Func} {c:Code} (hf:P.funcs[f]? =some fn) (bo:(fn.name== "runtime.NumGoroutine")=false) (q:fn.body=some c)
  {N:Nat} (hN:fn.ntmps=N) {res:List ResultVar} (b7:fn.results=res.toArray) {al:Bool} {B:List (Nat×List Gh)} {ins:List AO} {args:List AV} {Y:Type} {a3:Y->Prop} {a0 os:Y->List AO} {r:Y->AV}
  {R:AV->List OE->Nat->Prop} (hR: ∀av O nid,R av O nid->RetM al ins.length a3 a0 os r av O nid) (b0:Nat.ble args.length N=true) (ci:yR B c=true)
  (h:uR P T N ins.length B c ⟨lz 0 args,Y7 0 ins,ins.length⟩ (Oq N B T res R)):tC P f al ins args a3 a0 os r:=by
 refine⟨⟨fn,hf,bo,by rw[q];rfl⟩,λF w β vs a8 a1 c5 b6 b5 hl hr=> ?_⟩;subst hN;have b0:args.length<=fn.ntmps:=xU b0;refine calls_of_wp hf q ?_;have U: ∀{l:List AO} {id g o},fK id (Y7 0 l)=some (g,o)->g=[]/\l[id]? =some o:=λ{l id g o} h=>by
  rw[sa,aE (bI _),rQ] at h;cases H:l[id]? with
  |none=>rw[H] at h;cases h
  |some x=>rw[H] at h;cases h;exact nT
 have W: ∀{l:List AO} {j:Nat} {o:AO},l[j]? =some o->fK j (Y7 0 l)=some ([],o):=λ{l j o} D=>by rw[sa,aE (bI _),rQ,D];rfl
 have a7: ∀a,FO (Fr F β ins) (λid=>fK id (Y7 0 ins)) β a=F:=λa=>funext λb=>propext ⟨λh=>by
   rcases h with h|⟨id,g,o,D,_,q⟩
   ·exact h.1
   ·exact a8 b ⟨id,o,(U D).2,q⟩,λq=>by
   by_cases H:sG β ins b
   ·obtain⟨j,o,A,D⟩:=H;exact .inr ⟨j,[],o,W A,gG a,D⟩
   ·exact .inl ⟨q,H⟩⟩
 let C:Cx:=⟨sG β ins,Fr F β ins,w,fn.ntmps,ins.length,β,[],λ_=>False⟩
 have hS:wU C ⟨lz 0 args,Y7 0 ins,ins.length⟩ {tmps:=vs.toArray++Array.replicate (fn.ntmps-vs.toArray.size) undef,defers:=[]} w:=by
  refine⟨β,⟨λb q=>a1.1 b q.1,a1.2.1,λh=>a1.2.2 (a8 _ h),λh=>a1.2.2 h.1⟩,λb h1 h2=>h2.2 h1,Frame.refl _ _,(by simp[C];omega),rfl,⟨λ_ _=>nT,aG _⟩,⟨λ_ h=>jC,λ_ h=>h.elim⟩,λs g av hk=> ?_,λid g o h=>⟨(bM.1 (U h).2).1,λ_=> ?_⟩,
   λid g o b h _ q=>⟨λ_=> .inl ⟨id,o,(U h).2,q⟩,λh=>jC⟩,λid c4 g g' o o' b h h' _ _ q ap=>b5 id c4 o o' b (U h).2 (U h').2 q ap⟩
  ·rw[show FO C.G _ β _=F from a7 _];dsimp only at hk;rw[Ig,aE (bI _),rQ] at hk;cases hs:args[s]? with
   |none=>rw[hs] at hk;cases hk
   |some x=>
    rw[hs] at hk;cases hk;obtain⟨h1,rfl⟩:=bM.1 hs;refine⟨λ_=> ?_,λL=>(L (gG _)).elim⟩;have e:(vs.toArray++Array.replicate (fn.ntmps-vs.toArray.size) undef).getD s undef=vs[s]'J:=by rw[jF,pT jO];simp[bL (show s<vs.length by omega)]
    simp only[e];exact hr s h1 J
  ·rw[show FO C.G _ β _=F from a7 _];exact b6 id o (U h).2
 refine Code.wp_mono ?_ (Ic hT rfl c ci hS h);rintro e a Q ⟨st,S,M⟩;have b4: ∀(_:UK fn.ntmps (Q0 999999 B) st λ⟨K,O,nid⟩=>Db T K O res λl=>R (Ie l) O nid),a.defers=[]/\ ∃v,(results fn a.tmps).run P Q= .ok v Q/\ ∃(v':Value) (β':Bd) (y:Y),Ending.returned v= .returned v'/\a3 y/\
   Gives al F w ins β (a0 y) (os y) (r y) v' Q β':=by
  intro M;obtain⟨⟨K,O,nid⟩,M,a2,S⟩:=pd (C:=C) rfl M S;dsimp only at S;obtain⟨l,c3,n,h1,h2,h3,h4⟩:=T6 hT S M;obtain⟨⟨y,ρ,hy,a6,c2,bp⟩⟩:=hR _ _ _ c3;have ez:Rep a2 nid (FO C.G (λid=>fK id O) a2 a) Q (Ie l) (if h:n.length=1 then n[0] else .tuple n.toArray):=by
   unfold Ie;split
   ·rename_i x;have bO:n.length=1:=by simpa using h2.symm
    rw[rG bO];exact h4 0 jS J
   ·rename_i c1;by_cases bO:n.length=1
    ·match l,h2.trans bO with
     |[x],_=>exact absurd rfl (c1 x)
    ·rw[sK bO];exact .tup l n h2 h4
  rw[Uc] at a6 bp;obtain⟨hK,hO,H⟩:=a6;obtain⟨S1,aD⟩:=S.leO (.nil rfl) (show ins.length<=_ by rw[bD];omega) hO H
  let a4:Bd:=⟨λid=>a2.blk (rn ρ id),λid=>a2.val (rn ρ id)⟩
  have a5: ∀b,¬FO C.G (λid=>fK id (Y7 0 (a0 y++os y))) a4 a b->al=true-> ¬J1 al (Fr F β ins) w a4 (a0 y++os y) b:=by
   rintro b L E ((⟨h,_⟩|h)|⟨j,o,A,D⟩)
   ·rw[E] at h;cases h
   ·exact L (.inl h)
   ·exact L (.inr ⟨j,[],o,W A,gG a,D⟩)
  refine⟨S.dfs,(if h:n.length=1 then n[0] else .tuple n.toArray),?_,(if h:n.length=1 then n[0] else .tuple n.toArray),a4,y,rfl,hy,⟨S1.ag.1,S.below,c2,λj o A=> ?_,?_,?_,?_⟩⟩
  ·have hm:=Q1 (P:=P) (w:=Q) (λx:ResultVar=>match x with| .tmp t=>(pure (a.tmps.getD t undef):Sem Value)| .cell t ty=>do loadVar ty (<-asAddr (a.tmps.getD t undef))) res n h1 h3
   have c0:(res.toArray.mapM (λx:ResultVar=>match x with| .tmp t=>(pure (a.tmps.getD t undef):Sem Value)| .cell t ty=>do loadVar ty (<-asAddr (a.tmps.getD t undef)))).run P Q= .ok n.toArray Q:=by rw[vH];simp only[Sem.run_map];rw[hm];rfl
   unfold results;rw[b7];simp only[Sem.run_bind];refine(fW (λz=>Result.andThen z _) c0).trans ?_;simp
  ·have b1:=(S1.of j [] o (W A)).2 (gG a);cases E:al with
   |false=>exact b1.any (km (bp E).2 j o A)
   |true=>exact b1.stable (bM.1 A).1 (aG _) (λ_ _=>nT) (λb _ L=>by rw[<-E];exact a5 b L E) (λ_ _ _=>rfl) (aG _) (λ_ _=>rfl)
  ·rintro g ⟨j,o,A,D⟩;exact(S1.allow j [] o g (W A) (gG a) D).1 rfl
  ·intro j j' o o' g A b8 D bX;exact S1.dist j j' [] [] o o' g (W A) (W b8) (gG a) (gG a) D bX
  ·obtain⟨_,b9,bY,a9,he⟩:=hK.get 0 [] (r y) (by simp[lG]);simp[lG] at a9;subst a9;have b3:=(eV.rep he ez).ren' (r y) rfl b9;cases E:al with
   |false=>exact b3.any (bp E).1
   |true=>refine b3.stable (λb _ L=> ?_) (λ_ _ _=>rfl) (aG _);rw[<-E];exact a5 b (λhf=>L (aD b hf)) E
 cases e with
 |normal=>exact b4 M
 |ret=>exact b4 M
 |_=>exact M.elim
theorem Rep.zero {β:Bd} {F:Nat->Prop} {w:World} {x:AV} {v:Value} (h:Rep β 0 F w x v):Rep0 F w x v:=by
 induction h with
 |pure a v h=>exact h
 |p id q e=>omega
 |so id e D=>omega
 |pe id z C q g o m c e h=>omega
 |mo id e=>omega
 |sv id z H m v e h=>omega
 |sc id q m A e G E=>omega
 |fn f t l j h k=>exact .fn f t l j k
 |ag n l j h k=>exact .ag n l j k
 |tup n l j h k=>exact .tup n l j k
theorem tC.ctr {f:FuncId} {args:List AV} {os:List AO} {r:AV} (h:tC P f false [] args (λ_:Unit=>True) (λ_=>[]) (λ_=>os) (λ_=>r)):j8 P f args os r:=by
 refine⟨h.1,λw L G H K=> ?_⟩;refine(h.2 (λ_=>False) w ⟨λ_=>0,λ_=>undef⟩ L (λg ⟨j,o,hj,_⟩=>jj) ⟨λ_ h=>h.elim,K,λh=>h⟩ (λ_ _ h=>h.elim) (λj o hj=>jj) (λj n o q g hj=>jj) G
  (λj D E=> .pure _ _ (H j D E))).mono ?_
 rintro e M ⟨v,β,_,rfl,_,g⟩;have F:J1 false (Fr (λ_=>False) ⟨λ_=>0,λ_=>undef⟩ []) w β os=FX (λg=>g<w.heap.size) β 0 os:=funext λb=>propext ⟨λh=>by
   rcases h with (⟨_,h⟩|h)|⟨j,o,hj,c⟩
   ·exact .inl h
   ·exact h.1.elim
   ·exact .inr ⟨j,o,hj,by rw[dR];exact c⟩,λh=>by
   rcases h with h|⟨j,o,hj,c⟩
   ·exact .inl (.inl ⟨rfl,h⟩)
   ·exact .inr ⟨j,o,hj,by rw[dR] at c;exact c⟩⟩
 have x:=g.obj;have A:=g.res;have z:=g.own;have t:=g.dist;simp only[vF,F] at x A z t;refine⟨v,β,rfl,g.fr.below (λk ⟨j,o,hj,_⟩=>jj),⟨λj o hj=>by rw[dR];exact x j o hj,λj o b hj a=> ?_,λj n o q b hj l a C=> ?_⟩,A⟩
 ·rw[dR] at a;rcases z b ⟨j,o,hj,a⟩ with ⟨n,q,l,_⟩|h
  ·simp at l
  ·exact h
 ·rw[dR] at a C;exact t j n o q b hj l a C
theorem tC.ctrA {f:FuncId} {args:List AV} {r:AV} (h:tC P f true [] args (λ_:Unit=>True) (λ_=>[]) (λ_=>[]) (λ_=>r)):R8 P f args r:=by
 refine⟨h.1,λF w z l q x=> ?_⟩;refine(h.2 F w ⟨λ_=>0,λ_=>undef⟩ z (λg ⟨j,o,hj,_⟩=>jj) l (λh=>jC) (λj o hj=>jj) (λj A o C g hj=>jj) q
  (λj a c=> .pure _ _ (x j a c))).mono ?_
 rintro e D ⟨v,β,_,rfl,_,g⟩;refine⟨v,rfl,g.fr.below (λk ⟨j,o,hj,_⟩=>jj),?_⟩;have:=g.res.zero;refine this.stable (λb _ t n=>t (.inl (.inr ⟨n,λ⟨j,o,hj,_⟩=>jj⟩))) (λ_ _ _=>rfl) (aG _)
theorem RetIs.toM {os:List AO} {r av:AV} {O:List OE} {nid:Nat} (h:RetIs os r av O nid):RetM false 0 (λ_:Unit=>True) (λ_=>[]) (λ_=>os) (λ_=>r) av O nid:=by obtain⟨f,a,c,e⟩:=h.is;exact⟨(),f,trivial,a,rfl,λ_=>⟨c,e⟩⟩
theorem RetA.toM {r av:AV} {O:List OE} {nid:Nat} (h:RetA r av O nid):RetM true 0 (λ_:Unit=>True) (λ_=>[]) (λ_=>[]) (λ_=>r) av O nid:=by obtain⟨a,c⟩:=h.is;refine⟨(),[],trivial,⟨⟨⟨rfl,a,?_⟩,trivial⟩,trivial,rfl⟩,rfl,λh=>jC⟩;exact c
theorem Ou (l:iM P T) {f:FuncId} {fn:Func} {c:Code} {args:List AV} {os:List AO} {r:AV} (q:P.funcs[f]? =some fn) (g:(fn.name== "runtime.NumGoroutine")=false) (n:fn.body=some c)
  {N:Nat} (k:fn.ntmps=N) {res:List ResultVar} (a:fn.results=res.toArray) (e:Nat.ble args.length N=true) (B:List (Nat×List Gh))
  (h:uR P T N 0 B c ⟨lz 0 args,[],0⟩ (Oq N B T res (RetIs os r))) (j:yR B c=true:=by kernel_rfl):j8 P f args os r:=
 (J8 l q g n k a (al:=false) (ins:=[]) (λ_ _ _ h=>h.toM) e j h).ctr
theorem Ih (l:iM P T) {f:FuncId} {fn:Func} {c:Code} {args:List AV} {r:AV} (q:P.funcs[f]? =some fn) (g:(fn.name== "runtime.NumGoroutine")=false) (n:fn.body=some c)
  {N:Nat} (k:fn.ntmps=N) {res:List ResultVar} (a:fn.results=res.toArray) (e:Nat.ble args.length N=true) (B:List (Nat×List Gh))
  (h:uR P T N 0 B c ⟨lz 0 args,[],0⟩ (Oq N B T res (RetA r))) (j:yR B c=true:=by kernel_rfl):R8 P f args r:=
 (J8 l q g n k a (al:=true) (ins:=[]) (λ_ _ _ h=>h.toM) e j h).ctrA
theorem Ii (q:iM P T) {f:FuncId} {fn:Func} {c:Code} (w:P.funcs[f]? =some fn) (k:(fn.name== "runtime.NumGoroutine")=false) (t:fn.body=some c)
  {N:Nat} (n:fn.ntmps=N) {res:List ResultVar} (g:fn.results=res.toArray) (al:Bool) (ins:List AO) {args:List AV} {Y:Type} (e:Y->Prop) (a os:Y->List AO) (r:Y->AV)
  (j:Nat.ble args.length N=true) (B:List (Nat×List Gh))
  (h:uR P T N ins.length B c ⟨lz 0 args,Y7 0 ins,ins.length⟩ (Oq N B T res (RetM al ins.length e a os r))) (l:yR B c=true:=by kernel_rfl):tC P f al ins args e a os r:=
 J8 q w k t n g (λ_ _ _ h=>h) j l h
end
theorem wr {n:Int} (a: -9223372036854775808<=n) (c:n<=9223372036854775807):IntKind.i64.wrap n=n:=by
 have e:IntKind.i64.wrap n=if(decide (n % 2^64>=2^63))=true then n % 2^64-2^64 else n % 2^64:=rfl;rw[e];by_cases h:n % 2^64>=2^63
 ·rw[aE jH];omega
 ·rw[aB jH];omega
theorem uK {α a:Type} (f:a->α->a) (z:a) (l:List α) (k:Nat) (d:α) (h:k<l.length):(l.take (k+1)).foldl f z=f ((l.take k).foldl f z) (l.getD k d):=by rw[bS h,iQ];simp[List.getD,bL h]
theorem pH {a b:Int} (h:decide (a<b)=true):a<b:=kK h
theorem iT {a b:Int} (h:decide (a<b)=false):b<=a:=jH
theorem j8.of_eq {P:Program} {f:FuncId} {args e:List AV} {os:List AO} {r:AV} (h:vX args e) (c:j8 P f args os r):j8 P f e os r:=
 ⟨c.1,λw n k l=>c.2 w n (h.get.1.trans k) λj a g=>(h.get.2 j a (by rw[<-h.get.1];exact a)).rep0 (l j (by rw[<-h.get.1];exact a) g)⟩
theorem RetIs.so {e sz n n':Nat} {get a:Nat->List AV} {id nid:Nat} {O:List OE} (hg:fK id O=some ([],.row e sz n' a)) (f:n'=n) (hget: ∀k,k<n->a k=get k) (c: ∀k,k<n->AV.freshs (get k)=true):
  RetIs [.row e sz n get] (.so 0) (.so id) O nid:=by
 subst f;refine⟨[(0,id)],⟨⟨⟨rfl,rfl,?_⟩,trivial⟩,⟨⟨rfl,rfl,trivial,?_⟩,trivial⟩,rfl⟩,rfl,c⟩
 ·exact rfl
 ·exact mH
theorem RetA.rs {sz n c:Nat} {get a:Nat->List AV} {O:List OE} {nid:Nat} (f:c=n) (e: ∀k,k<n->a k=get k):RetA (.rs sz n get) (.rs sz c a) O nid:=⟨rfl,⟨rfl,f,e⟩⟩
theorem RetIs.mo {n e c:Nat} {a h val g:Nat->AV} {born f:Nat->Nat} {id nid:Nat} {O:List OE} (l:fK id O=some ([],.mp e h g f c)) (t:e=n)
  (q: ∀k,k<n->h k=a k/\g k=val k/\f k=born k) (j: ∀k,k<n->AV.fresh (a k)=true/\AV.fresh (val k)=true):RetIs [.mp n a val born c] (.mo 0) (.mo id) O nid:=by
 subst t;refine⟨[(0,id)],⟨⟨⟨rfl,rfl,?_⟩,trivial⟩,⟨⟨rfl,rfl,trivial,?_⟩,trivial⟩,rfl⟩,rfl,j⟩
 ·exact rfl
 ·show(match AO.mp e a val born c,fK id O with
   | .dead,_=>True
   |o,some ([],w)=>eN (o.ren (rn [(0,id)])) w
   |_,_=>False)
  rw[l];exact⟨rfl,rfl,q⟩
section
variable {α A : Type} [DecidableEq α]
def kE:List (α×A)->α->A->List (α×A)
 |[],k,v=>[(k,v)]
 |p::r,k,v=>if p.1=k then(k,v)::r else p::kE r k v
def hU:List (α×A)->α->Option A
 |[],_=>none
 |p::r,k=>if p.1=k then some p.2 else hU r k
def Dc (kf:α->AV) (vf:A->AV) (d:α×A) (L:List (α×A)):AO:= .mp L.length (λi=>kf (L.getD i d).1) (λi=>vf (L.getD i d).2) (λi=>i) L.length
theorem xY {L:List (α×A)} {k:α} (h:hU L k=none) (d:α×A): ∀i,i<L.length->(L.getD i d).1≠k:=by
 induction L with
 |nil=>intro i hi;simp at hi
 |cons p r c=>
  unfold hU at h;split at h
  ·cases h
  ·rename_i a;intro i hi;cases i with
   |zero=>simpa using a
   |succ i=>simpa using c h i jI
theorem o8 {L:List (α×A)} {k:α} {v:A} (h:hU L k=some v) (d:α×A): ∃i,i<L.length/\(L.getD i d).1=k/\(L.getD i d).2=v:=by
 induction L with
 |nil=>cases h
 |cons p r a=>
  unfold hU at h;split at h
  ·rename_i he;exact⟨0,jS,jE,jH⟩
  ·obtain⟨i,h1,h2,h3⟩:=a h;exact⟨i+1,j1,j2,j3⟩
theorem sb {L:List (α×A)} {k:α} {v:A} (d:α×A):(∃i,i<L.length/\(L.getD i d).1=k/\(kE L k v).length=L.length/\ ∀j,j<L.length->((kE L k v).getD j d).1=(L.getD j d).1/\((kE L k v).getD j d).2=if j=i then v else(L.getD j d).2)\/
  ((∀i,i<L.length->(L.getD i d).1≠k)/\kE L k v=L++[(k,v)]):=by
 induction L with
 |nil=>exact .inr ⟨λi hi=>by simp at hi,rfl⟩
 |cons p r h=>
  unfold kE;split
  ·rename_i he;refine .inl ⟨0,jS,jE,jS,λj hj=> ?_⟩;cases j with
   |zero=>simp[he]
   |succ j=>simp
  ·rename_i a;rcases h with ⟨i,h1,h2,f,g⟩|⟨h1,h2⟩
   ·refine .inl ⟨i+1,j1,j2,by simp[f],λj hj=> ?_⟩;cases j with
    |zero=>simp
    |succ j=>obtain⟨c,e⟩:=g j jT;simp only[lU,rR];exact⟨c,e⟩
   ·refine .inr ⟨λi hi=> ?_,by rw[h2];rfl⟩;cases i with
    |zero=>simpa using a
    |succ i=>simpa using h1 i jI
theorem aHa {α:Type} (L:List α) (x d:α) (j:Nat):(L++[x]).getD j d=if j<L.length then L.getD j d else if j=L.length then x else d:=by
 exact m6
theorem lJ {kf:α->AV} {vf:A->AV} {d:α×A} {L:List (α×A)} (w: ∀a b,kf a=kf b->a=b) (k:α) (v:A):
  yh L.length (λi=>kf (L.getD i d).1) (λi=>vf (L.getD i d).2) (λi=>i) L.length (kf k) (vf v) (kE L k v).length (λi=>kf ((kE L k v).getD i d).1) (λi=>vf ((kE L k v).getD i d).2) (λi=>i) (kE L k v).length:=by
 rcases sb (L:=L) (k:=k) (v:=v) d with ⟨i,e,c,g,n⟩|⟨e,c⟩
 ·refine .inl ⟨i,e,fW kf c,g,g,λj f=> ?_⟩;obtain⟨h,l⟩:=n j f;refine⟨fW kf h,rfl,(fW vf l).trans ?_⟩;split<;>rfl
 ·refine .inr ⟨λi t q=>e i t (w _ _ q),by rw[c];simp,by rw[c];simp,λj f=> ?_,?_,?_,rfl⟩
  ·rw[c];simp only[aHa,aE f];exact⟨trivial,trivial,trivial⟩
  ·rw[c];simp[]
  ·rw[c];simp[]
theorem lK {kf:α->AV} {vf:A->AV} {d:α×A} {L:List (α×A)} (n: ∀a b,kf a=kf b->a=b) (k:α) (z:A):
  k4 L.length (λi=>kf (L.getD i d).1) (λi=>vf (L.getD i d).2) (kf k) (vf ((hU L k).getD z)) (vf z) (hU L k).isSome:=by
 cases h:hU L k with
 |none=>exact⟨λh=>jC,λ_=>⟨λi l j=>xY h d i l (n _ _ j),eV.refl _⟩⟩
 |some v=>obtain⟨i,c,f,g⟩:=o8 h d;refine⟨λ_=>⟨i,c,fW kf f,?_⟩,λh=>jC⟩;have e:vf ((some v).getD z)=vf (L.getD i d).2:=fW vf g.symm;rw[e];exact eV.refl _
theorem rK {L:List (α×A)} {k j:α} {v:A}:hU (kE L k v) j=if j=k then some v else hU L j:=by
 induction L with
 |nil=>
  simp only[kE,hU];by_cases h:j=k
  ·simp[h]
  ·rw[aB (iS h),aB h]
 |cons p r f=>
  simp only[kE];split
  ·rename_i e;simp only[hU];by_cases h:j=k
   ·simp[h]
   ·rw[aB (iS h),aB h,e,aB (iS h)]
  ·rename_i c;simp only[hU,f];by_cases a:p.1=j
   ·rw[aE a,aE a];by_cases h:j=k
    ·exact absurd (a.trans h) c
    ·rw[aB h]
   ·rw[aB a,aB a]
def iH (L:List (α×A)):List α:=L.map (·.1)
theorem uV {L:List (α×A)} {k:α}:k∈iH L↔(hU L k).isSome=true:=by
 induction L with
 |nil=>simp[iH,hU]
 |cons p r a=>
  simp only[iH,gP,eF,hU];by_cases h:p.1=k
  ·simp[h]
  ·rw[aB h,<-a];simp[iH,iS h]
theorem T7 {L:List (α×A)} (h:(iH L).Nodup) (k:α) (v:A):(iH (kE L k v)).Nodup:=by
 induction L with
 |nil=>simp[kE,iH]
 |cons p r f=>
  simp only[iH,gP,jQ] at h;simp only[kE];split
  ·rename_i e;simp only[iH,gP,jQ];rw[<-e];exact h
  ·rename_i c;simp only[iH,gP,jQ];refine⟨λg=>h.1 ?_,f h.2⟩;have a:p.1∈iH (kE r k v):=g;rw[uV,rK,aB c] at a;exact uV.2 a
end
theorem sD: ∀a b:Int,AV.i .i64 a=AV.i .i64 b->a=b:=λa b h=>jH
end Go.Eng
