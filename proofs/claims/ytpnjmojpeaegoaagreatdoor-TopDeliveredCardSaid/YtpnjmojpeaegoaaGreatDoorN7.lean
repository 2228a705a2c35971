/-
  TopDelivered returns true whatever the input, and the input reads behind the call as it read before, where the three listed tables of Go's library hold what the program's text lays: a part of the proof.
-/
import Derived.OrdersHeld
import Derived.Test.YtpnjmojpeaegoaaGreatDoorN6
set_option linter.unusedSimpArgs false
set_option linter.unusedVariables false
namespace Go.Eng
open Go.RowKit
def aHx:Nat->List Bool->Bool
 |_,[]=>false
 |0,b::_=>b
 |n+1,_::r=>aHx n r
theorem Cv: ∀(n:Nat) (l:List Bool),aHx n l=l.getD n false
 |n,[]=>by cases n<;>rfl
 |0,b::r=>rfl
 |n+1,_::r=>by simpa [aHx] using Cv n r
def pP:Nat->List Bool->List Bool
 |_,[]=>[]
 |0,_::r=>true::r
 |n+1,b::r=>b::pP n r
theorem o4: ∀(n:Nat) (l:List Bool),(pP n l).toArray=l.toArray.setIfInBounds n true
 |n,[]=>by cases n<;>rfl
 |0,b::r=>by simp[pP]
 |n+1,b::r=>by have:=fW Array.toList (o4 n r);apply Array.toList_inj.1;simpa [pP] using this
def WG {α:Sort _}:Nat->List Bool->(List Bool->α)->α
 |_,[],k=>k []
 |0,_::r,k=>k (true::r)
 |n+1,b::r,k=>WG n r λl=>k (b::l)
theorem Tt {α:Sort _}: ∀(n:Nat) (l:List Bool) (k:List Bool->α),WG n l k=k (pP n l)
 |n,[],k=>by cases n<;>rfl
 |0,b::r,k=>rfl
 |n+1,b::r,k=>Tt n r _
def EJ:List Oper->Nat->Option Oper
 |[],_=>none
 |o::_,0=>some o
 |_::r,n+1=>EJ r n
theorem Cw: ∀(l:List Oper) (n:Nat),EJ l n=l[n]?
 |[],n=>by simp[EJ]
 |o::r,0=>rfl
 |o::r,n+1=>by simpa [EJ] using Cw r n
def y5 (L:List Bool):List Edge->Bool
 |[]=>true
 |e::r=>(match Region.binds .any e,aHx e.on L with
  |true,false=>false
  |_,_=>y5 L r)
def Hq (L:List Bool):List Edge->Bool
 |[]=>false
 |e::r=>(match Region.binds .any e,aHx e.on L with
  |true,true=>true
  |_,_=>Hq L r)
theorem D6 {L:List Bool}: ∀{l:List Edge},y5 L l=true-> ∀e∈l,Region.binds .any e=true->L.getD e.on false=true
 |[],_,e,a=>by cases a
 |x::r,h,e,a=>by
  unfold y5 at h;intro c;rcases eF.1 a with rfl|a
  ·rw[<-Cv];split at h
   ·cases h
   ·rename_i f;cases g:aHx e.on L with
    |true=>rfl
    |false=>exact(f c g).elim
  ·split at h
   ·cases h
   ·exact D6 h e a c
theorem gp {L:List Bool}: ∀{l:List Edge},(∀e∈l,Region.binds .any e=true->L.getD e.on false=true)->y5 L l=true
 |[],_=>rfl
 |x::r,h=>by
  unfold y5;split
  ·rename_i a c;have:=h x jS a;rw[<-Cv,c] at this;cases this
  ·exact gp λe f=>h e (fZ _ f)
theorem Hr {L:List Bool}: ∀{l:List Edge},Hq L l=true-> ∃e∈l,Region.binds .any e=true/\L.getD e.on false=true
 |[],h=>jC
 |x::r,h=>by
  unfold Hq at h;split at h
  ·rename_i a c;exact⟨x,jS,a,by rw[<-Cv];exact c⟩
  ·obtain⟨e,f,a⟩:=Hr h;exact⟨e,fZ _ f,a⟩
section
variable {P : Program} {X : List Oper} {Q : Act -> World -> Prop} {S : List Bool -> World -> Prop}
def Oe (X:List Oper) (L:List Bool) (j:Nat):Prop:=L.getD j true=false/\ ∃o,X[j]? =some o/\ ∀e∈o.after.toList,Region.binds .any e=true->L.getD e.on false=true
theorem Y5 {L:List Bool} {j:Nat}:j∈Region.ready .any X.toArray L.toArray↔Oe X L j:=by rw[mem_ready];simp[Oe]
def NoP (Q:Act->World->Prop):Exit->Act->World->Prop:=λe a w=>e= .normal/\Q a w
def x2 (X:List Oper) (i:Nat):Bool:=match X[i]? with
 |some o=>uJ o.op
 |none=>false
def wo (P:Program) (X:List Oper) (Q:Act->World->Prop) (S:List Bool->World->Prop):Nat->List Bool->Act->World->Prop
 |0,L,a,w=>S L w/\(∀j,¬Oe X L j)/\Q a w
 |f+1,L,a,w=>S L w/\((∀j,¬Oe X L j)->Q a w)/\ ∀i,Oe X L i->wpOp P X.toArray (NoP Q) i (λe c=>(x2 X i=true->c=w)/\wo P X Q S f (pP i L) e c) a w
theorem wo.s: ∀{f:Nat} {L:List Bool} {a:Act} {w:World},wo P X Q S f L a w->S L w
 |0,_,_,_,h=>h.1
 |_+1,_,_,_,h=>h.1
theorem Tu: ∀(f:Nat) (L:List Bool) (a:Act) (w:World),wo P X Q S f L a w->wpAny P .any X.toArray (NoP Q) f L.toArray a w
 |0,L,a,w,h=>⟨List.eq_nil_iff_forall_not_mem.2 λj c=>h.2.1 j (Y5.1 c),rfl,h.2.2⟩
 |f+1,L,a,w,h=>⟨λn=>⟨rfl,h.2.1 λj c=>by have:=Y5.2 c;rw[n] at this;cases this⟩,λi g=>wpOp_mono (λl k e=>by rw[<-o4];exact Tu f _ l k e.2) (h.2.2 i (Y5.1 g))⟩
theorem gq {L:List Bool} {i j:Nat} (d:Bool) (h:i≠j):(pP i L).getD j d=L.getD j d:=by have:=getD_set_ne (listed:=L.toArray) d h;rw[<-o4] at this;simpa using this
theorem yp {L:List Bool} {i j:Nat} (h:L.getD j false=true):(pP i L).getD j false=true:=by have:=getD_set_true (listed:=L.toArray) (i:=i) (j:=j) jH;rw[<-o4] at this;simpa using this
theorem Xj {L:List Bool} {i j:Nat} (h:i≠j):pP i (pP j L)=pP j (pP i L):=by
 have:(pP i (pP j L)).toArray=(pP j (pP i L)).toArray:=by rw[o4,o4,o4,o4,Array.setIfInBounds_comm _ _ h]
 simpa using fW Array.toList this
theorem Oe.mono {L:List Bool} {i j:Nat} (h:Oe X L j) (a:j≠i):Oe X (pP i L) j:=by have:=ready_mono (Y5.2 h) a;rw[<-o4] at this;exact Y5.1 this
def yq (X:List Oper):Prop:= ∀(j:Nat) (o:Oper) cs b,X[j]? =some o->o.op≠ .select cs b
theorem Xk {L0:List Bool} {i:Nat} {l:Oper} {v:Value} {B:Nat->Prop} {R:List Bool->World->Prop} (hi:X[i]? =some l) (M:yq X)
  (W: ∀L j,(∀k,L0.getD k false=true->L.getD k false=true)->(∀k,L.getD k false=true->L0.getD k false=true\/B k)->L.getD i true=false->Oe X L j->j≠i->B j)
  (fi: ∀j n,X[j]? =some n->B j->l.apart X.toArray n=true)
  (Y: ∀L j w w',Oe X L j->B j->R L w->(x2 X j=true->w'=w)->S (pP j L) w'->R (pP j L) w') (K: ∀L w,S (pP i L) w->S L w):
  ∀(f:Nat) (L:List Bool) (a:Act) (w:World),(∀k,L0.getD k false=true->L.getD k false=true)->(∀k,L.getD k false=true->L0.getD k false=true\/B k)->Oe X L i->
   YieldsIf P X.toArray (λw=> ∃L,R L w) l v a->R L w->wo P X Q S f (pP i L) (a.put l.dst v) w->wo P X Q S (f+1) L a w:=by
 have O:X.toArray[i]? =some l:=jI
 intro f
 induction f with
 |zero=>
  intro L a w D E q A x H;refine⟨K _ _ H.s,λh=>(h i q).elim,λj g=> ?_⟩;by_cases e:j=i
  ·subst e;exact A.wpOp O ⟨L,x⟩ ⟨λ_=>rfl,H⟩
  ·exact(H.2.1 j (g.mono e)).elim
 |succ f ih=>
  intro L a w D E q A x H;refine⟨K _ _ H.s,λh=>(h i q).elim,λj g=> ?_⟩;by_cases e:j=i
  ·subst e;exact A.wpOp O ⟨L,x⟩ ⟨λ_=>rfl,H⟩
  ·have G:=W L j D E q.1 g e;obtain⟨n,C,_⟩:=g.2;have U:X.toArray[j]? =some n:=by simpa using C
   have h3:=wpOp_putIf U (fi j n C G) (λcs b=>M i l cs b hi) (λcs b=>M j n cs b C) (λc a w h=>by cases h.1) A (H.2.2 j (g.mono e));refine wpOp_mono (λa' w' t=>⟨t.2.1,?_⟩) h3;have F:=t.2.2;rw[Xj e] at F;refine ih (pP j L) a' w' (λk z=>yp (D k z)) (λk z=> ?_) (q.mono (iS e)) t.1 (Y L j w w' g G x t.2.1 (K _ _ F.s)) F;by_cases N:j=k
   ·subst N;exact .inr G
   ·rw[gq false N] at z;exact E k z
end
def Of:Op->Bool
 | .store _ _ _=>true
 | .mapUpdate _ _ _ _=>true
 | .entryStore _ _ _ _=>true
 |_=>false
def Tv {α:Sort _}:List Bool->Bool->(List Bool->α)->α
 |[],b,k=>k [b]
 |x::r,b,k=>Tv r b λl=>k (x::l)
def wtK {α:Sort _} (i:Nat):Nat->List Oper->List Bool->(List Bool->α)->α
 |_,[],a,k=>k a
 |n,o::r,a,k=>(match Nat.beq n i,Hq a o.after.toList with
  |false,false=>Tv a false λa=>wtK i (n+1) r a k
  |_,_=>Tv a true λa=>wtK i (n+1) r a k)
def Og:List Oper->List Bool->List Bool->Bool
 |o::r,false::l,false::m=>(match uJ o.op with
  |true=>Og r l m
  |false=>false)
 |_::r,_::l,_::m=>Og r l m
 |_,_,_=>true
inductive Pk where
 |done
 |one (i m:Nat)
 |many
def Oh (X:List Oper) (L0:List Bool):Nat->List Oper->List Bool->Option Nat->Option Nat->Bool->Pk
 |n,o::a,false::l,r,b,m=>(match y5 L0 o.after.toList with
  |false=>Oh X L0 (n+1) a l r b m
  |true=>(match r9 o.op,r,b with
   |0,_,_=> .one n 0
   |1,none,b=>Oh X L0 (n+1) a l (some n) b m
   |1,some p,b=>Oh X L0 (n+1) a l (some p) b m
   |_,r,none=>Oh X L0 (n+1) a l r (some n) m
   |_,r,some p=>Oh X L0 (n+1) a l r (some p) true))
 |n,_::a,_::l,r,b,m=>Oh X L0 (n+1) a l r b m
 |_,_,_,some n,_,_=>wtK n 0 X [] λW=>(match Og X L0 W with
  |true=> .one n 0
  |false=> .one n 1)
 |_,_,_,none,some n,false=> .one n 2
 |_,_,_,none,some _,true=> .many
 |_,_,_,none,none,_=> .done
def pick (X:List Oper) (L:List Bool):Pk:=Oh X L 0 X L none none false
def Oi (p:Nat->Oper->Bool):Nat->List Oper->Bool
 |_,[]=>true
 |n,o::r=>p n o&&Oi p (n+1) r
theorem J5 {p:Nat->Oper->Bool}: ∀{n:Nat} {l:List Oper},Oi p n l=true-> ∀j o,l[j]? =some o->p (n+j) o=true
 |n,[],_,j,o,h=>jh
 |n,x::r,h,j,o,a=>by
  unfold Oi at h;rw[aW] at h;cases j with
  |zero=>cases a;exact h.1
  |succ j=>
   have:=J5 h.2 j o (by simpa using a)
   rwa [fT,rO 1] at this
def WH:Op->Bool
 | .load _ _| .binOp _ _ _ _ _| .call ⟨.builtin .len,_,_⟩=>true
 |_=>false
def EK (m:Nat) (a:Op):Bool:=
 match m with
 |0=>Nat.beq (r9 a) 0||uJ a
 |1=>WH a
 |_=>false
def Tw (wf:Bool) (m:Nat) (x y:Op):Bool:=
 match m with
 |0=>Nat.beq (r9 x) 0||uJ y
 |_=> !(wf&&Of y)
def D7 (X:List Oper) (wf:Bool) (L:List Bool) (i m:Nat):Bool:=
 match X[i]? with
 |none=>false
 |some c=> !L.getD i true&&(y5 L c.after.toList&&(match m with
  |2=>Oi (λj a=>Nat.beq j i||(L.getD j true|| !y5 L a.after.toList)) 0 X
  |m=>wtK i 0 X [] λW=>EK m c.op&&
   Oi (λj a=>(!L.getD j false|| !W.getD j false)&&((!W.getD j false||(Nat.beq j i||Hq W a.after.toList))&&
    (L.getD j false||(W.getD j false||(c.apart X.toArray a&&Tw wf m c.op a.op))))) 0 X&&(Nat.beq m 0||Oi (λj a=> !(L.getD j false&&(wf&&Of a.op))) 0 X)))
def WI:List Bool->Bool
 |[]=>true
 |true::r=>WI r
 |false::_=>false
def WJ:Pk->Bool
 | .done=>true
 |_=>false
def okR (X:List Oper) (wf:Bool):Nat->List Bool->Bool
 |0,L=>WI L&&WJ (pick X L)
 |f+1,L=>(match pick X L with
  | .one i m=>D7 X wf L i m&&okR X wf f (pP i L)
  | .many=>true
  | .done=>false)
def Tx:List Oper->Bool
 |[]=>true
 |o::r=>(match o.op with
  | .select _ _=>false
  |_=>Tx r)
theorem yr: ∀{X:List Oper},Tx X=true->yq X
 |[],_,j,o,c,b,h=>jh
 |x::r,a,j,o,c,b,h=>by
  unfold Tx at a;split at a
  ·cases a
  ·rename_i e;cases j with
   |zero=>cases h;exact e c b
   |succ j=>exact yr a j o c b jH
def OK (c:List Nat) (ev:Operand->Option AV) (a:Op):Bool:=
 match a with
 | .load _ x=>(match ev x with
  |some (.rp _)=>true
  |some (.p id _)=>tS id c
  |_=>false)
 | .binOp a _ x y _=>(match ev x,ev y with
  |some (.i j p),some (.i e q)=>(match Nat.beq (kn j) (kn e),NN a j p q with
   |true,some _=>true
   |_,_=>false)
  |some (.s _),some (.s _)=>(match a with
   | .add=>true
   |_=>false)
  |_,_=>false)
 | .call ⟨.builtin .len,⟨[x]⟩,⟨[_]⟩⟩=>(match ev x with
  |some (.rs _ _ _)=>true
  |_=>false)
 |_=>false
def aHi (kids:List Nat):Bool->List Nat
 |true=>kids
 |false=>[]
def byB {α:Sort _} (b:Bool) (k:Bool->α):α:=
 match b with
 |true=>k true
 |false=>k false
theorem EL {α:Sort _} (b:Bool) (k:Bool->α):byB b k=k b:=by cases b<;>rfl
def Xl (wf:Bool) (a:Op) (ph:Bool):Bool:=
 match wf,Of a with
 |true,true=>false
 |_,_=>ph
def P9 (P:Program) (T:List (Nat×TI)) (N:Nat) (d:List Oper) (wf:Bool) (kids:List Nat) (ph:Bool) (i m:Nat) (c:Prop) (st:St) (k:Bool->St->Prop):Prop:=
 match EJ d i with
 |none=>False
 |some o=>byB (Xl wf o.op ph) λph=>(match m,st with
  |1,⟨K,O,a⟩=>(match gk d K o.guard with
   |some e=>(match OK (aHi kids ph) (i3 K e) o.op with
    |true=>J4 P T N (aHi kids ph) d o ⟨K,O,a⟩ (k ph)
    |false=>c)
   |none=>False)
  |_,st=>J4 P T N (aHi kids ph) d o st (k ph))
inductive Pl where
 |leaf
 |st (i m:Nat) (r:Pl)
 |br (i:Nat) (x:Pl) (j:Nat) (y:Pl)
def Ty (d:List Oper) (L:List Bool) (i:Nat):Bool:=match d[i]? with
 |some o=> !L.getD i true&&y5 L o.after.toList
 |none=>false
def UF (d:List Oper) (wf:Bool) (F:List Bool):List Bool->Pl->Bool
 |L,.leaf=>L==F
 |L,.st i m r=>D7 d wf L i m&&UF d wf F (pP i L) r
 |L,.br i x j y=>Ty d L i&&(Ty d L j&&(Oi (λn o=>Nat.beq n i||(Nat.beq n j||(L.getD n true|| !y5 L o.after.toList))) 0 d&&(UF d wf F (pP i L) x&&UF d wf F (pP j L) y)))
def rr:List Bool->Pl->List Bool
 |L,.leaf=>L
 |L,.st i _ r=>rr (pP i L) r
 |L,.br i x _ _=>rr (pP i L) x
def Hs (P:Program) (T:List (Nat×TI)) (N:Nat) (d:List Oper) (wf:Bool) (kids:List Nat):Pl->Bool->St->(Bool->St->Prop)->Prop
 | .leaf,a,st,k=>k a st
 | .st i m r,a,st,k=>P9 P T N d wf kids a i m False st λa st=>Hs P T N d wf kids r a st k
 | .br i x j y,a,st,k=>(P9 P T N d wf kids a i 2 False st λa st=>Hs P T N d wf kids x a st k)/\P9 P T N d wf kids a j 2 False st λa st=>Hs P T N d wf kids y a st k
def s2:List Bool->Nat
 |[]=>0
 |true::r=>s2 r
 |false::r=>s2 r+1
def lkB (ρ:List (Nat×Nat)) (O:List OE) (n:Nat):List Nat->Bool
 |[]=>true
 |k::r=>(match Nat.beq (rn ρ k) k,Nat.blt k n,fK k O with
  |true,true,some _=>lkB ρ O n r
  |_,_,_=>false)
def UG (e:Nat) (kids:List Nat) (ph:Bool) {Y:Type} (I:Y->Prop) (s:Y->St) (ba:Bool) (c:St):Prop:=
 match ph,ba with
 |true,true=> ∃z a,I z/\(match s z with|⟨_,O,n⟩=>lkB a O n kids=true)/\Cs e a (s z) c
 |false,false=> ∃z a,I z/\True/\Cs e a (s z) c
 |_,_=>False
abbrev EM (P:Program) (T:List (Nat×TI)) (N a:Nat) (d:List Oper) (wf:Bool) (kids:List Nat) (c:List Bool->Bool->St->(St->Prop)->Prop) (L:List Bool) (ph:Bool) (st:St) (k:St->Prop):Prop:=
 ∃t:Pl,(UF d wf (rr L t) L t&&okR d wf (s2 (rr L t)) (rr L t))=true/\ ∃(Y:Type) (I:Y->Prop) (s:Y->St),
   Hs P T N d wf kids t ph st (UG a kids ph I s)/\ ∀z,I z->Nat.ble a (s z).nid=true/\c (rr L t) ph (s z) k
def Oj (P:Program) (T:List (Nat×TI)) (N c:Nat) (d:List Oper) (wf:Bool) (kids:List Nat) (a:List Bool->Bool->St->(St->Prop)->Prop) (L:List Bool) (ph:Bool) (st:St) (k:St->Prop):Prop:=
 match pick d L with
 | .done=>k st
 | .one i m=>WG i L λe=>P9 P T N d wf kids ph i m (EM P T N c d wf kids a L ph st k) st λph st=>a e ph st k
 | .many=>EM P T N c d wf kids a L ph st k
def Cy (P:Program) (T:List (Nat×TI)) (N c:Nat) (d:List Oper) (wf:Bool) (kids:List Nat) (f:List Oper):List Bool->Bool->St->(St->Prop)->Prop:=
 List.rec (motive:=λ_=>List Bool->Bool->St->(St->Prop)->Prop) (λ_ _ _ _=>False) (λ_ _ a=>Oj P T N c d wf kids a) f
def gu:List Oper->List Bool
 |[]=>[]
 |_::r=>false::gu r
def WK {α:Sort _}:List Oper->(List Bool->α)->α
 |[],k=>k []
 |_::r,k=>WK r λl=>k (false::l)
theorem Tz {α:Sort _}: ∀(l:List Oper) (k:List Bool->α),WK l k=k (gu l)
 |[],k=>rfl
 |_::r,k=>Tz r _
def Ua (O:List OE):List Nat->Bool
 |[]=>true
 |i::r=>(match fK i O with
  |some ([],_)=>Ua O r
  |_=>false)
def EN (P:Program) (T:List (Nat×TI)) (N a:Nat) (d:List Oper) (wf:Bool) (kids:List Nat) (st:St) (k:St->Prop):Prop:=
 match Ua st.O kids with
 |true=>WK d λL=>Cy P T N a d wf kids (⟨none,.move (.tmp 0),0,"",#[],none⟩::d) L true st k
 |false=>False
def EO (d:List Oper) (wf:Bool):Bool:=Tx d&&okR d wf (s2 (gu d)) (gu d)
section
variable {C : Cx} {P : Program} {T : List (Nat × TI)} {w : World} {N : Nat} {a : Act} {d : List Oper} {wf : Bool} {kids : List Nat} {B X : Nat -> Prop} {Z : World}
theorem J6: ∀{i:Nat} {L:List Bool},L.getD i true=false->s2 L=s2 (pP i L)+1
 |_,[],h=>jh
 |0,b::r,h=>by
  have:b=false:=jH
  subst this;rfl
 |i+1,b::r,h=>by have:=J6 (i:=i) (L:=r) jH;cases b<;>simp[s2,pP,this]
theorem OL {P:Program} {t:TypeId} {x y:Operand} {p q:ByteArray} {v:Value} {w w':World} (h:(lD .add t x y (.string p) (.string q)).run P w= .ok v w):(lD .add t x y (.string p) (.string q)).run P w'= .ok v w':=by
 unfold lD at h|-;rw[Sem.run_bind,X2] at h|-;simp only[Result.andThen_ok,binOp,Op.stringOp] at h|-;split at h
 ·simp at h
 ·rename_i a;rw[aB a];simpa using h
theorem OM {n:List Nat} {o:Oper} {K:List KE} {O:List OE} {nid:Nat} {k:St->Prop} {tg:oS} (q:Ny o.op=false) (a:gk d K o.guard=some tg) (h:J4 P T N n d o ⟨K,O,nid⟩ k):
  ∃f l t,aH2 P T f (i3 K tg) l (Y3 O tg) nid o.op t/\(∀c,f=some c->f=OI K tg):=by
 unfold J4 at h;dsimp only at h;split at h
 ·rename_i j;rw[j] at a;cases a;exact⟨_,_,_,h,λc h=>jC⟩
 ·rename_i g j;rw[j] at a;split at h
  ·rename_i w _ e _;rw[e] at a;cases a;exact⟨_,_,_,h,λ_ _=>rfl⟩
  ·rename_i e;rw[q] at e;cases e
  ·cases h
theorem Xm (hT:iM P T) {o:Oper} {K:List KE} {O:List OE} {nid:Nat} {β:Bd} {k:St->Prop} {tg:oS} (S:SimF C (λs=>lG s K) (λid=>fK id O) nid β a w) (bR:gk d K o.guard=some tg) (Q:sat tg a)
  (f:OK C.lo (i3 K tg) o.op=true) (h:J4 P T C.N C.lo d o ⟨K,O,nid⟩ k) {v:Value} (M:(execOp a.eval o).run P w= .ok (.value v) w) {w':World}
  (hw: ∀g,C.bk g->w'.heap[g]? =w.heap[g]?) (hp: ∀g,g<w.heap.size-> ¬FO C.G (λid=>fK id O) β a g->w'.heap[g]? =w.heap[g]?):(execOp a.eval o).run P w'= .ok (.value v) w':=by
 have hc:Ny o.op=false:=by
  unfold OK at f;split at f<;>first|(rename_i h;rw[h];rfl)|cases f
 obtain⟨gc,b0,k',h,am⟩:=OM hc bR h;have a7: ∀c,gc=some c->c:=λc F=>T2 S Q c (by rw[<-am c F];exact F);have ev: ∀x r,i3 K tg x=some r->Rep β nid (FO C.G (λid=>fK id O) β a) w r (a.eval x):=λx r l=>x1 S Q x r l;have E:=S.env (zU (O:=O) Q);obtain⟨dst,op,U,pos,after,W⟩:=o;have Y: ∀{s:Sem Value} {x:Value},execOp a.eval ⟨dst,op,U,pos,after,W⟩=(do pure (Next.value (<-s)):Sem Next)->(s.run P w= .ok x w)->s.run P w'= .ok x w'->(execOp a.eval ⟨dst,op,U,pos,after,W⟩).run P w'= .ok (.value v) w':=by intro s x he F h2;rw[he] at M|-;rw[jG F] at M;cases M;exact jG h2
 unfold OK at f;dsimp only at f h;split at f
 ·rename_i t x h;unfold aH2 at h;obtain⟨r,l,h⟩:=fI h;rw[l] at f;split at h
  ·rename_i ti ht;obtain⟨y,g,o',D,a2,_⟩:=ka (P:=P) a7 E.toEnv (hT.get ht) (ev _ _ l) h;refine Y (s:=Instr.loadAt t (a.eval x)) rfl (a2 w rfl) (a2 w' ?_);split at f
   ·rename_i cs a0;cases a0;have a5:=(ev _ _ l).rp_inv;rw[D] at a5;cases a5 with
    |rp _ _ _ vs hF hg=>exact hp g hg hF
   ·rename_i id b1 a8;cases a8;obtain⟨_,a3⟩:=(ev _ _ l).p_inv;rw[D] at a3;cases a3;unfold Gi at h;dsimp only at h;split at h
    ·rename_i e cs ae;obtain⟨gg,hO,a9⟩:=zU (O:=O) Q id _ ae;exact hw _ ((S.allow id gg _ (β.blk id) hO a9 rfl).2 f)
    ·cases h
   ·cases f
  ·cases h
 ·rename_i a4 t x y u h;split at f
  ·rename_i j p j' q l hy;split at f
   ·rename_i r hk hb;obtain rfl:=qh hk;obtain⟨z,R,_⟩:=qi (P:=P) (w:=w) t hb;have H:a.eval x= .int j p:=(ev _ _ l).i_inv;have L:a.eval y= .int j q:=(ev _ _ hy).i_inv;have aP: ∀w2,(lD a4 t x y (a.eval x) (a.eval y)).run P w2= .ok z w2:=λw2=>by rw[H,L];unfold lD;rw[Sem.run_bind,yc];exact R w2
    exact Y (s:=lD a4 t x y (a.eval x) (a.eval y)) rfl (aP w) (aP w')
   ·cases f
  ·rename_i p q l hy;split at f
   ·have H:a.eval x= .string p:=(ev _ _ l).s_inv;have L:a.eval y= .string q:=(ev _ _ hy).s_inv;have A:=M;simp only[execOp] at A;rw[Sem.run_bind] at A;have h0: ∃z,(lD .add t x y (.string p) (.string q)).run P w= .ok z w:=by
     rw[<-H,<-L];unfold lD;generalize (do eqGuard BinOp.add t x y (a.eval x) (a.eval y);binOp .add t (a.eval x) (a.eval y):Sem Value).run P w=res at A|-;cases res with
     |ok z w1=>simp at A;exact⟨z,by rw[A.2]⟩
     |halt _ _=>simp at A
    obtain⟨z,R⟩:=h0;exact Y (s:=lD .add t x y (a.eval x) (a.eval y)) rfl (by rw[H,L];exact R) (by rw[H,L];exact OL R)
   ·cases f
  ·cases f
 ·rename_i x t h;unfold aH2 at h;obtain⟨r,l,h⟩:=fI h;rw[l] at f;split at f
  ·rename_i sz n get a0;cases a0;unfold DK at h;split at h
   ·rename_i ti F;dsimp only at h;split at h
    ·rename_i e h2;have a6:=(ev _ _ l).rs_inv;have a1: ∀(ad:Option Addr) (m c:Nat),a.eval x= .slice ad m c->(execOp a.eval ⟨dst,.call ⟨.builtin .len,⟨[x]⟩,⟨[t]⟩⟩,U,pos,after,W⟩).run P w'= .ok (.value v) w':=λad m c e=>by have hl:=λw2:World=>lX (P:=P) (w:=w2) hT F h2 U ad m c #[t] rfl;have:=M;simp[execOp,resolve,invoke,builtin,e,hl] at this|-;exact this
     generalize D:a.eval x=va at a6;cases a6 with
     |rsnil=>exact a1 _ _ _ D
     |rsz=>exact a1 _ _ _ D
     |rs=>exact a1 _ _ _ D
    ·cases h
   ·cases h
  ·cases f
 ·cases f
end
theorem EQ {i:Nat}: ∀(r:List Oper) (n:Nat) (a:List Bool),∃W,∀{α:Sort _} (k:List Bool->α),wtK i n r a k=k W
 |[],n,a=>⟨a,λk=>rfl⟩
 |o::r,n,a=>by
  have h: ∀{α:Sort _} (l:List Bool) (b:Bool) (k:List Bool->α),Tv l b k=k (l++[b]):=λ{α} l b=>by
   induction l with
   |nil=>intro k;rfl
   |cons x l q=>intro k;exact q _
  obtain⟨W,c⟩:=EQ r (n+1) (a++[match Nat.beq n i,Hq a o.after.toList with|false,false=>false|_,_=>true])
  refine⟨W,λk=> ?_⟩;unfold wtK;split
  ·rename_i f g;rw[h];rw[f,g] at c;exact c k
  ·rename_i f;rw[h];have e:(match Nat.beq n i,Hq a o.after.toList with|false,false=>false|_,_=>true)=true:=by
    split
    ·rename_i g j;exact(f g j).elim
    ·rfl
   rw[e] at c;exact c k
theorem s3: ∀(i:Nat) (L:List Bool),(pP i L).length=L.length
 |i,[]=>by cases i<;>rfl
 |0,b::r=>rfl
 |i+1,b::r=>by simp[pP,s3 i r]
theorem yt: ∀{i:Nat} {L:List Bool},L.getD i true=false->(pP i L).getD i false=true
 |_,[],h=>jh
 |0,b::r,h=>rfl
 |i+1,b::r,h=>by simpa [pP] using yt (i:=i) (L:=r) jH
theorem ON {L:List Bool} {i:Nat} (h:L.getD i true=false):L.getD i false=false:=by
 rcases kM i L.length with a|a
 ·simpa [a] using h
 ·simp[a] at h
def ER (d:List Oper) (wf:Bool) (j:Nat):Bool:=match d[j]? with
 |some o=>wf&&Of o.op
 |none=>false
structure Bs where
 A:Nat->Prop
 K:Nat->Prop
 w:World
def aGz (C:Cx) (D:Bs) (kids:List Nat):Bool->Cx
 |true=>{C with al:=D.A,w0:=D.w,lo:=kids,bk:=D.K}
 |false=>C
structure Reg (C:Cx) (D:Bs) (kids:List Nat):Prop where
 lo:C.lo=[]
 kb: ∀b,D.K b->b<D.w.heap.size/\ ¬D.A b
 un: ∀{st a w},wU (aGz C D kids true) st a w->wU C st a w
def Sx (d:List Oper) (wf:Bool) (D:Bs) (L:List Bool) (w:World):Prop:=(∀j,ER d wf j=true->L.getD j false=false)->Frame D.A D.w w
def aH3 (d:List Oper) (wf:Bool) (L:List Bool) (ph:Bool):Prop:=ph=true\/ ∃j,ER d wf j=true/\L.getD j false=true
section
variable {C : Cx} {P : Program} {T : List (Nat × TI)} {w : World} {a : Act} {d : List Oper} {wf : Bool} {kids : List Nat} {D : Bs} {Q : Act -> World -> Prop} {st : St} {L : List Bool} {ph : Bool} {f i m : Nat}
theorem WL (R:wU (aGz C D kids ph) st a w) (f:aH3 d wf L ph):Sx d wf D L w:=λg=>by
 rcases f with rfl|⟨j,e,c⟩
 ·obtain⟨h,S⟩:=R;exact S.below
 ·rw[g j e] at c;cases c
theorem aH3.set (h:aH3 d wf L ph):aH3 d wf (pP i L) ph:=h.imp_right λ⟨j,a,c⟩=>⟨j,a,yp c⟩
theorem Ht {o:Op} (h:r9 o=0):uJ o=true:=by
 unfold r9 at h;split at h<;>first|rfl|(split at h<;>cases h)
theorem Xn {o:Op} (h:WH o=true):uJ o=true/\Of o=false:=by
 unfold WH at h;split at h<;>first|exact nT|cases h
theorem Hu {o:Op} (h:uJ o=true):Of o=false:=by
 unfold Of;split<;>first|rfl|cases h
theorem rt (E:iM P T) (A:Reg C D kids) {o:Oper} (F:d[i]? =some o) (R:wU (aGz C D kids ph) st a w) {k:St->Prop} (h:J4 P T C.N (aHi kids ph) d o st k):
  (uJ o.op=false-> ∀{K:Act->World->Prop},(∀c j w',k c->wU (aGz C D kids ph) c j w'->K j w')->wpOp P d.toArray (NoP Q) i K a w)/\
  (uJ o.op=true-> ∃v,((Region.wanted o (yielded d.toArray a.tmps)=true/\(execOp a.eval o).run P w= .ok (.value v) w/\(r9 o.op=0-> ∀w',(execOp a.eval o).run P w'= .ok (.value v) w'))\/(Region.wanted o (yielded d.toArray a.tmps)=false/\v=undef))/\ ∃c,k c/\wU (aGz C D kids ph) c (a.put o.dst v) w):=by
 obtain⟨M,S⟩:=R;have x:(aGz C D kids ph).N=C.N/\(aGz C D kids ph).lo=aHi kids ph:=by
  cases ph
  ·exact⟨rfl,A.lo⟩
  ·exact nT
 rw[<-x.1,<-x.2] at h;obtain⟨l,n⟩:=yo E S h;refine⟨λL K t=> ?_,λL=> ?_⟩
 ·unfold wpOp;rw[show d.toArray[i]? =some o by simpa using F];dsimp only;split
  ·rename_i g;exact .inl ((l g).1.upon λv w' ⟨c,H,e,f⟩=>t c _ w' e ⟨H,f⟩)
  ·rename_i g;obtain⟨c,e,f,q⟩:=n g;exact t c _ w e ⟨_,f⟩
 ·cases g:Region.wanted o (yielded d.toArray a.tmps) with
  |true=>obtain⟨v,G,z,c,e,f,q⟩:=(l g).2 L;exact⟨v,.inl ⟨rfl,G,z⟩,c,e,_,f⟩
  |false=>obtain⟨c,e,f,q⟩:=n (by rw[g];exact vN);exact⟨undef,.inr nT,c,e,_,f⟩
theorem gx (hT:iM P T) (G:Reg C D kids) (S:L.getD i true=false) (Y:aH3 d wf L ph) (R:wU (aGz C D kids ph) st a w) {k:Bool->St->Prop} {E:Prop} (M:m=1-> ¬E) (h:P9 P T C.N d wf kids ph i m E st k)
  {K:Act->World->Prop} (F: ∀ba e c w',aH3 d wf (pP i L) ba->k ba e->wU (aGz C D kids ba) e c w'->K c w'):wpOp P d.toArray (NoP Q) i (λc w'=>(x2 d i=true->w'=w)/\K c w') a w:=by
 unfold P9 at h;split at h
 ·cases h
 ·rename_i o f;rw[Cw] at f;have H:x2 d i=uJ o.op:=by unfold x2;rw[f]
  have x: ∀ba,aH3 d wf (pP i L) ba->wU (aGz C D kids ba) st a w->J4 P T C.N (aHi kids ba) d o st (k ba)->wpOp P d.toArray (NoP Q) i (λc w'=>(x2 d i=true->w'=w)/\K c w') a w:=by
   intro ba A O h;obtain⟨W,n⟩:=rt (Q:=Q) hT G f O h;cases j:uJ o.op with
   |false=>exact W j λe c w' q t=>⟨λh=>(by rw[H,j] at h;cases h),F ba e c w' A q t⟩
   |true=>
    obtain⟨v,hv,e,q,t⟩:=n j;have z:=F ba e _ w A q t;unfold wpOp;rw[show d.toArray[i]? =some o by simpa using f];dsimp only;rcases hv with ⟨l,U,_⟩|⟨l,rfl⟩
    ·rw[aE l];exact .inl (by unfold Oper.wp;rw[U];exact⟨λ_=>rfl,z⟩)
    ·rw[aB (by rw[l];exact vN)];exact⟨λ_=>rfl,z⟩
  rw[EL] at h;have g:aH3 d wf (pP i L) (Xl wf o.op ph)/\wU (aGz C D kids (Xl wf o.op ph)) st a w:=by
   unfold Xl;split
   ·rename_i n;refine⟨.inr ⟨i,by unfold ER;rw[f];simp[n],yt S⟩,?_⟩;cases ph with
    |false=>exact R
    |true=>exact G.un R
   ·exact⟨Y.set,R⟩
  split at h
  ·split at h
   ·split at h
    ·exact x _ g.1 g.2 h
    ·exact(M rfl h).elim
   ·cases h
  ·exact x _ g.1 g.2 h
theorem UH {S e:List Bool->World->Prop} (c: ∀L w,S L w->e L w): ∀(f:Nat) (L:List Bool) (a:Act) (w:World),wo P d Q S f L a w->wo P d Q e f L a w
 |0,_,_,_,h=>⟨c _ _ h.1,h.2⟩
 |f+1,_,_,_,h=>⟨c _ _ h.1,h.2.1,λi j=>wpOp_mono (λ_ _ g=>⟨g.1,UH c f _ _ _ g.2⟩) (h.2.2 i j)⟩
theorem SimF.rebase {E:Cx} {β:Bd} (M:E.lo=[]\/E.lo=kids) (hk: ∀id,tS id kids=true->id<st.nid) (S:SimF E (λs=>lG s st.K) (λid=>fK id st.O) st.nid β a w): ∃D:Bs,D.w=w/\
  SimF {E with al:=D.A,w0:=w,lo:=kids,bk:=D.K} (λs=>lG s st.K) (λid=>fK id st.O) st.nid β a w/\(∀b,D.K b->b<w.heap.size/\ ¬D.A b)/\(∀b,D.A b->FO E.G (λid=>fK id st.O) β a b)/\
  (∀b,D.A b->E.al b\/E.w0.heap.size<=b)/\ ∀{H L U},wU {E with al:=D.A,w0:=w,lo:=kids,bk:=D.K} H L U->wU E H L U:=by
 have a3: ∀{id},tS id kids=false->tS id E.lo=false:=λ{id} h=>by
  rcases M with e|e
  ·rw[e];rfl
  ·rw[e];exact h
 have F: ∀{id},tS id E.lo=true->E.lo=kids:=λ{id} h=>M.resolve_left λe=>by rw[e] at h;cases h
 have C: ∀b,(∃id g o,tS id kids=false/\fK id st.O=some (g,o)/\sat g a/\dG β id o b)->E.al b\/E.w0.heap.size<=b:=λb ⟨id,g,o,n,c,f,j⟩=>(S.allow id g o b c f j).1 (a3 n);refine⟨⟨λb=> ∃id g o,tS id kids=false/\fK id st.O=some (g,o)/\sat g a/\dG β id o b,λb=> ∃id g o,tS id kids=true/\fK id st.O=some (g,o)/\sat g a/\dG β id o b,w⟩,rfl,?_,
  λb ⟨id,g,o,n,c,f,j⟩=>⟨((S.of id g o c).2 f).lt j,λ⟨q,t,x,Y,a0,a1,a2⟩=> ?_⟩,λb ⟨id,g,o,_,c,f,j⟩=> .inr ⟨id,g,o,c,f,j⟩,C,λ{H L U} ⟨a4,l⟩=>⟨a4,?_⟩⟩
 ·exact⟨⟨λb W=>eS (S.gold.1 b W) S.below.size,S.tb.1,λ⟨id,g,o,_,c,f,j⟩=>S.tb.2 (.inr ⟨id,g,o,c,f,j⟩),S.gold.2.2.2⟩,λb ⟨id,g,o,_,c,f,j⟩=>S.apart c f j,Frame.refl _ _,S.tsz,S.dfs,S.ag,
   ⟨hk,λb ⟨id,g,o,_,c,f,j⟩=>⟨((S.of id g o c).2 f).lt j,λe=>S.tb.2 (e▸ .inr ⟨id,g,o,c,f,j⟩),S.apart c f j⟩⟩,S.kf,S.of,λid g o b n c f=>⟨λh=> .inl ⟨id,g,o,h,n,c,f⟩,λh=>⟨id,g,o,h,n,c,f⟩⟩,S.dist⟩
 ·rw[S.dist id q g t o x b c a0 f a1 j a2,Y] at n;cases n
 ·refine⟨S.gold,S.dj,S.below.trans l.below λb W h=>(C b h).resolve_right J,l.tsz,l.dfs,l.ag,⟨λid h=>l.lk.1 id (F h▸h),S.lk.2⟩,l.kf,l.of,λid g o b n c f=>⟨λz=> ?_,λz=> ?_⟩,l.dist⟩
  ·obtain⟨j,h5⟩:=l.allow id g o b n c f;cases R:tS id kids with
   |true=>
    obtain⟨q,t,x,_,N,P,Q⟩:=h5 R;refine(S.allow q t x b N P Q).1 ?_;rcases M with e|e
    ·rw[e];rfl
    ·rw[e,R] at z;cases z
   |false=>
    rcases j R with h|h
    ·exact C b h
    ·exact .inr (cO S.below.size h)
  ·obtain⟨q,t,x,e1,N,P,Q⟩:=(l.allow id g o b n c f).2 (F z▸z);exact(S.allow q t x b N P Q).2 (F z▸e1)
theorem Hv (hT:iM P T) (hR:Reg C D kids) (aX:yq d) (a8:L.length=d.length) (t:D7 d wf L i m=true) (hm:m≠2) (hI:aH3 d wf L ph) (R:wU (aGz C D kids ph) st a w) {k:Bool->St->Prop}
  {el:Prop} (a4:el->wo P d Q (Sx d wf D) (f+1) L a w) (h:P9 P T C.N d wf kids ph i m el st k) (hK: ∀(D:Bs) ba Y a' w',Reg C D kids->aH3 d wf (pP i L) ba->k ba Y->wU (aGz C D kids ba) Y a' w'->wo P d Q (Sx d wf D) f (pP i L) a' w'):wo P d Q (Sx d wf D) (f+1) L a w:=by
 unfold D7 at t;cases H:d[i]? with
 |none=>rw[H] at t;cases t
 |some A=>
  rw[H] at t;dsimp only at t;rw[aW,aW,dQ] at t;obtain⟨bw,c0,t⟩:=t;split at t
  ·exact(hm rfl).elim
  obtain⟨W,hW⟩:=EQ (i:=i) d 0 [];rw[hW,aW,aW] at t;obtain⟨⟨E,U⟩,a9⟩:=t;have a1:uJ A.op=true:=by
   unfold EK at E;split at E
   ·rw[eZ] at E;rcases E with h|h
    ·exact Ht jH
    ·exact h
   ·exact(Xn E).1
   ·cases E
  have U: ∀j c,d[j]? =some c->(L.getD j false=true->W.getD j false=false)/\(W.getD j false=true->j=i\/Hq W c.after.toList=true)/\
    (L.getD j false=false->W.getD j false=false->A.apart d.toArray c=true/\Tw wf m A.op c.op=true):=λj c z=>by
   have:=J5 U j c z;rw[dR] at this;simp only[aW,eZ,dQ] at this;obtain⟨F,n,G⟩:=this;refine⟨λh=> ?_,λh=> ?_,λh h'=> ?_⟩
   ·exact F.resolve_left (by rw[h];exact Bool.noConfusion)
   ·rcases n with n|n
    ·rw[h] at n;cases n
    ·exact n.imp_left λh=>jH
   ·rcases G with G|G|G
    ·rw[h] at G;cases G
    ·rw[h'] at G;cases G
    ·exact G
  have b0:Oe d L i:=⟨bw,A,H,D6 c0⟩
  let B:Nat->Prop:=λj=>L.getD j false=false/\W.getD j false=false
  have b7: ∀l j,(∀k,L.getD k false=true->l.getD k false=true)->(∀k,l.getD k false=true->L.getD k false=true\/B k)->l.getD i true=false->Oe d l j->j≠i->B j:=by
   rintro l j F n _ ⟨h4,c,x,h5⟩ a0;have b5:L.getD j false=false:=by
    cases hx:L.getD j false with
    |false=>rfl
    |true=>have h6:=F j hx;rw[ON h4] at h6;cases h6
   refine⟨b5,?_⟩;cases hx:W.getD j false with
   |false=>rfl
   |true=>
    obtain⟨e,he,hb,a3⟩:=Hr (((U j c x).2.1 hx).resolve_left a0);rcases n _ (h5 e he hb) with h6|h6
    ·have a4:e.on<d.length:=by
      rw[<-a8];rcases kM e.on L.length with h|h
      ·exact h
      ·simp[h] at h6
     have:=(U e.on _ (bL a4)).1 h6;rw[a3] at this;cases this
    ·rw[h6.2] at a3;cases a3
  have fi: ∀j c,d[j]? =some c->B j->A.apart d.toArray c=true:=λj c x M=>((U j c x).2.2 M.1 M.2).1;have b8:ER d wf i=false:=by unfold ER;rw[H];simp[Hu a1]
  have hS: ∀(D:Bs) l w,Sx d wf D (pP i l) w->Sx d wf D l w:=λD l w h hn=>h λj z=>by
   have a0:i≠j:=λe=>by rw[<-e,b8] at z;cases z
   rw[gq false a0];exact hn j z
  have ey:Xl wf A.op ph=ph:=by unfold Xl;rw[Hu a1];cases wf<;>rfl
  have go: ∀{D:Bs} {v:Value} {Y:St} (R':List Bool->World->Prop),Reg C D kids->k ph Y->wU (aGz C D kids ph) Y (a.put A.dst v) w->YieldsIf P d.toArray (λw=> ∃L,R' L w) A v a->R' L w->
    (∀l j w1 w2,Oe d l j->B j->R' l w1->(x2 d j=true->w2=w1)->Sx d wf D (pP j l) w2->R' (pP j l) w2)->wo P d Q (Sx d wf D) (f+1) L a w:=λ{D} _ _ R' hR hk hr hy eK b1=>
   Xk (L0:=L) (B:=B) (R:=R') H aX b7 fi b1 (hS D) f L a w (λ_ h=>h) (λ_ h=> .inl h) b0 hy eK (hK D ph _ _ w hR hI.set hk hr)
  unfold P9 at h;rw[Cw,H] at h;dsimp only at h;rw[EL,ey] at h;split at h
  ·
   rename_i K O c1 _ _;split at h
   ·rename_i tg bR;split at h
    ·rename_i dX;have a7: ∀j,ER d wf j=true->L.getD j false=false:=λj z=>by
      unfold ER at z;split at z
      ·rename_i c x;have:=J5 (eZ _ _▸a9|>.resolve_left jS) j c x;rw[dR] at this;cases hx:L.getD j false with
       |false=>rfl
       |true=>rw[hx,z] at this;cases this
      ·cases z
     obtain rfl:ph=true:=hI.resolve_right λ⟨j,F,n⟩=>by rw[a7 j F] at n;cases n
     obtain⟨β,S⟩:=R;obtain⟨⟨A2,K2,w2⟩,e2,S2,eU,b4,b6,b3⟩:=S.rebase (.inr rfl) (kids:=kids) S.lk.1;cases e2;have a6:Reg C ⟨A2,K2,w2⟩ kids:=⟨hR.lo,eU,λh=>hR.un (b3 h)⟩;obtain⟨v,hv,Y,hk,hr⟩:=(rt (Q:=Q) (ph:=true) (st:=⟨K,O,c1⟩) hT a6 H ⟨β,S2⟩ h).2 a1;refine UH (S:=Sx d wf ⟨A2,K2,w2⟩) (λl w' h hn=>S.below.trans (h hn) λb hb h=>(b6 b h).resolve_right J) _ _ _ _ ?_;refine go (D:=⟨A2,K2,w2⟩) (λl w'=>(∀j,ER d wf j=true->l.getD j false=false)/\Frame A2 w2 w') a6 hk hr ?_ ⟨a7,Frame.refl _ _⟩ λl j w1 w2 ⟨_,c,x,_⟩ M ⟨F,_⟩ _ h4=> ?_
     ·rcases hv with ⟨q,e3,_⟩|⟨q,e3⟩
      ·refine .inl ⟨q,λw' ⟨l,_,a2⟩=> ?_⟩;refine Xm (C:=aGz C ⟨A2,K2,w2⟩ kids true) hT S2 bR ((T1 S2 bR).1 q) dX h e3 (λg hg=> ?_) λg hg hF=>a2.block g hg λh=>hF (b4 g h);obtain⟨g1,g2⟩:=eU g hg;exact a2.block g g1 g2
      ·exact .inr ⟨q,e3⟩
     ·have b9:ER d wf j=false:=by unfold ER;rw[x];have:=((U j c x).2.2 M.1 M.2).2;simp only[Tw,dQ] at this;exact this
      have hn: ∀j',ER d wf j'=true->(pP j l).getD j' false=false:=λj' a5=>by
       have a0:j≠j':=λe=>by rw[<-e,b9] at a5;cases a5
       rw[gq false a0];exact F j' a5
      exact⟨hn,h4 hn⟩
    ·exact a4 h
   ·cases h
  ·rename_i bZ;obtain⟨v,hv,Y,hk,hr⟩:=(rt (Q:=Q) hT hR H R h).2 a1;by_cases hz:r9 A.op=0
   ·refine go (λ_ _=>True) hR hk hr ?_ trivial λ_ _ _ _ _ _ _ _ _=>trivial;rcases hv with ⟨q,_,e3⟩|⟨q,e2⟩
    ·exact .inl ⟨q,λw' _=>e3 hz w'⟩
    ·exact .inr ⟨q,e2⟩
   ·refine go (λ_ w'=>w'=w) hR hk hr ?_ rfl λl j w1 w2 ⟨_,c,x,_⟩ M F n _=>(n ?_).trans F
    ·rcases hv with ⟨q,e2,_⟩|⟨q,e2⟩
     ·exact .inl ⟨q,λw' ⟨_,a2⟩=>by rw[a2];exact e2⟩
     ·exact .inr ⟨q,e2⟩
    ·have:=((U j c x).2.2 M.1 M.2).2;unfold Tw at this;unfold EK at E;split at E
     ·have this:(Nat.beq (r9 A.op) 0||uJ c.op)=true:=this;rw[eZ] at this;unfold x2;rw[x];exact this.resolve_left λh=>hz jH
     ·exact(bZ _ _ _ rfl rfl).elim
     ·cases E
theorem Ok (G:iM P T) (F:Reg C D kids) (c:D7 d wf L i 2=true) (q:aH3 d wf L ph) (R:wU (aGz C D kids ph) st a w) {k:Bool->St->Prop}
  {A:Prop} (S:m=2) (h:P9 P T C.N d wf kids ph i m A st k) (E: ∀ba g l w',aH3 d wf (pP i L) ba->k ba g->wU (aGz C D kids ba) g l w'->wo P d Q (Sx d wf D) f (pP i L) l w'):wo P d Q (Sx d wf D) (f+1) L a w:=by
 unfold D7 at c;cases e:d[i]? with
 |none=>rw[e] at c;cases c
 |some M=>
  rw[e] at c;dsimp only at c;rw[aW,aW,dQ] at c;obtain⟨n,x,c⟩:=c;refine⟨WL R q,λh=>(h i ⟨n,M,e,D6 x⟩).elim,λj ⟨H,O,z,K⟩=> ?_⟩;have:=J5 c j O z;rw[dR] at this;simp only[eZ,dQ] at this;have t:j=i:=by
   rcases this with h|h|h
   ·simpa using h
   ·rw[H] at h;cases h
   ·rw[gp K] at h;cases h
  subst t;exact gx G F n q R J h E
theorem Hw (t:iM P T) (g:Reg C D kids) (A:yq d) (z:L.length=d.length) (c:D7 d wf L i m=true) (n:aH3 d wf L ph) (R:wU (aGz C D kids ph) st a w) {k:Bool->St->Prop}
  {l:Prop} (j:l->wo P d Q (Sx d wf D) (s2 L) L a w) (h:P9 P T C.N d wf kids ph i m l st k) (q: ∀(D:Bs) ba e f w',Reg C D kids->aH3 d wf (pP i L) ba->k ba e->wU (aGz C D kids ba) e f w'->wo P d Q (Sx d wf D) (s2 (pP i L)) (pP i L) f w'):wo P d Q (Sx d wf D) (s2 L) L a w:=by
 have E:L.getD i true=false:=by
  unfold D7 at c;split at c
  ·cases c
  ·rw[aW,dQ] at c;exact c.1
 rw[J6 E] at j|-;by_cases x:m=2
 ·subst x;exact Ok t g c n R rfl h λba e f w'=>q D ba e f w' g
 ·exact Hv t g A z c x n R j h q
theorem yu (h:Ty d L i=true):L.getD i true=false/\Oe d L i:=by
 unfold Ty at h;split at h
 ·rename_i c a;rw[aW,dQ] at h;exact⟨h.1,h.1,c,a,D6 h.2⟩
 ·cases h
theorem Y6 (q:iM P T) (G:yq d) {F:List Bool} {kf:Bool->St->Prop} (H: ∀(D:Bs) ph st a w,Reg C D kids->aH3 d wf F ph->kf ph st->wU (aGz C D kids ph) st a w->wo P d Q (Sx d wf D) (s2 F) F a w): ∀(t:Pl) {D:Bs} {L:List Bool} {ph:Bool} {st:St} {a:Act} {w:World},
  Reg C D kids->L.length=d.length->UF d wf F L t=true->aH3 d wf L ph->wU (aGz C D kids ph) st a w->Hs P T C.N d wf kids t ph st kf->wo P d Q (Sx d wf D) (s2 L) L a w
 | .leaf,D,L,ph,st,a,w,f,l,c,g,R,h=>by
  have:L=F:=by simpa [UF] using c
  subst this;exact H D ph st a w f g h R
 | .st i m r,D,L,ph,st,a,w,f,l,c,g,R,h=>by unfold UF at c;rw[aW] at c;exact Hw q f G l c.1 g R False.elim h λD' ba K M U eK z A E=>Y6 q G H r eK (by rw[s3];exact l) c.2 z E A
 | .br i x j y,D,L,ph,st,a,w,f,l,c,g,R,h=>by
  unfold UF at c;simp only[aW] at c;obtain⟨h1,h2,h3,h4,h5⟩:=c;obtain⟨O,r1⟩:=yu h1;obtain⟨S,_⟩:=yu h2;have Y:=J6 O;have c2:=J6 S;rw[Y];refine⟨WL R g,λh=>(h i r1).elim,λn ⟨hn,o,ho,hw⟩=> ?_⟩;have:=J5 h3 n o ho;rw[dR] at this;simp only[eZ,dQ] at this;have W:n=i\/n=j:=by
   rcases this with h|h|h|h
   ·exact .inl jH
   ·exact .inr jH
   ·rw[hn] at h;cases h
   ·rw[gp hw] at h;cases h
  rcases W with rfl|rfl
  ·exact gx q f O g R (λ_ h=>h) h.1 λba K M U z A E=>Y6 q G H x f (by rw[s3];exact l) h4 z E A
  ·have e:s2 (pP i L)=s2 (pP n L):=J;rw[e];exact gx q f S g R (λ_ h=>h) h.2 λba K M U z A E=>Y6 q G H y f (by rw[s3];exact l) h5 z E A
theorem ru: ∀(t:Pl) (L:List Bool),(rr L t).length=L.length
 | .leaf,L=>rfl
 | .st i m r,L=>by rw[rr,ru r,s3]
 | .br i x _ _,L=>by rw[rr,ru x,s3]
theorem Hx: ∀{L:List Bool},WI L=true->(∀j,L.getD j true=true)/\s2 L=0
 |[],_=>⟨λj=>jS,rfl⟩
 |true::r,h=>by
  obtain⟨a,c⟩:=Hx (L:=r) h;refine⟨λj=> ?_,c⟩;cases j with
  |zero=>rfl
  |succ j=>simpa using a j
theorem Ub {ρ:List (Nat×Nat)} {O:List OE} {n:Nat}: ∀{l:List Nat},lkB ρ O n l=true-> ∀k∈l,rn ρ k=k/\k<n/\ ∃p,fK k O=some p
 |[],_,k,a=>by cases a
 |x::r,h,k,a=>by
  unfold lkB at h;split at h
  ·rename_i p h1 c e;rcases eF.1 a with rfl|a
   ·exact⟨j1,uF c,p,e⟩
   ·exact Ub h k a
  ·cases h
theorem rx {s:Nat}: ∀{l:List Nat},tS s l=true->s∈l
 |[],h=>by simp[tS] at h
 |t::r,h=>by
  unfold tS at h;split at h
  ·rename_i a;exact eF.2 (.inl (kN a))
  ·exact fZ _ (rx h)
theorem gy (K:iM P T) (H:yq d) {k:St->Prop} (hq: ∀st a w,k st->wU C st a w->Q a w): ∀(f:List Oper) {D:Bs} {L:List Bool} {ph:Bool} {st:St} {a:Act} {w:World},
  Reg C D kids->L.length=d.length->okR d wf (s2 L) L=true->aH3 d wf L ph->wU (aGz C D kids ph) st a w->Cy P T C.N C.m d wf kids f L ph st k->wo P d Q (Sx d wf D) (s2 L) L a w
 |[],_,_,_,_,_,_,_,_,_,_,_,h=>h.elim
 |_::f,D,L,ph,st,a,w,l,G,c,W,R,h=>by
  have U: ∀{st a w},wU (aGz C D kids ph) st a w->wU C st a w:=λR=>by
   cases ph with
   |true=>exact l.un R
   |false=>exact R
  have h:Oj P T C.N C.m d wf kids (Cy P T C.N C.m d wf kids f) L ph st k:=h;unfold Oj at h;cases hc:s2 L with
  |zero=>
   rw[hc] at c;unfold okR at c;rw[aW] at c;cases g:pick d L with
   |done=>rw[g] at h;exact⟨WL R W,λj hj=>(by have:=hj.1;rw[(Hx c.1).1 j] at this;cases this),hq st a w h (U R)⟩
   |one i m=>rw[g] at c;cases c.2
   |many=>rw[g] at c;cases c.2
  |succ n=>
   rw[hc] at c;unfold okR at c;rw[<-hc];have many:EM P T C.N C.m d wf kids (Cy P T C.N C.m d wf kids f) L ph st k->wo P d Q (Sx d wf D) (s2 L) L a w:=by
    rintro⟨t,ht,Y,I,s,hx,hy⟩;rw[aW] at ht;refine Y6 K H (λD x a1 a2 w2 l a0 A hr=> ?_) t l G ht.1 W R hx;have go: ∀{z:Y} {F:List (Nat×Nat)},I z->Xh (aGz C D kids x) F (s z).O (s z).nid->Cs C.m F (s z) a1->x=ph->wo P d Q (Sx d wf D) (s2 (rr L t)) (rr L t) a2 w2:=by
     rintro z F E M q rfl;obtain⟨β,S⟩:=hr;obtain⟨hn,bN⟩:=hy z E;have hm:(aGz C D kids x).m=C.m:=by cases x<;>rfl
     obtain⟨a3,S'⟩:=wU.le (C:=aGz C D kids x) M (by rw[hm];exact q) (by rw[hm];exact xU hn) ⟨β,S⟩;exact gy K H hq f l (by rw[ru];exact G) ht.2 a0 ⟨a3,S'⟩ bN
    unfold UG at A;split at A
    ·obtain⟨z,F,E,M,q⟩:=A;exact go E (λk hk=>Ub M k (rx hk)) q rfl
    ·obtain⟨z,F,E,_,q⟩:=A;exact go E (Xh.nil l.lo) q rfl
    ·exact A.elim
   cases g:pick d L with
   |done=>rw[g] at c;cases c
   |one i m=>
    rw[g] at c h;dsimp only at c h;rw[Tt] at h;rw[aW] at c;refine Hw K l H G c.1 W R many h λD' ba a4 a' w' eK cZ hk hr=> ?_;have U:L.getD i true=false:=by
     have:=c.1;unfold D7 at this;split at this
     ·cases this
     ·rw[aW,dQ] at this;exact this.1
    have e:n=s2 (pP i L):=by have:=J6 U;omega
    exact gy K H hq f eK (by rw[s3];exact G) (by rw[<-e];exact c.2) cZ hr hk
   |many=>rw[g] at h;exact many h
theorem gz: ∀d:List Oper,gu d=List.replicate d.length false
 |[]=>rfl
 |_::r=>by rw[gu,gz r];rfl
theorem Hy: ∀n:Nat,s2 (List.replicate n false)=n
 |0=>rfl
 |n+1=>by rw[List.replicate_succ,s2,Hy n]
theorem yv {O:List OE}: ∀{l:List Nat},Ua O l=true-> ∀i∈l,∃o,fK i O=some ([],o)
 |[],_,i,a=>by cases a
 |x::r,h,i,a=>by
  unfold Ua at h;split at h
  ·rename_i o c;rcases eF.1 a with rfl|a
   ·exact⟨o,c⟩
   ·exact yv h i a
  ·cases h
theorem Xo {st:St} (S:wU C st a w):wU C st a {w with drawn:=w.drawn+1}:=by obtain⟨j,S⟩:=S;refine⟨j,S.gold,S.dj,S.below.trans (B:=λ_=>False) ⟨rfl,rfl,rfl,aG _,λ_ _ _=>rfl,eP _⟩ (λ_ _ h=>h.elim),S.tsz,S.dfs,S.ag,S.lk,λs g e f=>⟨λh=>((S.kf s g e f).1 h).stable (w':={w with drawn:=w.drawn+1}) (λ_ _ h=>h) (λ_ _ _=>rfl) (aG _),(S.kf s g e f).2⟩,λid g x c=>⟨(S.of id g x c).1,λh=> ?_⟩,S.allow,S.dist⟩;exact((S.of id g x c).2 h).stable (w':={w with drawn:=w.drawn+1}) (S.of id g x c).1 (aG _) (λ_ _=>nT) (λ_ _ h=>h) (λ_ _ _=>rfl) (aG _) (λ_ _=>rfl)
theorem Hz (l:iM P T) (j:C.lo=[]) {id:Nat} {Q:Exit->Act->World->Prop} {k:St->Prop} (c:EO d wf=true) (S:wU C st a w) (h:EN P T C.N C.m d wf kids st k)
  (L: ∀f g w',k f->wU C f g w'->Q .normal g w'):(Code.region id d.toArray true).wp P Q a w:=by
 unfold EO at c;rw[aW] at c;unfold EN at h;split at h
 ·rename_i q;rw[Tz] at h;refine Code.wp_mono (Q:=NoP λa w=>Q .normal a w) (λe a w ⟨G,H⟩=>by rw[G];exact H) (wp_region_any l.mixed ?_);obtain⟨M,S⟩:=Xo S;obtain⟨⟨x,z,w2⟩,e,A,F,_,_,E⟩:=S.rebase (.inl j) (kids:=kids) λid n=>by obtain⟨o,K⟩:=yv q id (rx n);exact(S.of id _ o K).1
  cases e;have t:=gy (wf:=wf) (Q:=λa w=>Q .normal a w) (D:=⟨x,z,_⟩) (kids:=kids) l (yr c.1) L _ ⟨j,F,λh=>E h⟩ (by rw[gz];simp) c.2 (.inl rfl) ⟨M,A⟩ h;have:=Tu _ _ _ _ t;rw[gz,Hy] at this;simpa using this
 ·cases h
end
def WM:List Nat->List OE->List OE
 |_,[]=>[]
 |s,⟨i,g,o⟩::r=>match tS i s with
  |true=>WM s r
  |false=>⟨i,g,o⟩::WM (i::s) r
def WN:List Nat->List KE->List KE
 |_,[]=>[]
 |s,⟨i,g,v⟩::r=>match tS i s with
  |true=>WN s r
  |false=>⟨i,g,v⟩::WN (i::s) r
def aAz:St->St
 |⟨K,O,n⟩=>⟨WN [] K,WM [] O,n⟩
theorem xI {m:Nat} {s st:St} (e:s=aAz st) (h:Cs m [] (aAz st) st):Cs m [] s st:=by rw[e];exact h
end Go.Eng
