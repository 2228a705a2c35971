/-
  TopDelivered returns true whatever the input, and the input reads behind the call as it read before, where the three listed tables of Go's library hold what the program's text lays: a part of the proof.
-/
import GoSem.Step
import Derived.StepT
import Derived.Calls
import Derived.Test.YtpnjmojpeaegoaaGreatDoorN1
set_option linter.unusedSimpArgs false
set_option linter.unusedVariables false
set_option maxRecDepth 100000
set_option maxHeartbeats 0
namespace Go.Eng
open Go
def rw1 {α:Type}:Result α->World
 | .ok _ w=>w
 | .halt _ w=>w
theorem Bn {p:Program} {w w':World} {at_:Addr} {u:TypeId} {k:Addr} {v:Value} {a:Bool} {l:List Addr} (h:w.viewStore p at_ u k v a= .ok (w',l)):w'.drawn=w.drawn:=by
 unfold World.viewStore at h;simp only[bind,Except.bind,pure,Except.pure] at h
 repeat' split at h
 all_goals first
  |cases h;done
  |(cases h;rfl)
theorem Ge {p:Program} {w w':World} {a:Addr} {v:Value} {c:Bool} {l:List Addr} (h:w.farStore p a v c= .ok (w',l)):w'.drawn=w.drawn:=by
 unfold World.farStore at h;split at h
 ·split at h
  ·rename_i r e;cases h;exact Bn e
  ·cases h
 ·cases h
theorem VU {α:Type} (a:Ask α): ∀w:World,w.drawn<=(w.ask a).2.drawn:=by
 induction a with
 |done a=>exact λw=>aG _
 |ask f e k c=>
  intro w;simp only[World.ask];split
  ·exact c _ w
  ·exact cO (eP _) (c _ {w with drawn:=w.drawn+1})
theorem CY (w:World) (c:Sys):w.drawn<=(w.sys c).2.drawn:=by
 have:=VU (Kernel.perform c w.os) w;unfold World.sys;split
 ·exact aG _
 ·rename_i e;rw[e] at this;exact this
theorem CZ {P:Program} {α:Type} (s:Sem α): ∀w:World,w.drawn<=(rw1 (s.run P w)).drawn:=by
 induction s with
 |pure a=>intro w;exact aG _
 |load m a k e=>
  intro w;simp only[Sem.run];split
  ·exact e _ _
  ·split
   ·exact e _ _
   ·exact aG _
 |store m a v k e=>
  intro w;have g:w.drawn<=(rw1 (match w.cell? a with
    |some _=>if w.frozen? a then .halt (.unsupported (.unsafePointer "a write to bytes that a string shares")) w else k.run P (w.setCell a v)
    |none=>match w.farStore P a v (m== .atomic) with
     | .ok (w,_)=>k.run P w
     | .error h=> .halt h w)).drawn:=by
   split
   ·split
    ·exact aG _
    ·exact e (w.setCell a v)
   ·split
    ·rename_i w2 l f;have:=e w2;rw[Ge f] at this;exact this
    ·exact aG _
  cases v<;>first
   |exact g
   |exact aG _
 |new o k e=>intro w;exact e _ {w with heap:=w.heap.push o}
 |shape r k e=>intro w;exact e _ _
 |freeze a n k e=>intro w;have:=e (w.freeze a n);refine cO ?_ this;unfold World.freeze;split<;>exact aG _
 |frozen a k e=>intro w;exact e _ _
 |getObj r k e=>
  intro w;simp only[Sem.run];split
  ·exact aG _
  ·exact e _ _
  ·exact aG _
 |setObj r o k e=>
  intro w;simp only[Sem.run];split
  ·exact aG _
  ·exact e {w with heap:=w.heap.setIfInBounds r o}
  ·exact aG _
 |choose q k e=>
  intro w;simp only[Sem.run];split
  ·exact e _ _
  ·exact cO (eP _) (e _ {w with drawn:=w.drawn+1})
 |sys c k e=>intro w;exact cO (CY w c) (e _ _)
 |program k e=>intro w;exact e _ _
 |mark m k e=>intro w;exact e _
 |halt j=>intro w;exact aG _
theorem tN {P:Program} {α:Type} {s:Sem α} {w w':World} {x:α} (h:s.run P w= .ok x w'):w.drawn<=w'.drawn:=by
 have:=CZ (P:=P) s w
 rwa [h] at this
theorem vK {P:Program} {α:Type} {s:Sem α} {w w':World} {x:Halt} (h:s.run P w= .halt x w'):w.drawn<=w'.drawn:=by
 have:=CZ (P:=P) s w
 rwa [h] at this
def gw:GStep->World
 | .go _ w _=>w
 | .comm _ _ _ _ w _=>w
 | .spawn _ _ w _=>w
 | .count _ w _=>w
 | .timer _ _ w _=>w
 | .alone _ _ w _=>w
 | .newcoro _ _ _ w _=>w
 | .coroswitch _ _ _ w _=>w
 | .collect _ w _=>w
 | .watch _ w _=>w
 | .ended _ w _=>w
@[simp] theorem r6 (a:Array Event) (s:GStep):gw (GStep.after a s)=gw s:=by cases s<;>rfl
theorem Mx (w:World) (c:Nat) (a:ByteArray) (o:Outcome):w.drawn<=(gw (endWith w c a o)).drawn:=by
 have:=CY w (.write c a);unfold endWith;simp only[];split
 ·rename_i h;rw[h] at this;split<;>exact this
 ·rename_i h;rw[h] at this;exact this
 ·rename_i h;rw[h] at this;exact this
theorem H5 (p:Program) (fr:Frame) (v:Value) (w:World):w.drawn<=(gw (endPrinting p fr v w)).drawn:=by unfold endPrinting;simp only[];split<;>exact aG _
theorem jz (p:Program) (fr:Frame) (a:List Frame) (c:Option Dying) (m:String) (w:World):w.drawn<=(gw (endFatal p fr a c m w)).drawn:=by
 unfold endFatal;simp only[];split
 ·rename_i h;exact tN h
 ·rename_i h;exact vK h
 ·rename_i h;exact vK h
theorem My (p:Program) (fr:Frame) (d:Dying) (f:Fatal) (w:World):w.drawn<=(gw (writeOn p fr d f w)).drawn:=by
 unfold writeOn;simp only[];split
 ·exact aG _
 ·simp only[Sem.runT_eq];split
  all_goals
   rename_i h
   first
    |exact tN (y0 h).1
    |exact vK (y0 h).1
theorem VV (p:Program) (fr:Frame) (d:Dying) (w:World):w.drawn<=(gw (die p fr d w)).drawn:=by
 unfold die;split
 ·exact My _ _ _ _ _
 split
 ·split
  ·exact aG _
  ·exact Mx _ _ _ _
 ·simp only[Sem.runT_eq,r6];split
  ·exact aG _
  ·split
   ·rename_i h;exact tN h
   ·rename_i h;exact vK h
  ·split
   ·rename_i h;exact tN h
   ·rename_i h;exact tN h
   ·rename_i h;exact vK h
   ·rename_i h;rw[r6];exact cO (vK h) (H5 _ _ _ _)
   ·exact aG _
  ·exact aG _
theorem DA (p:Program) (fr:Frame) (callers:List Frame) (dying:Option Dying) (g:Nat) (w:World):w.drawn<=(gw (early p fr callers dying g w)).drawn:=by
 have a: ∀(w1:World),w.drawn<=w1.drawn->w.drawn<=(gw (match w1.heap[g]? with
  |some (.pending c e)=>GStep.go {frame:=fr,callers,status:= .running,dying} {w1 with heap:=w1.heap.setIfInBounds g (.cells c e)}
  |_=> .ended (.stuck "early: the variable does not wait" (fr.pos p)) w1)).drawn:=λw1 h=>by
  split<;>exact h
 unfold early;simp only[]
 repeat' first
  |exact aG _
  |exact a _ (aG _)
  |(rename_i h;exact a _ (tN h))
  |(rename_i h _;exact tN h)
  |(rename_i h;exact tN h)
  |(rename_i h;exact vK h)
  |split
theorem H6 (p:Program) (e:Bool) (fr:Frame) (a:List Frame) (c:Option Dying) (v:Value) (w:World):w.drawn<=(gw (doReturn p e fr a c v w)).drawn:=by
 unfold doReturn
 repeat' split
 all_goals exact aG _
theorem lw (p:Program) (fr:Frame) (a:List Frame) (c:Option Dying) (d:Deferred) (w:World):w.drawn<=(gw (callDeferred p fr a c d w)).drawn:=by
 unfold callDeferred;simp only[Sem.runT_eq]
 repeat' first
  |exact aG _
  |exact tN jA
  |exact vK jA
  |exact cO (vK jA) (jz _ _ _ _ _ _)
  |rw[r6]
  |split
theorem Xb (p:Program) (e:Bool) (fr:Frame) (a:List Frame) (c:Option Dying) (w:World):w.drawn<=(gw (unwind p e fr a c w)).drawn:=by
 unfold unwind;simp only[Sem.runT_eq]
 repeat' first
  |exact aG _
  |exact lw _ _ _ _ _ _
  |exact H6 _ _ _ _ _ _ _
  |exact H5 _ _ _ _
  |(rename_i h;exact tN h)
  |(rename_i h;exact vK h)
  |(rename_i h;exact cO (tN h) (H6 _ _ _ _ _ _ _))
  |rw[r6]
  |split
theorem W3 (p:Program) (c:Bool) (fr:Frame) (g:List Frame) (h:Option Dying) (s:Sem Next) (w:World):w.drawn<=(gw (stepG.apply p c fr g h s w)).drawn:=by
 unfold stepG.apply;simp only[Sem.runT_eq,r6];have a:(if c=true then(s.run p w,s.events p w #[]) else(s.run p w,#[])).1=s.run p w:=by split<;>rfl
 generalize (if c=true then(s.run p w,s.events p w #[]) else(s.run p w,#[]))=k at a|-;obtain⟨r,l⟩:=k;dsimp only at a|-;have j: ∀{x w'},r= .ok x w'->w.drawn<=w'.drawn:=λe=>tN (a▸e);have f: ∀{x w'},r= .halt x w'->w.drawn<=w'.drawn:=λe=>vK (a▸e);clear a
 repeat' first
  |exact j rfl
  |exact f rfl
  |exact cO (f rfl) (jz _ _ _ _ _ _)
  |exact cO (f rfl) (DA _ _ _ _ _ _)
  |split
theorem NG (p:Program) (c:Bool) (fr:Frame) (a:List Frame) (e:Option Dying) (w:World):w.drawn<=(gw (stepG.oper p c fr a e w)).drawn:=by
 unfold stepG.oper
 repeat' first
  |exact aG _
  |exact W3 _ _ _ _ _ _ _
  |split
theorem NH (p:Program) (f:Bool) (g:Bool) (fr:Frame) (callers:List Frame) (dying:Option Dying) (w:World):w.drawn<=(gw (stepG.exec p f g fr callers dying w)).drawn:=by
 have a: ∀c:Option Code,w.drawn<=(gw (match fr.roundOf with
   |none=>if c matches none|some .ret then GStep.go {frame:={fr with mode:= .returning},callers,status:= .running,dying} w else .ended (.stuck "exit, goto: no such block or label" (fr.pos p)) w
   |some l=>
    let (r,es):=(Instr.endRound l c).runT p w #[]
    GStep.after (seen p fr.fn es)<|match r with
    | .ok v w=>doReturn p f fr callers dying v w
    | .halt _ w=> .ended (.stuck "range over a function: no such loop" (fr.pos p)) w)).drawn:=by
  intro c;simp only[Sem.runT_eq]
  repeat' first
   |exact aG _
   |exact vK jA
   |exact cO (tN jA) (H6 _ _ _ _ _ _ _)
   |rw[r6]
   |split
 unfold stepG.exec;simp only[];split
 case h_1=>exact a none
 case h_2=>exact a (some .ret)
 all_goals try exact aG _
 all_goals first
  | (rename_i id k _;cases exitTo id k with
   |none=>exact a (some (.exit id))
   |some k=>exact aG _)
  | (rename_i l k _;cases gotoIn l k with
   |none=>exact a (some (.goto l))
   |some k=>exact aG _)
  | (rename_i row args _ _;cases Extern.next row with
   |none=>exact aG _
   |some e=>exact W3 _ _ _ _ _ _ _)
  |skip
 all_goals clear a
 all_goals try simp only[Sem.runT_eq]
 all_goals
  repeat' first
   |exact aG _
   |exact tN jA
   |exact vK jA
   |exact W3 _ _ _ _ _ _ _
   |exact NG _ _ _ _ _ _
   |exact cO (tN jA) (W3 _ _ _ _ _ _ _)
   |rw[r6]
   |split
theorem DB (p:Program) (c:Bool) (g:Goroutine) (w:World) (a:Bool):w.drawn<=(gw (stepG p c g w a)).drawn:=by
 unfold stepG;simp only[];split
 ·exact VV _ _ _ _
 ·exact NH _ _ _ _ _ _ _
 ·exact Xb _ _ _ _ _ _
theorem qb (p:Program) (k:Rest) (l:Array Goroutine) (i:Nat) (g:Goroutine) (cases:Array CommCase) (j:Bool) (shape:CommShape) (w:World) (m':Machine)
  (h:(communicate p k l i g cases j shape w).1= .next m'):w.drawn<=m'.world.drawn:=by
 unfold communicate at h;simp only[] at h;split at h
 ·cases h
 split at h
 ·split at h
  ·split at h
   ·rename_i w1 a;cases h;unfold waitingAt at a;split at a
    ·split at a
     ·cases a;exact aG _
     ·cases a
    ·cases a;exact aG _
   ·cases h
  ·cases h;exact aG _
 ·split at h
  ·cases h
  ·rename_i f;have e:=tN f
   repeat' first
    |(simp at h;done)
    |(simp only[Stepped.next.injEq] at h;subst h;exact e)
    |(simp only[Stepped.next.injEq] at h;subst h;clear f;have c:=tN ‹Sem.run p _ _=Result.ok _ _›;exact cO e c)
    |(simp only[Stepped.next.injEq] at h;subst h;clear f;have c:=vK ‹Sem.run p _ _=Result.halt _ _›;exact cO e c)
    |split at h
theorem Tg (p:Program) (c:Array Goroutine) (a:Rest) (w:World) (m':Machine) (h:look p c a w= .next m'):w.drawn<=m'.world.drawn:=by
 unfold look at h;simp only[] at h
 repeat' first
  |(simp at h;done)
  |(simp only[Stepped.next.injEq] at h;subst h;have e:=tN ‹Sem.run p _ w=Result.ok _ _›;exact e)
  |split at h
theorem DC (p:Program) (m m':Machine) (k:Nat) (h:serve p m k= .next m'):m.world.drawn<=m'.world.drawn:=by
 unfold serve at h;simp only[] at h
 repeat' first
  |(cases h;done)
  |(cases h;exact aG _)
  |split at h
theorem DD (w:World) (c:Nat):(drain w c).2.drawn=w.drawn:=by unfold drain;split<;>rfl
theorem xy (m:Machine) (k:Nat) (t:Timer) (e a:Nat):(retime m k t e a).2.world.drawn=m.world.drawn:=by
 unfold retime;cases t.chan with
 |none=>rfl
 |some c=>exact DD _ _
theorem DE (m m':Machine) (q:TimerOp) (v:Value) (h:timerOp m q= .ok (v,m')):m.world.drawn<=m'.world.drawn:=by
 have c: ∀(m:Machine) (g:Addr) (f:Nat->Timer->Value×Machine),(∀k t,(f k t).2.world.drawn=m.world.drawn)->timerOp.named m g f= .ok (v,m')->m.world.drawn<=m'.world.drawn:=λm g f n h=>by
  unfold timerOp.named at h;split at h
  ·have:=Except.ok.inj h;have e:=fW (λx=>x.2.world.drawn) this;dsimp only at e;rw[n] at e;rw[e];exact aG _
  ·cases h
 unfold timerOp at h;split at h
 ·split at h
  ·cases h;exact aG _
  ·split at h
   ·split at h
    ·cases h
    ·cases h;exact aG _
   ·cases h
 ·exact c m _ _ (λk t=>xy m k t _ _) h
 ·split at h
  ·rename_i j a;have l:j.world.drawn=m.world.drawn:=by
    unfold timerOp.opened at a;split at a
    ·split at a
     ·cases a;rfl
     ·cases a
    ·cases a;rfl
   exact c m _ _ (λk t=>(xy j k t _ _).trans l) h
  ·cases h
 ·cases h;exact aG _
theorem NI (p:Program) (m m':Machine) (i:Nat) (b:Bool) (h:(runT p m i b).1= .next m'):m.world.drawn<=m'.world.drawn:=by
 simp only[runT] at h;generalize m.gs.swapAt! _ _=c at h;have a:=DB p (i==0) c.1 m.world b;generalize stepG p _ c.1 m.world b=s at h a;refine cO a ?_;clear a;cases s<;>simp only[gw] at h|-
 all_goals first
  |(simp at h;done)
  |exact qb _ _ _ _ _ _ _ _ _ _ h
  |exact Tg _ _ _ _ _ h
  |(simp only[Stepped.next.injEq] at h;subst h;exact aG _)
  |skip
 ·split at h
  ·simp at h
  ·simp only[Stepped.next.injEq] at h;subst h;exact aG _
 ·split at h
  ·simp only[Stepped.next.injEq] at h;subst h;exact DE _ _ _ _ jA
  ·simp only[endThrow,dieOf,Stepped.next.injEq] at h;subst h;exact aG _
  ·simp at h
  ·simp at h
 ·split at h
  ·simp only[Stepped.next.injEq] at h;subst h;exact aG _
  ·simp only[endThrow,dieOf,Stepped.next.injEq] at h;subst h;exact aG _
  ·simp at h
def yK (n:Nat) (x:Move):Prop:=(∀a i,x= .goroutine a i->n<=a.world.drawn)/\ ∀a c,x= .machine (.next a) c->n<=a.world.drawn
theorem yK.mono {n k:Nat} {x:Move} (h:yK k x) (a:n<=k):yK n x:=⟨λf i e=>cO a (h.1 f i e),λf c e=>cO a (h.2 f c e)⟩
theorem yK.ended {n:Nat} {o:Outcome} {w:World} {a:Array MemOp}:yK n (.machine (.ended o w) a):=⟨λ_ _ h=>jh,λ_ _ h=>jh⟩
theorem yK.next {n:Nat} {m:Machine} {a:Array MemOp} (h:n<=m.world.drawn):yK n (.machine (.next m) a):=⟨λ_ _ h=>jh,λc _ e=>by
 simp only[Move.machine.injEq,Stepped.next.injEq] at e;rw[<-e.1];exact h⟩
theorem yK.go {n:Nat} {m:Machine} {i:Nat} (h:n<=m.world.drawn):yK n (.goroutine m i):=⟨λa _ e=>by
 simp only[Move.goroutine.injEq] at e;rw[<-e.1];exact h,λ_ _ h=>jh⟩
theorem qc (p:Program) (m:Machine):yK m.world.drawn (askOn p m):=by
 unfold askOn;simp only[];split
 ·exact .ended
 rename_i k w1 f;have a:m.world.drawn<=w1.drawn:=tN f;clear f;refine yK.mono ?_ a;split
 ·refine⟨λ_ _ h=>jh,λj g h=> ?_⟩;simp only[Move.machine.injEq] at h;exact DC p {m with world:=w1} _ _ h.1
 split
 ·split
  ·exact .next (aG _)
  ·split
   ·exact .next (aG _)
   ·split
    ·exact .ended
    ·exact .ended
 ·split
  ·split
   ·exact .ended
   rename_i a;have a:=tN a;split
   ·exact .go a
   split
   ·exact .ended
   rename_i c;exact .go (cO a (tN c))
  ·split
   ·exact .ended
   ·rename_i e;refine yK.mono ?_ (tN e);split
    ·exact .ended
    rename_i a;have a:=tN a;split
    ·exact .go a
    split
    ·exact .ended
    rename_i c;exact .go (cO a (tN c))
   ·rename_i e;have c:=tN e;exact .next c
   ·rename_i e;have c:=tN e;refine yK.mono ?_ c;split
    ·exact .ended
    rename_i a;have a:=tN a;split
    ·exact .go a
    split
    ·exact .ended
    rename_i c;exact .go (cO a (tN c))
theorem Th (p:Program) (m:Machine):yK m.world.drawn (ask p m):=by
 unfold ask;split
 ·split
  ·exact .ended
  ·rename_i a;have g:=tN a;split
   ·rename_i f c;exact(qc p f).mono (cO g (Tg _ _ _ _ _ c))
   ·rename_i e c;cases h:look p m.gs m.rest _ with
    |next f=>exact absurd h (c f)
    |ended o w=>exact .ended
  ·rename_i a;exact(qc p {m with world:=_}).mono (tN a)
 ·exact qc p m
theorem NJ (p:Program) (m:Machine):yK m.world.drawn (move p m):=by
 unfold move;split
 ·split
  ·exact .go (aG _)
  ·exact .ended
 ·split
  ·split
   ·exact .go (aG _)
   ·exact Th p {m with rest:=_}
  ·exact Th p m
theorem NK (p:Program) (m m':Machine) (h:step p m= .next m'):m.world.drawn<=m'.world.drawn:=by
 have a:=NJ p m;unfold step stepT at h;cases c:move p m with
 |goroutine e i=>rw[c] at h a;exact cO (a.1 e i rfl) (NI p e m' i true h)
 |machine s f=>rw[c] at h a;dsimp only at h;subst h;exact a.2 m' f rfl
theorem Gf {P:Program} {m m':Machine} (h:Steps P m m'):m.world.drawn<=m'.world.drawn:=by
 obtain⟨n,a⟩:=h
 induction n generalizing m with
 |zero=>simp[runN] at a;rw[a];exact aG _
 |succ n e=>
  simp only[runN] at a;cases c:step P m with
  |next f=>rw[c] at a;exact cO (NK P m f c) (e a)
  |ended o w=>rw[c] at a;simp at a
theorem W4 {P:Program} {f:FuncId} {args:Array Value} {w:World} {R:Ending->World->Prop} (h:Calls P f args w R) (n: ∀e w',R e w'->e≠ .outgrown):Calls P f args w λe w'=>R e w'/\w.drawn<=w'.drawn:=by
 intro a;obtain⟨e,w',fr,j,g,k,l⟩:=h a;refine⟨e,w',fr,⟨j,?_⟩,g,k,l⟩;cases e with
 |outgrown=>exact absurd rfl (n _ _ j)
 |returned v=>exact Gf (m:=lone _ a w) (m':=lone fr a w') g
 |panicked c=>exact Gf (m:=lone _ a w) (m':=lone fr a w') g
end Go.Eng
