/-
  TopDelivered returns true whatever the input, and the input reads behind the call as it read before, where the three listed tables of Go's library hold what the program's text lays: a part of the proof.
-/
import Derived.WalkKit
import Derived.Test.YtpnjmojpeaegoaaGreatDoorN2
set_option linter.unusedSimpArgs false
set_option linter.unusedVariables false
namespace Go.Eng
open Go.RowKit
abbrev dz (w:World):Nat:=w.drawn
structure Below (B:Nat) (w w':World):Prop extends Go.RowKit.Below B w w' where
 drawn:dz w<=dz w'
def Ti:Nat:=0
def tbC:Array Value:=((List.range 20).map λi=>Value.int .u64 ((10^i:Nat):Int)).toArray
def Tb (w:World):Prop:= ∃e s,w.heap[Ti]? =some (.cells tbC e s)
theorem Tb.lt {w:World} (h:Tb w):Ti<w.heap.size:=by obtain⟨e,s,h⟩:=h;exact(cN.1 h).1
theorem Tb.of {w w':World} (h:Tb w) (a:w'.heap[Ti]? =w.heap[Ti]?):Tb w':=by obtain⟨e,s,h⟩:=h;exact⟨e,s,a.trans h⟩
def FOk (F:Nat->Prop) (w:World):Prop:=(∀g,F g->g<w.heap.size)/\Tb w/\ ¬F Ti
theorem Below.refl (B:Nat) (w:World):Below B w w:=⟨Go.RowKit.Below.refl B w,aG _⟩
theorem Below.trans {B:Nat} {a b c:World} (h:Below B a b) (k:Below B b c):Below B a c:=⟨h.toBelow.trans k.toBelow,cO h.drawn k.drawn⟩
theorem Below.mono {B a:Nat} {w w':World} (h:Below B w w') (c:a<=B):Below a w w':=⟨h.toBelow.mono c,h.drawn⟩
theorem Below.alloc {B:Nat} {a w:World} (h:Below B a w) (c:B<=w.heap.size) (o:Obj):Below B a (w.alloc o):=⟨h.toBelow.alloc c o,h.drawn⟩
theorem Below.heap_alloc (w:World) (o:Obj) (k:Nat) (h:k<w.heap.size):(w.alloc o).heap[k]? =w.heap[k]? :=Go.RowKit.Below.heap_alloc w o k h
structure GrownBy (w w':World) (row:Option Nat):Prop extends World.grownBy w w' row where
 drawn:dz w<=dz w'
theorem M4 {P:Program} {α:Type} (s:Sem α) {w w':World} {x:α} (h:s.run P w= .ok x w'):dz w<=dz w':=tN h
inductive AV where
 |b (c:Bool)
 |i (k:IntKind) (n:Int)
 |s (x:ByteArray)
 |val (v:Value)
 |u
 |fn (f:FuncId) (caps:List AV)
 |ag (cs:List AV)
 |tup (vs:List AV)
 |p (id off:Nat)
 |so (id:Nat)
 |pe (id sz idx off:Nat)
 |rs (sz n:Nat) (get:Nat->List AV)
 |rp (cs:List AV)
 |mo (id:Nat)
 |sv (id sz lo n:Nat)
 |sc (id off n cap:Nat)
 |rm (n:Nat) (key val:Nat->AV)
abbrev AV.I (n:Int):AV:= .i .i64 n
mutual
def AV.lt (m:Nat):AV->Bool
 | .p id _=>Nat.blt id m
 | .so id=>Nat.blt id m
 | .pe id _ _ _=>Nat.blt id m
 | .mo id=>Nat.blt id m
 | .sv id _ _ _=>Nat.blt id m
 | .sc id _ _ _=>Nat.blt id m
 | .fn _ a=>AV.lts m a
 | .ag a=>AV.lts m a
 | .tup a=>AV.lts m a
 |_=>true
def AV.lts (m:Nat):List AV->Bool
 |[]=>true
 |c::r=>match AV.lt m c with
  |true=>AV.lts m r
  |false=>false
end
mutual
def AV.no (q:Nat):AV->Bool
 | .p id _=> !(Nat.beq id q)
 | .so id=> !(Nat.beq id q)
 | .pe id _ _ _=> !(Nat.beq id q)
 | .mo id=> !(Nat.beq id q)
 | .sv id _ _ _=> !(Nat.beq id q)
 | .sc id _ _ _=> !(Nat.beq id q)
 | .fn _ a=>AV.nos q a
 | .ag a=>AV.nos q a
 | .tup a=>AV.nos q a
 |_=>true
def AV.nos (q:Nat):List AV->Bool
 |[]=>true
 |c::r=>match AV.no q c with
  |true=>AV.nos q r
  |false=>false
end
theorem AV.lts_get {m:Nat}: ∀{l:List AV},AV.lts m l=true-> ∀(j:Nat) (h:j<l.length),AV.lt m l[j]=true
 |[],_,j,h=>jh
 |c::r,a,j,h=>by
  unfold AV.lts at a;split at a
  ·rename_i e;cases j with
   |zero=>exact e
   |succ j=>exact AV.lts_get a j jH
  ·cases a
theorem AV.nos_get {m:Nat}: ∀{l:List AV},AV.nos m l=true-> ∀(j:Nat) (h:j<l.length),AV.no m l[j]=true
 |[],_,j,h=>jh
 |c::r,a,j,h=>by
  unfold AV.nos at a;split at a
  ·rename_i e;cases j with
   |zero=>exact e
   |succ j=>exact AV.nos_get a j jH
  ·cases a
structure MapOk (es:Array MapEntry) (clock:Nat):Prop where
 asc: ∀(i j:Nat) (_:i<j) (h1:i<es.size) (h2:j<es.size),es[i].born<es[j].born
 old: ∀(i:Nat) (h:i<es.size),es[i].born<clock
 one: ∀(i j:Nat) (_:i<j) (h1:i<es.size) (h2:j<es.size),es[i].key≠es[j].key
inductive Rep0 (F:Nat->Prop) (w:World):AV->Value->Prop
 |b (c:Bool):Rep0 F w (.b c) (.bool c)
 |i (k:IntKind) (n:Int):Rep0 F w (.i k n) (.int k n)
 |s (x:ByteArray):Rep0 F w (.s x) (.string x)
 |val (v:Value):Rep0 F w (.val v) v
 |u (v:Value):Rep0 F w .u v
 |fn (f:FuncId) (caps:List AV) (vs:List Value) (hl:caps.length=vs.length)
   (h: ∀(j:Nat) (h1:j<caps.length) (h2:j<vs.length),Rep0 F w caps[j] vs[j]):Rep0 F w (.fn f caps) (.func (.func f) #[] vs.toArray)
 |ag (cs:List AV) (vs:List Value) (hl:cs.length=vs.length)
   (h: ∀(j:Nat) (h1:j<cs.length) (h2:j<vs.length),Rep0 F w cs[j] vs[j]):Rep0 F w (.ag cs) (.agg vs.toArray)
 |tup (cs:List AV) (vs:List Value) (hl:cs.length=vs.length)
   (h: ∀(j:Nat) (h1:j<cs.length) (h2:j<vs.length),Rep0 F w cs[j] vs[j]):Rep0 F w (.tup cs) (.tuple vs.toArray)
 |rsnil (sz:Nat) (get:Nat->List AV):Rep0 F w (.rs sz 0 get) (.slice none 0 0)
 |rsz (sz:Nat) (get:Nat->List AV) (a:Addr):Rep0 F w (.rs sz 0 get) (.slice (some a) 0 0)
 |rs (sz n:Nat) (get:Nat->List AV) (g off cap:Nat) (vs:Nat->Nat->Value) (hn:n<=cap) (hm:cap<=maxLen) (hF: ¬F g) (hg:g<w.heap.size)
   (hlen: ∀k,k<n->(get k).length=sz)
   (hc: ∀k j,k<n->j<sz->w.cell? ⟨g,off+k*sz+j,none⟩=some (vs k j)) (h1: ∀k j,k<n->j<sz->(vs k j).oneCell'=true)
   (h: ∀(k j:Nat) (_:k<n) (hj:j<(get k).length),Rep0 F w (get k)[j] (vs k j)):Rep0 F w (.rs sz n get) (.slice (some ⟨g,off,none⟩) n cap)
 |rp (cs:List AV) (g off:Nat) (vs:Nat->Value) (hF: ¬F g) (hg:g<w.heap.size)
   (hc: ∀j,j<cs.length->w.cell? ⟨g,off+j,none⟩=some (vs j)) (h1: ∀j,j<cs.length->(vs j).oneCell'=true)
   (h: ∀(j:Nat) (hj:j<cs.length),Rep0 F w cs[j] (vs j)):Rep0 F w (.rp cs) (.pointer (some ⟨g,off,none⟩))
 |rmnil (key val:Nat->AV):Rep0 F w (.rm 0 key val) (.map none)
 |rm (n:Nat) (key val:Nat->AV) (g:Nat) (es:Array MapEntry) (clock:Nat) (hF: ¬F g) (hg:w.heap[g]? =some (.map es clock)) (hn:es.size=n) (ho:MapOk es clock)
   (hk: ∀(i:Nat) (_h:i<n) (h2:i<es.size),Rep0 F w (key i) es[i].key) (hv: ∀(i:Nat) (_h:i<n) (h2:i<es.size),Rep0 F w (val i) es[i].val):Rep0 F w (.rm n key val) (.map (some g))
theorem Rep0.stable {F P:Nat->Prop} {w w':World} {a:AV} {v:Value} (h:Rep0 F w a v)
  (H: ∀g,g<w.heap.size-> ¬F g-> ¬P g) (N: ∀g,g<w.heap.size-> ¬F g->w'.heap[g]? =w.heap[g]?) (R:w.heap.size<=w'.heap.size):Rep0 P w' a v:=by
 induction h with
 |b c=>exact .b c
 |i k n=>exact .i k n
 |s x=>exact .s x
 |val v=>exact .val v
 |u v=>exact .u v
 |fn f U q A h l=>exact .fn f U q A l
 |ag z q A h l=>exact .ag z q A l
 |tup z q A h l=>exact .tup z q A l
 |rsnil C get=>exact .rsnil C get
 |rsz C get a=>exact .rsz C get a
 |rs C n get g E Y q M hm t e W K G h l=>exact .rs C n get g E Y q M hm (H g e t) (eS e R) W (λk j Q L=>by rw[World.cell?_of_block (w:=w) (N g e t)];exact K k j Q L) G l
 |rp z g E q t e K G h l=>exact .rp z g E q (H g e t) (eS e R) (λj L=>by rw[World.cell?_of_block (w:=w) (N g e t)];exact K j L) G l
 |rmnil D val=>exact .rmnil D val
 |rm n D val g es S t e M ho Q hv a0 a1=>have O:=(cN.1 e).1;exact .rm n D val g es S (H g O t) (by rw[N g O t];exact e) M ho a0 a1
inductive KD where
 |row (e:TypeId) (sz n:Nat) (get:Nat->List AV)
 |cells (e:TypeId) (cs:List AV)
inductive AO where
 |cells (e:TypeId) (cs:List AV)
 |row (e:TypeId) (sz n:Nat) (get:Nat->List AV)
 |mp (n:Nat) (key val:Nat->AV) (born:Nat->Nat) (clock:Nat)
 |it (mid since:Nat) (seen:List Nat)
 |ir (n:Nat) (key val:Nat->AV) (seen:Nat->Bool) (last:Option Nat)
 |mr (n:Nat) (key:Nat->AV) (kid:Nat->KD) (born:Nat->Nat) (clock aux:Nat) (hole:Option (Nat×Nat))
 |dead
structure Bd where
 blk:Nat->Nat
 val:Nat->Value
def aH9 (b:Value) (sz lo n:Nat) (v:Value):Prop:=
 (v= .slice none 0 0/\n=0/\b= .slice none 0 0)\/(∃a,v= .slice (some a) 0 0/\n=0/\ ∃f m c,b= .slice f m c/\c<=lo)\/
  ∃g e m c,b= .slice (some ⟨g,e,none⟩) m c/\lo<c/\lo+n<=m/\v= .slice (some ⟨g,e+lo*sz,none⟩) n (c-lo)
theorem aH9.one {b:Value} {sz lo n:Nat} {v:Value} (h:aH9 b sz lo n v):v.oneCell'=true:=by rcases h with ⟨rfl,_⟩|⟨a,rfl,_⟩|⟨g,e,m,c,_,_,_,rfl⟩<;>rfl
inductive Rep (β:Bd) (n:Nat) (F:Nat->Prop) (w:World):AV->Value->Prop
 |pure (a:AV) (v:Value) (h:Rep0 F w a v):Rep β n F w a v
 |p (id off:Nat) (hi:id<n):Rep β n F w (.p id off) (.pointer (some ⟨β.blk id,off,none⟩))
 |so (id:Nat) (hi:id<n) (h1:(β.val id).oneCell'=true):Rep β n F w (.so id) (β.val id)
 |pe (id sz idx off g o m c:Nat) (hi:id<n) (h:β.val id= .slice (some ⟨g,o,none⟩) m c):Rep β n F w (.pe id sz idx off) (.pointer (some ⟨g,o+(idx*sz+off),none⟩))
 |mo (id:Nat) (hi:id<n):Rep β n F w (.mo id) (.map (some (β.blk id)))
 |sv (id sz lo m:Nat) (v:Value) (hi:id<n) (h:aH9 (β.val id) sz lo m v):Rep β n F w (.sv id sz lo m) v
 |sc (id off m cap:Nat) (hi:id<n) (hm:m<=cap) (hc:cap<=maxLen):Rep β n F w (.sc id off m cap) (.slice (some ⟨β.blk id,off,none⟩) m cap)
 |fn (f:FuncId) (caps:List AV) (vs:List Value) (hl:caps.length=vs.length)
   (h: ∀(j:Nat) (h1:j<caps.length) (h2:j<vs.length),Rep β n F w caps[j] vs[j]):Rep β n F w (.fn f caps) (.func (.func f) #[] vs.toArray)
 |ag (cs:List AV) (vs:List Value) (hl:cs.length=vs.length)
   (h: ∀(j:Nat) (h1:j<cs.length) (h2:j<vs.length),Rep β n F w cs[j] vs[j]):Rep β n F w (.ag cs) (.agg vs.toArray)
 |tup (cs:List AV) (vs:List Value) (hl:cs.length=vs.length)
   (h: ∀(j:Nat) (h1:j<cs.length) (h2:j<vs.length),Rep β n F w cs[j] vs[j]):Rep β n F w (.tup cs) (.tuple vs.toArray)
theorem Rep.stable {β:Bd} {n:Nat} {F z:Nat->Prop} {w w':World} {a:AV} {v:Value} (h:Rep β n F w a v)
  (G: ∀g,g<w.heap.size-> ¬F g-> ¬z g) (M: ∀g,g<w.heap.size-> ¬F g->w'.heap[g]? =w.heap[g]?) (L:w.heap.size<=w'.heap.size):Rep β n z w' a v:=by
 induction h with
 |pure a v h=>exact .pure a v (h.stable G M L)
 |p id j e=>exact .p id j e
 |so id e E=>exact .so id e E
 |pe id x D j g o n c e h=>exact .pe id x D j g o n c e h
 |mo id e=>exact .mo id e
 |sv id x N m v e h=>exact .sv id x N m v e h
 |sc id j m C e K H=>exact .sc id j m C e K H
 |fn f A q k h l=>exact .fn f A q k l
 |ag t q k h l=>exact .ag t q k l
 |tup t q k h l=>exact .tup t q k l
theorem Rep.more {β:Bd} {n A:Nat} {F:Nat->Prop} {w:World} {a:AV} {v:Value} (h:Rep β n F w a v) (j:n<=A):Rep β A F w a v:=by
 induction h with
 |pure a v h=>exact .pure a v h
 |p id k e=>exact .p id k (eS e j)
 |so id e G=>exact .so id (eS e j) G
 |pe id z E k g o m c e h=>exact .pe id z E k g o m c (eS e j) h
 |mo id e=>exact .mo id (eS e j)
 |sv id z L m v e h=>exact .sv id z L m v (eS e j) h
 |sc id k m D e K H=>exact .sc id k m D (eS e j) K H
 |fn f C t l h q=>exact .fn f C t l q
 |ag x t l h q=>exact .ag x t l q
 |tup x t l h q=>exact .tup x t l q
theorem uF {a b:Nat} (h:Nat.blt a b=true):a<b:=by simpa [Nat.blt_eq] using h
theorem Rep.less {β:Bd} {n m:Nat} {F:Nat->Prop} {w:World} {a:AV} {v:Value} (h:Rep β n F w a v) (hl:a.lt m=true):Rep β m F w a v:=by
 induction h with
 |pure a v h=>exact .pure a v h
 |p id l x=>exact .p id l (uF jV)
 |so id x e=>exact .so id (uF jV) e
 |pe id D H l g o n c x h=>exact .pe id D H l g o n c (uF jV) h
 |mo id x=>exact .mo id (uF jV)
 |sv id D M m v x h=>exact .sv id D M m v (uF jV) h
 |sc id l m G x L K=>exact .sc id l m G (uF jV) L K
 |fn f E A q h z=>exact .fn f E A q λj e t=>z j e t (AV.lts_get jV j e)
 |ag C A q h z=>exact .ag C A q λj e t=>z j e t (AV.lts_get jV j e)
 |tup C A q h z=>exact .tup C A q λj e t=>z j e t (AV.lts_get jV j e)
theorem Rep.but {β β':Bd} {n q:Nat} {F:Nat->Prop} {w:World} {a:AV} {v:Value} (h:Rep β n F w a v) (t:a.no q=true)
  (x: ∀id,id<n->id≠q->β'.blk id=β.blk id/\β'.val id=β.val id):Rep β' n F w a v:=by
 have z: ∀id,(!(Nat.beq id q))=true->id≠q:=λid h e=>by subst e;simp at h
 induction h with
 |pure a v h=>exact .pure a v h
 |p id A k=>rw[<-(x id k (z id (by simpa [AV.no] using t))).1];exact .p id A k
 |so id k l=>rw[<-(x id k (z id (by simpa [AV.no] using t))).2] at l|-;exact .so id k l
 |pe id K N A g o m c k h=>exact .pe id K N A g o m c k ((x id k (z id (by simpa [AV.no] using t))).2.trans h)
 |mo id k=>rw[<-(x id k (z id (by simpa [AV.no] using t))).1];exact .mo id k
 |sv id K Q m v k h=>exact .sv id K Q m v k (by rw[(x id k (z id (by simpa [AV.no] using t))).2];exact h)
 |sc id A m M k P O=>rw[<-(x id k (z id (by simpa [AV.no] using t))).1];exact .sc id A m M k P O
 |fn f L G C h E=>exact .fn f L G C λj l D=>E j l D (AV.nos_get (by simpa [AV.no] using t) j l)
 |ag H G C h E=>exact .ag H G C λj l D=>E j l D (AV.nos_get (by simpa [AV.no] using t) j l)
 |tup H G C h E=>exact .tup H G C λj l D=>E j l D (AV.nos_get (by simpa [AV.no] using t) j l)
theorem Rep.same {β β':Bd} {n:Nat} {F:Nat->Prop} {w:World} {a:AV} {v:Value} (h:Rep β n F w a v)
  (j: ∀id,id<n->β'.blk id=β.blk id/\β'.val id=β.val id):Rep β' n F w a v:=by
 induction h with
 |pure a v h=>exact .pure a v h
 |p id k e=>rw[<-(j id e).1];exact .p id k e
 |so id e A=>rw[<-(j id e).2] at A|-;exact .so id e A
 |pe id z E k g o m c e h=>exact .pe id z E k g o m c e ((j id e).2.trans h)
 |mo id e=>rw[<-(j id e).1];exact .mo id e
 |sv id z K m v e h=>exact .sv id z K m v e (by rw[(j id e).2];exact h)
 |sc id k m D e H G=>rw[<-(j id e).1];exact .sc id k m D e H G
 |fn f C t l h q=>exact .fn f C t l q
 |ag x t l h q=>exact .ag x t l q
 |tup x t l h q=>exact .tup x t l q
mutual
def AV.ren (ρ:Nat->Nat):AV->AV
 | .p id e=> .p (ρ id) e
 | .so id=> .so (ρ id)
 | .pe id g h e=> .pe (ρ id) g h e
 | .mo id=> .mo (ρ id)
 | .sv id g j n=> .sv (ρ id) g j n
 | .sc id e n c=> .sc (ρ id) e n c
 | .rm n ks l=> .rm n ks l
 | .fn f a=> .fn f (AV.rens ρ a)
 | .ag a=> .ag (AV.rens ρ a)
 | .tup a=> .tup (AV.rens ρ a)
 | .b c=> .b c
 | .i k n=> .i k n
 | .s x=> .s x
 | .val v=> .val v
 | .u=> .u
 | .rs g n get=> .rs g n get
 | .rp a=> .rp a
def AV.rens (ρ:Nat->Nat):List AV->List AV
 |[]=>[]
 |c::r=>AV.ren ρ c::AV.rens ρ r
end
theorem AV.length_rens (ρ:Nat->Nat): ∀l:List AV,(AV.rens ρ l).length=l.length
 |[]=>rfl
 |c::r=>by simp[AV.rens,AV.length_rens ρ r]
theorem AV.rens_get (ρ:Nat->Nat): ∀(l:List AV) (j:Nat) (h:j<(AV.rens ρ l).length) (a:j<l.length),(AV.rens ρ l)[j]=AV.ren ρ l[j]
 |[],j,h,_=>by simp[AV.rens] at h
 |c::r,0,_,_=>by simp[AV.rens]
 |c::r,j+1,h,a=>by simp only[AV.rens,tG];exact AV.rens_get ρ r j _ _
theorem Rep0.unren {F:Nat->Prop} {w:World} {a:AV} {v:Value} (h:Rep0 F w a v) (ρ:Nat->Nat):Rep0 F w (a.ren ρ) v:=by
 induction h with
 |b c=>exact .b c
 |i k n=>exact .i k n
 |s x=>exact .s x
 |val v=>exact .val v
 |u v=>exact .u v
 |fn f q l D h t=>exact .fn f _ l ((AV.length_rens ρ q).trans D) λj e A=>by rw[AV.rens_get ρ q j e (by rw[AV.length_rens] at e;exact e)];exact t j _ A
 |ag q l D h t=>exact .ag _ l ((AV.length_rens ρ q).trans D) λj e A=>by rw[AV.rens_get ρ q j e (by rw[AV.length_rens] at e;exact e)];exact t j _ A
 |tup q l D h t=>exact .tup _ l ((AV.length_rens ρ q).trans D) λj e A=>by rw[AV.rens_get ρ q j e (by rw[AV.length_rens] at e;exact e)];exact t j _ A
 |rsnil E get=>exact .rsnil E get
 |rsz E get a=>exact .rsz E get a
 |rs E n get g H O l L S z C N K e h t=>exact .rs E n get g H O l L S z C N K e h
 |rp P g H l z C K e h t=>exact .rp P g H l z C K e h
 |rmnil G val=>exact .rmnil G val
 |rm n G val g Q M z C L U R W Y a0=>exact .rm n G val g Q M z C L U R W
theorem Rep.unren {β β':Bd} {n E:Nat} {F:Nat->Prop} {w:World} {a:AV} {v:Value} (h:Rep β n F w a v) (ρ:Nat->Nat)
  (l: ∀id,id<n->ρ id<E/\β'.blk (ρ id)=β.blk id/\β'.val (ρ id)=β.val id):Rep β' E F w (a.ren ρ) v:=by
 induction h with
 |pure a v h=>exact .pure _ v (h.unren ρ)
 |p id t e=>rw[<-(l id e).2.1];exact .p _ t (l id e).1
 |so id e k=>rw[<-(l id e).2.2] at k|-;exact .so _ (l id e).1 k
 |pe id D H t g o m c e h=>exact .pe _ D H t g o m c (l id e).1 ((l id e).2.2.trans h)
 |mo id e=>rw[<-(l id e).2.1];exact .mo _ (l id e).1
 |sv id D M m v e h=>exact .sv _ D M m v (l id e).1 (by rw[(l id e).2.2];exact h)
 |sc id t m G e L K=>rw[<-(l id e).2.1];exact .sc _ t m G (l id e).1 L K
 |fn f q C z h A=>exact .fn f _ C ((AV.length_rens ρ q).trans z) λj k x=>by rw[AV.rens_get ρ q j k (by rw[AV.length_rens] at k;exact k)];exact A j _ x
 |ag q C z h A=>exact .ag _ C ((AV.length_rens ρ q).trans z) λj k x=>by rw[AV.rens_get ρ q j k (by rw[AV.length_rens] at k;exact k)];exact A j _ x
 |tup q C z h A=>exact .tup _ C ((AV.length_rens ρ q).trans z) λj k x=>by rw[AV.rens_get ρ q j k (by rw[AV.length_rens] at k;exact k)];exact A j _ x
theorem Rep0.ren' {F:Nat->Prop} {w:World} {ρ:Nat->Nat} {M:AV} {v:Value} (h:Rep0 F w M v): ∀a:AV,a.ren ρ=M->Rep0 F w a v:=by
 induction h with
 |b c=>intro a e;cases a<;>simp[AV.ren] at e;subst e;exact .b _
 |i k n=>intro a e;cases a<;>simp[AV.ren] at e;obtain⟨rfl,rfl⟩:=e;exact .i _ _
 |s x=>intro a e;cases a<;>simp[AV.ren] at e;subst e;exact .s _
 |val v=>intro a e;cases a<;>simp[AV.ren] at e;subst e;exact .val _
 |u v=>intro a e;cases a<;>simp[AV.ren] at e;exact .u _
 |fn f L q t h z=>intro a e;cases a<;>simp[AV.ren] at e;rename_i f' A;obtain⟨rfl,rfl⟩:=e;rw[AV.length_rens] at t;exact .fn _ _ q t λj l D=>z j (by rw[AV.length_rens];exact l) D _ (AV.rens_get ρ A j _ l).symm
 |ag L q t h z=>intro a e;cases a<;>simp[AV.ren] at e;rename_i A;subst e;rw[AV.length_rens] at t;exact .ag _ q t λj l D=>z j (by rw[AV.length_rens];exact l) D _ (AV.rens_get ρ A j _ l).symm
 |tup L q t h z=>intro a e;cases a<;>simp[AV.ren] at e;rename_i A;subst e;rw[AV.length_rens] at t;exact .tup _ q t λj l D=>z j (by rw[AV.length_rens];exact l) D _ (AV.rens_get ρ A j _ l).symm
 |rsnil N get=>intro a e;cases a<;>simp[AV.ren] at e;obtain⟨rfl,rfl,rfl⟩:=e;exact .rsnil _ _
 |rsz N get S=>intro a e;cases a<;>simp[AV.ren] at e;obtain⟨rfl,rfl,rfl⟩:=e;exact .rsz _ _ S
 |rs N n get g G Q q K Y C E P H l h z=>intro a e;cases a<;>simp[AV.ren] at e;obtain⟨rfl,rfl,rfl⟩:=e;exact .rs _ _ _ g G Q q K Y C E P H l h
 |rp A g G q C E H l h z=>intro a e;cases a<;>simp[AV.ren] at e;subst e;exact .rp _ g G q C E H l h
 |rmnil R val=>intro a e;cases a<;>simp[AV.ren] at e;obtain⟨rfl,rfl,rfl⟩:=e;exact .rmnil _ _
 |rm n R val g U O C E K ho W hv a0 a1=>intro a e;cases a<;>simp[AV.ren] at e;obtain⟨rfl,rfl,rfl⟩:=e;exact .rm _ _ _ g U O C E K ho W hv
theorem Rep.ren' {β:Bd} {n m:Nat} {F:Nat->Prop} {w:World} {ρ:Nat->Nat} {H:AV} {v:Value} (h:Rep β n F w H v):
  ∀a:AV,a.ren ρ=H->a.lt m=true->Rep ⟨λid=>β.blk (ρ id),λid=>β.val (ρ id)⟩ m F w a v:=by
 induction h with
 |pure a v h=>intro a e _;exact .pure _ _ (h.ren' a e)
 |p id G A=>intro a e l;cases a<;>simp[AV.ren] at e;obtain⟨rfl,rfl⟩:=e;exact Rep.p (β:=⟨λid=>β.blk (ρ id),λid=>β.val (ρ id)⟩) _ _ (uF (by simpa [AV.lt] using l))
 |so id A q=>intro a e l;cases a<;>simp[AV.ren] at e;subst e;exact Rep.so (β:=⟨λid=>β.blk (ρ id),λid=>β.val (ρ id)⟩) _ (uF (by simpa [AV.lt] using l)) q
 |pe id M O G g o m c A h=>intro a e l;cases a<;>simp[AV.ren] at e;obtain⟨rfl,rfl,rfl,rfl⟩:=e;exact .pe _ _ _ _ g o m c (uF (by simpa [AV.lt] using l)) h
 |sv id M Q k v A h=>intro a e l;cases a<;>simp[AV.ren] at e;obtain⟨rfl,rfl,rfl,rfl⟩:=e;exact .sv _ _ _ _ v (uF (by simpa [AV.lt] using l)) h
 |sc id G k N A L K=>intro a e l;cases a<;>simp[AV.ren] at e;obtain⟨rfl,rfl,rfl,rfl⟩:=e;exact Rep.sc (β:=⟨λid=>β.blk (ρ id),λid=>β.val (ρ id)⟩) _ _ _ _ (uF (by simpa [AV.lt] using l)) L K
 |mo id A=>intro a e l;cases a<;>simp[AV.ren] at e;subst e;exact Rep.mo (β:=⟨λid=>β.blk (ρ id),λid=>β.val (ρ id)⟩) _ (uF (by simpa [AV.lt] using l))
 |fn f E D t h C=>intro a e l;cases a<;>simp[AV.ren] at e;rename_i P x;obtain⟨rfl,rfl⟩:=e;rw[AV.length_rens] at t;exact .fn _ _ D t λj q z=>C j (by rw[AV.length_rens];exact q) z _ (AV.rens_get ρ x j _ q).symm (AV.lts_get (by simpa [AV.lt] using l) j q)
 |ag E D t h C=>intro a e l;cases a<;>simp[AV.ren] at e;rename_i x;subst e;rw[AV.length_rens] at t;exact .ag _ D t λj q z=>C j (by rw[AV.length_rens];exact q) z _ (AV.rens_get ρ x j _ q).symm (AV.lts_get (by simpa [AV.lt] using l) j q)
 |tup E D t h C=>intro a e l;cases a<;>simp[AV.ren] at e;rename_i x;subst e;rw[AV.length_rens] at t;exact .tup _ D t λj q z=>C j (by rw[AV.length_rens];exact q) z _ (AV.rens_get ρ x j _ q).symm (AV.lts_get (by simpa [AV.lt] using l) j q)
section
variable {β : Bd} {n : Nat} {F : Nat -> Prop} {w : World} {v : Value}
theorem Rep.b_inv {c:Bool} (h:Rep β n F w (.b c) v):v= .bool c:=by cases h with|pure _ _ h=>cases h;rfl
theorem Rep.i_inv {k:IntKind} {m:Int} (h:Rep β n F w (.i k m) v):v= .int k m:=by cases h with|pure _ _ h=>cases h;rfl
theorem Rep.s_inv {x:ByteArray} (h:Rep β n F w (.s x) v):v= .string x:=by cases h with|pure _ _ h=>cases h;rfl
theorem Rep.val_inv {x:Value} (h:Rep β n F w (.val x) v):v=x:=by cases h with|pure _ _ h=>cases h;rfl
theorem Rep.p_inv {id off:Nat} (h:Rep β n F w (.p id off) v):id<n/\v= .pointer (some ⟨β.blk id,off,none⟩):=by
 cases h with
 |pure _ _ h=>cases h
 |p _ _ a=>exact⟨a,rfl⟩
theorem Rep.so_inv {id:Nat} (h:Rep β n F w (.so id) v):id<n/\v=β.val id:=by
 cases h with
 |pure _ _ h=>cases h
 |so _ a _=>exact⟨a,rfl⟩
theorem Rep.mo_inv {id:Nat} (h:Rep β n F w (.mo id) v):id<n/\v= .map (some (β.blk id)):=by
 cases h with
 |pure _ _ h=>cases h
 |mo _ a=>exact⟨a,rfl⟩
theorem Rep.pe_inv {id sz a off:Nat} (h:Rep β n F w (.pe id sz a off) v):id<n/\ ∃g o m c,β.val id= .slice (some ⟨g,o,none⟩) m c/\v= .pointer (some ⟨g,o+(a*sz+off),none⟩):=by
 cases h with
 |pure _ _ h=>cases h
 |pe _ _ _ _ g o m c e h=>exact⟨e,g,o,m,c,h,rfl⟩
theorem Rep.sv_inv {id sz lo m:Nat} (h:Rep β n F w (.sv id sz lo m) v):id<n/\aH9 (β.val id) sz lo m v:=by
 cases h with
 |pure _ _ h=>cases h
 |sv _ _ _ _ _ a h=>exact⟨a,h⟩
theorem Rep.sc_inv {id off m a:Nat} (h:Rep β n F w (.sc id off m a) v):id<n/\m<=a/\a<=maxLen/\v= .slice (some ⟨β.blk id,off,none⟩) m a:=by
 cases h with
 |pure _ _ h=>cases h
 |sc _ _ _ _ e f c=>exact⟨e,f,c,rfl⟩
theorem Rep.rm_inv {m:Nat} {a val:Nat->AV} (h:Rep β n F w (.rm m a val) v):Rep0 F w (.rm m a val) v:=by cases h with|pure _ _ h=>exact h
theorem Rep.rs_inv {sz m:Nat} {get:Nat->List AV} (h:Rep β n F w (.rs sz m get) v):Rep0 F w (.rs sz m get) v:=by cases h with|pure _ _ h=>exact h
theorem Rep.rp_inv {cs:List AV} (h:Rep β n F w (.rp cs) v):Rep0 F w (.rp cs) v:=by cases h with|pure _ _ h=>exact h
theorem Rep.ag_inv {cs:List AV} (h:Rep β n F w (.ag cs) v): ∃a:List Value,v= .agg a.toArray/\cs.length=a.length/\ ∀(j:Nat) (e:j<cs.length) (f:j<a.length),Rep β n F w cs[j] a[j]:=by
 cases h with
 |pure _ _ h=>cases h with|ag _ a c h=>exact⟨a,rfl,c,λj e f=> .pure _ _ (h j e f)⟩
 |ag _ a c h=>exact⟨a,rfl,c,h⟩
theorem Rep.tup_inv {cs:List AV} (h:Rep β n F w (.tup cs) v): ∃a:List Value,v= .tuple a.toArray/\cs.length=a.length/\ ∀(j:Nat) (e:j<cs.length) (f:j<a.length),Rep β n F w cs[j] a[j]:=by
 cases h with
 |pure _ _ h=>cases h with|tup _ a c h=>exact⟨a,rfl,c,λj e f=> .pure _ _ (h j e f)⟩
 |tup _ a c h=>exact⟨a,rfl,c,h⟩
theorem Rep.fn_inv {f:FuncId} {cs:List AV} (h:Rep β n F w (.fn f cs) v): ∃a:List Value,v= .func (.func f) #[] a.toArray/\cs.length=a.length/\ ∀(j:Nat) (e:j<cs.length) (g:j<a.length),Rep β n F w cs[j] a[j]:=by
 cases h with
 |pure _ _ h=>cases h with|fn _ _ a c h=>exact⟨a,rfl,c,λj e g=> .pure _ _ (h j e g)⟩
 |fn _ _ a c h=>exact⟨a,rfl,c,h⟩
theorem Rep.toPure {a:AV} (h:Rep β n F w a v) (hl:a.lt 0=true):Rep0 F w a v:=by
 induction h with
 |pure a v h=>exact h
 |p id C t=>simp[AV.lt] at hl
 |so id t _=>simp[AV.lt] at hl
 |pe id D G C g o m c t h=>simp[AV.lt] at hl
 |mo id t=>simp[AV.lt] at hl
 |sv id D L m v t h=>simp[AV.lt] at hl
 |sc id C m E t K H=>simp[AV.lt] at hl
 |fn f A z l h x=>exact .fn _ _ z l λj e q=>x j e q (AV.lts_get jV j e)
 |ag A z l h x=>exact .ag _ z l λj e q=>x j e q (AV.lts_get jV j e)
 |tup A z l h x=>exact .tup _ z l λj e q=>x j e q (AV.lts_get jV j e)
end
def kI:Value->Option Nat
 | .slice (some a) _ (_+1)=>some a.block
 |_=>none
def kT (w:World) (e:TypeId) (sz:Nat) (v:Value) (n:Nat) (xs:List Value):Prop:=
 xs.length=n*sz/\((v= .slice none 0 0/\n=0)\/(∃a,v= .slice (some a) 0 0/\n=0)\/
  ∃g h c f,v= .slice (some ⟨g,h,none⟩) n (c+1)/\w.heap[g]? =some (.cells f e (0,0))/\n<=c+1/\c+1<=maxLen/\h+(c+1)*sz<=f.size/\
   (f.toList.drop h).take (n*sz)=xs)
theorem kT.one {w:World} {e:TypeId} {sz:Nat} {v:Value} {n:Nat} {xs:List Value} (h:kT w e sz v n xs):v.oneCell'=true:=by rcases h.2 with ⟨rfl,_⟩|⟨a,rfl,_⟩|⟨g,j,c,f,rfl,_⟩<;>rfl
theorem kT.lt {w:World} {e:TypeId} {sz:Nat} {v:Value} {n:Nat} {xs:List Value} (h:kT w e sz v n xs) {g:Nat} (c:kI v=some g):g<w.heap.size:=by
 rcases h.2 with ⟨rfl,_⟩|⟨a,rfl,_⟩|⟨q,l,j,k,rfl,f,_⟩
 ·cases c
 ·cases c
 ·simp only[kI,dT] at c;subst c;exact(cN.1 f).1
theorem kT.stable {w w':World} {e:TypeId} {sz:Nat} {v:Value} {n:Nat} {xs:List Value} (h:kT w e sz v n xs) (l: ∀g,kI v=some g->w'.heap[g]? =w.heap[g]?):kT w' e sz v n xs:=by
 refine⟨h.1,?_⟩;rcases h.2 with h|h|⟨g,f,a,c,rfl,k,j⟩
 ·exact .inl h
 ·exact .inr (.inl h)
 ·exact .inr (.inr ⟨g,f,a,c,rfl,by rw[l g rfl];exact k,j⟩)
theorem kT.cells {w:World} {e:TypeId} {sz:Nat} {v:Value} {n:Nat} {xs:List Value} (h:kT w e sz v n xs) (A:0<xs.length):
  ∃g off c f,v= .slice (some ⟨g,off,none⟩) n (c+1)/\w.heap[g]? =some (.cells f e (0,0))/\n<=c+1/\c+1<=maxLen/\off+(c+1)*sz<=f.size/\(f.toList.drop off).take (n*sz)=xs/\
   ∀j u,xs[j]? =some u->w.cell? ⟨g,off+j,none⟩=some u:=by
 rcases h.2 with ⟨_,rfl⟩|⟨a,_,rfl⟩|⟨g,off,c,f,rfl,q,z,t,x,l⟩
 ·have:=h.1;omega
 ·have:=h.1;omega
 ·refine⟨g,off,c,f,rfl,q,z,t,x,l,λj u k=> ?_⟩;rw[<-l,dZ] at k;split at k
  ·rw[eE] at k;rw[cell_of_row w _ _ _ _ _ q];simpa using k
  ·cases k
theorem kT.of_owns {w:World} {base:Nat} {e:TypeId} {sz:Nat} {v:Value} {n:Nat} {xs:List Value} (h:w.ownsRow base e sz v n xs):kT w e sz v n xs/\ ∀g,kI v=some g->base<=g:=by
 rcases h.2 with ⟨rfl,t⟩|⟨g,c,j,rfl,C,x,q,l,A,f⟩
 ·exact⟨⟨h.1,.inl ⟨rfl,t⟩⟩,λg a=>by cases a⟩
 ·cases c with
  |zero=>have z:n=0:=J;subst z;exact⟨⟨h.1,.inr (.inl ⟨_,rfl,rfl⟩)⟩,λg a=>by cases a⟩
  |succ c=>exact⟨⟨h.1,.inr (.inr ⟨g,0,c,j,rfl,x,q,l,J,by simpa using f⟩)⟩,λD a=>by simp only[kI,dT] at a;omega⟩
def tO (a:Option (Nat×Nat)) (i:Nat):Prop:= ∀h,a≠some (i,h)
def wt:Value->Nat->Value
 | .agg a,i=>a.toList.getD i (.slice none 0 0)
 |_,_=> .slice none 0 0
def H1:Value->Option Nat
 | .pointer (some a)=>some a.block
 |v=>kI v
def xM (β:Bd):KD->Nat->Value
 | .row _ _ _ _,h=>β.val h
 | .cells _ _,h=> .pointer (some ⟨β.blk h,0,none⟩)
def xD (F:Nat->Prop) (w:World) (v:Value):KD->Prop
 | .row e a m get=> ∃f:List Value,kT w e a v m f/\(∀k,k<m->(get k).length=a)/\
   ∀(k j:Nat) (_:k<m) (h:j<(get k).length) (l:k*a+j<f.length),Rep0 F w (get k)[j] f[k*a+j]/\f[k*a+j].oneCell'=true
 | .cells e g=> ∃(b:Nat) (c:List Value),v= .pointer (some ⟨b,0,none⟩)/\w.heap[b]? =some (.cells c.toArray e (0,0))/\g.length=c.length/\
   ∀(j:Nat) (h:j<g.length) (l:j<c.length),Rep0 F w g[j] c[j]/\c[j].oneCell'=true
theorem H7 {w:World} {e:TypeId} {sz:Nat} {v:Value} {n:Nat} {xs:List Value} (h:kT w e sz v n xs):H1 v=kI v:=by rcases h.2 with ⟨rfl,_⟩|⟨a,rfl,_⟩|⟨g,j,c,f,rfl,_⟩<;>rfl
theorem xD.lt {F:Nat->Prop} {w:World} {v:Value} {k:KD} (h:xD F w v k) {g:Nat} (a:H1 v=some g):g<w.heap.size:=by
 cases k with
 |row e l m get=>obtain⟨q,c,_⟩:=h;rw[H7 c] at a;exact c.lt a
 |cells e j=>obtain⟨b,n,rfl,f,_⟩:=h;simp only[H1,dT] at a;subst a;exact(cN.1 f).1
theorem xD.stable {F n:Nat->Prop} {w w':World} {v:Value} {k:KD} (h:xD F w v k)
  (q: ∀g,g<w.heap.size-> ¬F g-> ¬n g) (z: ∀g,g<w.heap.size-> ¬F g->w'.heap[g]? =w.heap[g]?) (x:w.heap.size<=w'.heap.size)
  (l: ∀g,H1 v=some g->w'.heap[g]? =w.heap[g]?):xD n w' v k:=by
 cases k with
 |row e M m get=>obtain⟨K,A,C,f⟩:=h;refine⟨K,A.stable λg D=>l g (by rw[H7 A];exact D),C,λk j t a c=>⟨(f k j t a c).1.stable q z x,(f k j t a c).2⟩⟩
 |cells e L=>obtain⟨b,H,rfl,E,G,f⟩:=h;exact⟨b,H,rfl,by rw[l b rfl];exact E,G,λj a c=>⟨(f j a c).1.stable q z x,(f j a c).2⟩⟩
def lV (β:Bd) (n:Nat) (F:Nat->Prop) (w:World) (id:Nat):AO->Prop
 | .cells e E=> ∃z:List Value,w.heap[β.blk id]? =some (.cells z.toArray e (0,0))/\E.length=z.length/\
   ∀(j:Nat) (M:j<E.length) (l:j<z.length),Rep β n F w E[j] z[j]/\z[j].oneCell'=true
 | .row e x m get=> ∃A:List Value,kT w e x (β.val id) m A/\(∀k,k<m->(get k).length=x)/\
   ∀(k j:Nat) (_:k<m) (M:j<(get k).length) (l:k*x+j<A.length),Rep0 F w (get k)[j] A[k*x+j]/\A[k*x+j].oneCell'=true
 | .mp m t val C c=> ∃a:Array MapEntry,w.heap[β.blk id]? =some (.map a c)/\a.size=m/\MapOk a c/\
   ∀(i:Nat) (_:i<m) (l:i<a.size),Rep0 F w (t i) a[i].key/\Rep0 F w (val i) a[i].val/\a[i].born=C i
 | .it mid H D=>mid<n/\w.heap[β.blk id]? =some (.mapIter (some (β.blk mid)) H D.toArray H)
 | .ir m t val D L=> ∃(g:Option Nat) (a:Array MapEntry) (c:Nat) (G:Array Nat),w.heap[β.blk id]? =some (.mapIter g c G c)/\a.size=m/\MapOk a c/\(g=none->m=0)/\
   (∀b,g=some b-> ¬F b/\w.heap[b]? =some (.map a c))/\
   (∀(i:Nat) (_:i<m) (l:i<a.size),Rep0 F w (t i) a[i].key/\Rep0 F w (val i) a[i].val/\G.contains a[i].born=D i)/\
   ∀i,L=some i-> ∃h:i<a.size,G.back? =some a[i].born
 | .mr m t K C c q f=>q<n/\(∀i h,f=some (i,h)->h<n/\i<m)/\ ∃a:Array MapEntry,w.heap[β.blk id]? =some (.map a c)/\a.size=m/\MapOk a c/\
   (∀(i:Nat) (_:i<m) (l:i<a.size),Rep0 F w (t i) a[i].key/\a[i].born=C i)/\
   (∀(i:Nat) (_:i<m) (l:i<a.size),tO f i->a[i].val=wt (β.val q) i/\xD F w a[i].val (K i))/\
   (∀(i j g:Nat),i<m->j<m->tO f i->tO f j->H1 (wt (β.val q) i)=some g->H1 (wt (β.val q) j)=some g->i=j)/\
   (∀(i j:Nat),i<m->j<m->tO f i->H1 (wt (β.val q) i)≠some (β.blk id))/\
   ∀i h (_:f=some (i,h)) (l:i<a.size),a[i].val=xM β (K i) h/\a[i].val.oneCell'=true
 | .dead=>True
def NL (β:Bd) (id:Nat):AO->Option Nat
 | .cells _ _=>some (β.blk id)
 | .row _ _ _ _=>kI (β.val id)
 | .mp _ _ _ _ _=>some (β.blk id)
 | .it _ _ _=>some (β.blk id)
 | .ir _ _ _ _ _=>some (β.blk id)
 | .mr _ _ _ _ _ _ _=>some (β.blk id)
 | .dead=>none
def dG (β:Bd) (id:Nat):AO->Nat->Prop
 | .cells _ _=>λg=>β.blk id=g
 | .row _ _ _ _=>λg=>kI (β.val id)=some g
 | .mp _ _ _ _ _=>λg=>β.blk id=g
 | .it _ _ _=>λg=>β.blk id=g
 | .ir _ _ _ _ _=>λg=>β.blk id=g
 | .mr m _ _ _ _ c a=>λg=>β.blk id=g\/ ∃i,i<m/\tO a i/\H1 (wt (β.val c) i)=some g
 | .dead=>λ_=>False
theorem qd {β:Bd} {id:Nat} {o:AO} {g:Nat} (h:NL β id o=some g):dG β id o g:=by
 cases o with
 |cells _ _=>exact cK h
 |row _ _ _ _=>exact h
 |mp _ _ _ _ _=>exact cK h
 |it _ _ _=>exact cK h
 |ir _ _ _ _ _=>exact cK h
 |mr _ _ _ _ _ _ _=>exact .inl (cK h)
 |dead=>cases h
theorem lV.lt {β:Bd} {n:Nat} {F:Nat->Prop} {w:World} {id:Nat} {o:AO} (h:lV β n F w id o) {g:Nat} (a:dG β id o g):g<w.heap.size:=by
 cases o with
 |cells e N=>obtain⟨Q,c,_⟩:=h;simp only[dG] at a;subst a;exact(cN.1 c).1
 |row e P m get=>obtain⟨R,E,_⟩:=h;exact E.lt a
 |mp m f val l j=>obtain⟨x,c,_⟩:=h;simp only[dG] at a;subst a;exact(cN.1 c).1
 |it mid G q=>obtain⟨_,c⟩:=h;simp only[dG] at a;subst a;exact(cN.1 c).1
 |ir m f val q K=>obtain⟨_,_,_,_,c,_⟩:=h;simp only[dG] at a;subst a;exact(cN.1 c).1
 |mr m f M l j L H=>
  obtain⟨_,_,x,c,O,_,_,D,_⟩:=h;rcases a with a|⟨i,C,t,a⟩
  ·have a:β.blk id=g:=a;subst a;exact(cN.1 c).1
  ·obtain⟨z,A⟩:=D i C J t;exact A.lt (by rw[z];exact a)
 |dead=>exact a.elim
def AO.aux:AO->Option Nat
 | .mr _ _ _ _ _ a _=>some a
 |_=>none
theorem lV.aux_lt {β:Bd} {n:Nat} {F:Nat->Prop} {w:World} {id:Nat} {o:AO} (h:lV β n F w id o) {a:Nat} (c:o.aux=some a):a<n:=by cases o<;>simp[AO.aux] at c;subst c;exact h.1
theorem NM {β β':Bd} {j j':Nat} {o:AO} (c:β'.blk j'=β.blk j/\β'.val j'=β.val j) (f: ∀a,o.aux=some a->β'.val a=β.val a):dG β' j' o=dG β j o:=by
 cases o with
 |mr n l q h g e k=>simp only[dG,c.1,f e rfl]
 |_=>simp only[dG,c.1,c.2]
theorem lV.stable {β β':Bd} {n n':Nat} {F F':Nat->Prop} {w w':World} {id:Nat} {o:AO} (h:lV β n F w id o) (E:id<n) (O:n<=n')
  (c: ∀i,i<n->β'.blk i=β.blk i/\β'.val i=β.val i)
  (f: ∀g,g<w.heap.size-> ¬F g-> ¬F' g) (x: ∀g,g<w.heap.size-> ¬F g->w'.heap[g]? =w.heap[g]?) (C:w.heap.size<=w'.heap.size)
  (D: ∀g,dG β id o g->w'.heap[g]? =w.heap[g]?):lV β' n' F' w' id o:=by
 cases o with
 |cells e cs=>obtain⟨vs,q,hl,l⟩:=h;refine⟨vs,by rw[(c id E).1,D _ rfl];exact q,hl,λj z a=>⟨?_,(l j z a).2⟩⟩;exact(((l j z a).1.stable f x C).same c).more O
 |row e sz m get=>obtain⟨xs,hx,a2,l⟩:=h;refine⟨xs,?_,a2,λk j N z a=>⟨(l k j N z a).1.stable f x C,(l k j N z a).2⟩⟩;rw[(c id E).2];exact hx.stable D
 |mp m a0 val a1 P=>obtain⟨H,q,A,L,l⟩:=h;refine⟨H,by rw[(c id E).1,D _ rfl];exact q,A,L,λi t a=> ?_⟩;obtain⟨G,K,S⟩:=l i t a;exact⟨G.stable f x C,K.stable f x C,S⟩
 |it mid a6 a3=>obtain⟨A,q⟩:=h;refine⟨eS A O,?_⟩;rw[(c id E).1,(c mid A).1,D _ rfl];exact q
 |ir m a0 val a3 a8=>
  obtain⟨g,H,P,sn,q,A,L,ct,U,l,aO⟩:=h;refine⟨g,H,P,sn,by rw[(c id E).1,D _ rfl];exact q,A,L,ct,λb ap=> ?_,λi t a=> ?_,aO⟩
  ·obtain⟨z,a⟩:=U b ap;have W:=(cN.1 a).1;exact⟨f b W z,by rw[x b W z];exact a⟩
  ·obtain⟨G,K,S⟩:=l i t a;exact⟨G.stable f x C,K.stable f x C,S⟩
 |mr m a0 a5 a1 P Q a7=>
  obtain⟨M,R,H,q,A,L,ah,N,hd,a4,hr⟩:=h;refine⟨eS M O,λi h e=>⟨eS (R i h e).1 O,(R i h e).2⟩,H,by rw[(c id E).1,D _ (.inl rfl)];exact q,A,L,λi t a=>⟨(ah i t a).1.stable f x C,(ah i t a).2⟩,λi t a Y=> ?_,?_,?_,λi h e a=> ?_⟩
  ·obtain⟨G,K⟩:=N i t a Y;rw[(c Q M).2];exact⟨G,K.stable f x C λg U=>D g (.inr ⟨i,t,Y,by rw[<-G];exact U⟩)⟩
  ·rw[(c Q M).2];exact hd
  ·rw[(c Q M).2,(c id E).1];exact a4
  ·refine⟨?_,(hr i h e a).2⟩;rw[(hr i h e a).1];have:=c h (R i h e).1;cases a5 i<;>simp[xM,this.1,this.2]
 |dead=>trivial
end Go.Eng
namespace Go.Eng
open Go.RowKit
structure TI where
 desc:TypeDesc
 agg:Bool
 size:Nat
 bytes:Nat
 zero:Value
 cmp:Bool
def lF (t:Nat):List (Nat×TI)->Option TI
 |[]=>none
 |(s,x)::r=>match Nat.beq s t with
  |true=>some x
  |false=>lF t r
def qe:TypeDesc->Bool
 | .struct _| .array _ _=>true
 |_=>false
def fd (P:Program) (t:TypeId) (a:TI):Prop:=
 P.underlying t=some a.desc/\qe a.desc=a.agg/\ ∃i,P.info? t=some i/\i.size=a.size/\i.bytes=a.bytes/\i.zero=some a.zero
def xN (P:Program) (t:TypeId):Bool:=
 match P.underlying t with
 |some (.struct fs)=>(fs.toList.all λf=>f.name != "_")&&(!P.stoodInHeld t&& !P.eqGuardType P.depth t)
 |_=>false
def iM (P:Program):List (Nat×TI)->Prop
 |[]=>P.follows .mixedOrders=true
 |(t,a)::r=>(fd P t a/\(a.cmp=true->xN P t=true))/\iM P r
theorem iM.mixed {P:Program}: ∀{T:List (Nat×TI)},iM P T->P.follows .mixedOrders=true
 |[],h=>h
 |_::_,h=>iM.mixed h.2
theorem iM.get {P:Program}: ∀{T:List (Nat×TI)},iM P T-> ∀{t:Nat} {a:TI},lF t T=some a->fd P t a
 |[],_,t,a,h=>jC
 |(s,x)::r,c,t,a,h=>by
  unfold lF at h;split at h
  ·rename_i e;have:s=t:=by simpa using e
   subst this;cases h;exact c.1.1
  ·exact iM.get c.2 h
theorem iM.cmp {P:Program}: ∀{T:List (Nat×TI)},iM P T-> ∀{t:Nat} {a:TI},lF t T=some a->a.cmp=true->xN P t=true
 |[],_,t,a,h,_=>jC
 |(s,x)::r,c,t,a,h,e=>by
  unfold lF at h;split at h
  ·rename_i f;have:s=t:=by simpa using f
   subst this;cases h;exact c.1.2 e
  ·exact iM.cmp c.2 h e
structure KE where
 slot:Nat
 tags:List (Nat×Bool)
 av:AV
structure OE where
 id:Nat
 tags:List (Nat×Bool)
 o:AO
structure St where
 K:List KE
 O:List OE
 nid:Nat
def lG (s:Nat):List KE->Option (List (Nat×Bool)×AV)
 |[]=>none
 |⟨t,g,a⟩::r=>match Nat.beq t s with
  |true=>some (g,a)
  |false=>lG s r
def fK (id:Nat):List OE->Option (List (Nat×Bool)×AO)
 |[]=>none
 |⟨t,g,o⟩::r=>match Nat.beq t id with
  |true=>some (g,o)
  |false=>fK id r
def R5 (t:Nat) (w:Bool):List (Nat×Bool)->Bool
 |[]=>false
 |(s,x)::r=>match Nat.beq s t with
  |true=>(match x,w with
   |true,true=>true
   |false,false=>true
   |_,_=>R5 t w r)
  |false=>R5 t w r
def wI:List (Nat×Bool)->List (Nat×Bool)->Bool
 |[],_=>true
 |(t,w)::r,l=>match R5 t w l with
  |true=>wI r l
  |false=>false
def uZ (t:Nat):List (Nat×Bool)->Bool
 |[]=>false
 |(s,_)::r=>match Nat.beq s t with
  |true=>true
  |false=>uZ t r
def Gg:Value->AV
 | .bool c=> .b c
 | .int k n=> .i k n
 | .string x=> .s x
 |v=> .val v
def H8:List Value->List AV
 |[]=>[]
 |v::r=>Gg v::H8 r
def wu:Value->AV
 | .agg ⟨l⟩=> .ag (H8 l)
 |v=>Gg v
def i3 (K:List KE) (tags:List (Nat×Bool)):Operand->Option AV
 | .tmp t=>match lG t K with
  |some (g,a)=>(match wI g tags with
   |true=>some a
   |false=>none)
  |none=>none
 | .const v=>some (wu v)
 | .func f=>some (.fn f [])
 | .global _=>none
def Tj:Nat->List AV->(List AV->Prop)->Prop
 |0,_,k=>k []
 |n+1,a::r,k=>Tj n r λl=>k (a::l)
 |_+1,[],_=>False
def zS:Nat->Nat->List AV->(List AV->Prop)->Prop
 |0,n,l,k=>Tj n l k
 |a+1,n,_::r,k=>zS a n r k
 |_+1,_,[],_=>False
def qf:Nat->List AV->(List AV->Prop)->Prop
 |0,l,k=>k l
 |a+1,_::r,k=>qf a r k
 |_+1,[],_=>False
def qg:Nat->List AV->List AV->(List AV->Prop)->Prop
 |_,[],l,k=>k l
 |0,c::e,_::r,k=>qg 0 e r λl=>k (c::l)
 |f+1,e,a::r,k=>qg f e r λl=>k (a::l)
 |_,_::_,[],_=>False
theorem xz: ∀{n:Nat} {l:List AV} {k:List AV->Prop},Tj n l k->n<=l.length/\k (l.take n)
 |0,_,_,h=>⟨bI _,by simpa [Tj] using h⟩
 |n+1,a::r,k,h=>by have c:=xz (n:=n) (l:=r) h;exact⟨jO,by simpa using c.2⟩
 |_+1,[],_,h=>h.elim
theorem rC: ∀{off n:Nat} {l:List AV} {k:List AV->Prop},zS off n l k->off+n<=l.length/\k ((l.drop off).take n)
 |0,n,l,k,h=>by simpa using xz (n:=n) (l:=l) h
 |off+1,n,_::r,k,h=>by have a:=rC (off:=off) (n:=n) (l:=r) h;exact⟨jO,by simpa using a.2⟩
 |_+1,_,[],_,h=>h.elim
theorem wJ: ∀{off:Nat} {l:List AV} {k:List AV->Prop},qf off l k->off<=l.length/\k (l.drop off)
 |0,_,_,h=>⟨bI _,by simpa [qf] using h⟩
 |off+1,_::r,k,h=>by have a:=wJ (off:=off) (l:=r) h;exact⟨jO,by simpa using a.2⟩
 |_+1,[],_,h=>h.elim
def over_q0 (off:Nat) (cs l:List AV):List AV:=l.take off++cs++l.drop (off+cs.length)
theorem M5: ∀{off:Nat} {cs l:List AV} {k:List AV->Prop},qg off cs l k->(cs=[]\/off+cs.length<=l.length)/\k (over_q0 off cs l)
 |off,[],l,k,h=>by
  refine⟨.inl rfl,?_⟩;have:qg off [] l k=k l:=by unfold qg;rfl
  rw[this] at h;simpa [over_q0] using h
 |0,c::cs,a::r,k,h=>by
  have f:=M5 (off:=0) (cs:=cs) (l:=r) h;refine⟨.inr ?_,?_⟩
  ·rcases f.1 with rfl|g
   ·simp
   ·simp at g|-;omega
  ·have:=f.2;simpa [over_q0,rO] using this
 |off+1,c::cs,a::r,k,h=>by
  have f:=M5 (off:=off) (cs:=c::cs) (l:=r) h;refine⟨.inr ?_,?_⟩
  ·rcases f.1 with g|g
   ·cases g
   ·simp at g|-;omega
  ·have:=f.2;have e:off+1+(c::cs).length=(off+(c::cs).length)+1:=J
   unfold over_q0 at this|-;rw[e,zG];simpa using this
 |0,_::_,[],_,h=>h.elim
 |_+1,_::_,[],_,h=>h.elim
def kn:IntKind->Nat
 | .i8=>0| .i16=>1| .i32=>2| .i64=>3| .u8=>4| .u16=>5| .u32=>6| .u64=>7
theorem qh {j k:IntKind} (h:Nat.beq (kn j) (kn k)=true):j=k:=by cases j<;>cases k<;>first|rfl|(simp[kn] at h)
def o3 (c:BinOp) (k:IntKind) (x y:Int):Int:=
 let a:=BitVec.ofInt k.bits x
 let b:=BitVec.ofInt k.bits y
 k.wrap (match c with
  | .and=>a&&&b
  | .or=>a|||b
  | .xor=>a^^^b
  |_=>a&&& ~~~b).toNat
def NN (a:BinOp) (k:IntKind) (x y:Int):Option AV:=
 match a with
 | .add=>some (.i k (k.wrap (x+y)))
 | .sub=>some (.i k (k.wrap (x-y)))
 | .mul=>some (.i k (k.wrap (x*y)))
 | .and=>some (.i k (o3 .and k x y))
 | .or=>some (.i k (o3 .or k x y))
 | .xor=>some (.i k (o3 .xor k x y))
 | .eql=>some (.b (x==y))
 | .neq=>some (.b (x !=y))
 | .lss=>some (.b (decide (x<y)))
 | .leq=>some (.b (decide (x<=y)))
 | .gtr=>some (.b (decide (x>y)))
 | .geq=>some (.b (decide (x>=y)))
 |_=>none
theorem qi {P:Program} {w:World} {a:BinOp} {k:IntKind} {x y:Int} {r:AV} (t:TypeId) (h:NN a k x y=some r):
  ∃v,(∀w,(binOp a t (.int k x) (.int k y)).run P w= .ok v w)/\Rep0 (λ_=>True) w r v:=by
 cases a<;>simp only[NN,dT,reduceCtorEq] at h<;>subst h<;>
  simp[binOp,Op.intArith,Op.intBits,Op.intCmp,o3]<;>constructor
def Tk:TypeDesc->Bool
 | .bool=>true
 |_=>false
def aAv:TypeDesc->Option IntKind
 | .int k=>some k
 |_=>none
def o7:TypeDesc->Bool
 | .string=>true
 |_=>false
def R6:TypeDesc->Bool
 | .map _ _=>true
 |_=>false
def ww:TypeDesc->Option (TypeId×TypeId)
 | .map k e=>some (k,e)
 |_=>none
def lW:TypeDesc->Option TypeId
 | .slice e=>some e
 |_=>none
def R7:TypeDesc->Nat->Option Field
 | .struct fs,f=>fs[f]?
 |_,_=>none
inductive Eff where
 |ext (os:List AO) (r:AV)
 |set (id:Nat) (o:AO) (r:AV)
 |app (id:Nat) (o:AO) (r:AV)
 |many (bor:List Nat) (outs os:List AO) (r:AV)
def Eff.bor:Eff->List Nat
 | .ext _ _=>[]
 | .set i _ _=>[i]
 | .app i _ _=>[i]
 | .many b _ _ _=>b
def Eff.outs:Eff->List AO
 | .ext _ _=>[]
 | .set _ o _=>[o]
 | .app _ _ _=>[.dead]
 | .many _ o _ _=>o
def Eff.os:Eff->List AO
 | .ext a _=>a
 | .set _ _ _=>[]
 | .app _ o _=>[o]
 | .many _ _ a _=>a
def Eff.r:Eff->AV
 | .ext _ r=>r
 | .set _ _ r=>r
 | .app _ _ r=>r
 | .many _ _ _ r=>r
def ob (e:Option Prop) (p a:Prop):Prop:=
 match e with
 |none=>p/\a
 |some c=>(c->p)/\a
theorem kS {a:Option Prop} {p e:Prop} (h:ob a p e) (f: ∀c,a=some c->c):p/\e:=by
 cases a with
 |none=>exact h
 |some c=>exact⟨h.1 (f c rfl),h.2⟩
def leaf:AV->Bool
 | .b _=>true
 | .i _ _=>true
 | .s _=>true
 | .fn _ _=>true
 | .p _ _=>true
 | .so _=>true
 | .pe _ _ _ _=>true
 | .rs _ _ _=>true
 | .rp _=>true
 | .mo _=>true
 | .sv _ _ _ _=>true
 | .sc _ _ _ _=>true
 | .rm _ _ _=>true
 | .val v=>v.oneCell'
 |_=>false
def ff:List AV->Bool
 |[]=>true
 |a::r=>match leaf a with
  |true=>ff r
  |false=>false
def qj (a:AV) (k:List AV->Prop):Prop:=
 match a with
 | .ag cs=>(match ff cs with
  |true=>k cs
  |false=>False)
 |a=>(match leaf a with
  |true=>k [a]
  |false=>False)
def F8 (c:Bool) (l:List AV) (k:AV->Prop):Prop:=
 match c,l with
 |true,l=>k (.ag l)
 |false,[a]=>k a
 |_,_=>False
def rT (P:Program) (f:FuncId):Prop:= ∃fn,P.funcs[f]? =some fn/\(fn.name== "runtime.NumGoroutine")=false/\fn.body.isNone=false
def DG (β:Bd) (n:Nat) (F:Nat->Prop) (B:Nat) (w':World) (d:Nat) (os:List AO):Prop:=
 (∀j o,os[j]? =some o->lV β n F w' (d+j) o)/\(∀j o g,os[j]? =some o->dG β (d+j) o g->B<=g)/\
 ∀j a o c g,os[j]? =some o->os[a]? =some c->dG β (d+j) o g->dG β (d+a) c g->j=a
def FX (F:Nat->Prop) (β:Bd) (d:Nat) (os:List AO):Nat->Prop:=λg=>F g\/ ∃j o,os[j]? =some o/\dG β (d+j) o g
def j8 (P:Program) (f:FuncId) (args:List AV) (os:List AO) (r:AV):Prop:=
 rT P f/\ ∀(w:World) (a:List Value),args.length=a.length->(∀(j:Nat) (k:j<args.length) (l:j<a.length),Rep0 (λ_=>False) w args[j] a[j])->Tb w->
  Calls P f a.toArray w λe h=> ∃(v:Value) (c:Bd),e= .returned v/\Below w.heap.size w h/\
   DG c os.length (FX (λg=>g<w.heap.size) c 0 os) w.heap.size h 0 os/\Rep c os.length (FX (λg=>g<w.heap.size) c 0 os) h r v
def R8 (P:Program) (f:FuncId) (args:List AV) (r:AV):Prop:=
 rT P f/\ ∀(F:Nat->Prop) (w:World) (a:List Value),FOk F w->args.length=a.length->(∀(j:Nat) (g:j<args.length) (h:j<a.length),Rep0 F w args[j] a[j])->
  Calls P f a.toArray w λe c=> ∃(v:Value),e= .returned v/\Below w.heap.size w c/\Rep0 F c r v
def yL (n:Nat) (β β':Bd):Prop:= ∀id,id<n->β'.blk id=β.blk id/\β'.val id=β.val id
structure Frame (A:Nat->Prop) (w w':World):Prop where
 os:w'.os=w.os
 tape:w'.tape=w.tape
 output:w'.output=w.output
 size:w.heap.size<=w'.heap.size
 block: ∀k,k<w.heap.size-> ¬A k->w'.heap[k]? =w.heap[k]?
 drawn:dz w<=dz w'
theorem Frame.refl (A:Nat->Prop) (w:World):Frame A w w:=⟨rfl,rfl,rfl,aG _,λ_ _ _=>rfl,aG _⟩
theorem Frame.trans {A B:Nat->Prop} {u v w:World} (h:Frame A u v) (k:Frame B v w) (e: ∀b,b<u.heap.size->B b->A b):Frame A u w:=
 ⟨k.os.trans h.os,k.tape.trans h.tape,k.output.trans h.output,cO h.size k.size,λb a c=>(k.block b (eS a h.size) λh=>c (e b a h)).trans (h.block b a c),cO h.drawn k.drawn⟩
theorem Frame.below {A:Nat->Prop} {w w':World} (h:Frame A w w') (a: ∀k,¬A k):Below w.heap.size w w':=⟨⟨h.os,h.tape,h.output,h.size,λk c=>h.block k c (a k)⟩,h.drawn⟩
def P8 (nid:Nat) (c:List Nat) (a os:List AO) (i:Nat) (o:AO):Prop:=(∃j:Nat,c[j]? =some i/\a[j]? =some o)\/ ∃j:Nat,i=nid+j/\os[j]? =some o
def aId (lk:Nat->Option AO) (a:List Nat) (β:Bd):Nat->Prop:=λb=> ∃i o,i∈a/\lk i=some o/\dG β i o b
def FG (F:Nat->Prop) (lk:Nat->Option AO) (β β':Bd) (nid:Nat) (a:List Nat) (c os:List AO):Nat->Prop:=λb=>(F b/\ ¬aId lk a β b)\/ ∃i o,P8 nid a c os i o/\dG β' i o b
structure EffG (β β':Bd) (nid:Nat) (F:Nat->Prop) (lk:Nat->Option AO) (w w':World) (v:Value) (bor:List Nat) (outs os:List AO) (r:AV):Prop where
 ag:yL nid β β'
 len:outs.length=bor.length
 nd:bor.Nodup
 lkd: ∀i∈bor,∃o,lk i=some o
 fr:Frame (aId lk bor β) w w'
 own: ∀i o b,P8 nid bor outs os i o->dG β' i o b->aId lk bor β b\/w.heap.size<=b
 ok: ∀i o,P8 nid bor outs os i o->lV β' (nid+os.length) (FG F lk β β' nid bor outs os) w' i o
 dist: ∀i i' o o' b,P8 nid bor outs os i o->P8 nid bor outs os i' o'->dG β' i o b->dG β' i' o' b->i=i'
 res:Rep β' (nid+os.length) (FG F lk β β' nid bor outs os) w' r v
def uG (β β':Bd) (nid:Nat) (F:Nat->Prop) (lk:Nat->Option AO) (w w':World) (v:Value):Eff->Prop
 | .ext c r=>Below w.heap.size w w'/\yL nid β β'/\DG β' (nid+c.length) (FX F β' nid c) w.heap.size w' nid c/\Rep β' (nid+c.length) (FX F β' nid c) w' r v
 | .set id a r=>β'=β/\ ∃o,lk id=some o/\GrownBy w w' (NL β id o)/\dG β id a=dG β id o/\lV β nid F w' id a/\Rep β nid F w' r v
 | .app id a r=>yL nid β β'/\ ∃o,lk id=some o/\GrownBy w w' (NL β id o)/\(dG β' nid a=dG β id o\/ ∀g,dG β' nid a g->w.heap.size<=g)/\
   lV β' (nid+1) (FX F β' nid [a]) w' nid a/\Rep β' (nid+1) (FX F β' nid [a]) w' r v
 | .many bor e c r=>EffG β β' nid F lk w w' v bor e c r
inductive Out (P:Program) (post:Value->World->Prop):Result Next->Prop
 |value (v:Value) (w':World) (hp:post v w'):Out P post (.ok (.value v) w')
 |skip (w':World) (hp:post undef w'):Out P post (.ok .skip w')
 |enter (f:FuncId) (args:Array Value) (w:World) (hc:Calls P f args w λe w'=> ∃v,e= .returned v/\post v w'):Out P post (.ok (.enter f args) w)
theorem Out.mono {P:Program} {p q:Value->World->Prop} {r:Result Next} (h:Out P p r) (c: ∀v w,p v w->q v w):Out P q r:=by
 cases h with
 |value v a g=>exact .value v a (c _ _ g)
 |skip a g=>exact .skip a (c _ _ g)
 |enter f args w l=>exact .enter f args w (l.mono λe a ⟨v,j,k⟩=>⟨v,j,c _ _ k⟩)
theorem Out.upon {P:Program} {j:Value->World->Prop} {r:Result Next} (h:Out P j r) {o:Oper} {a:Act} {next:Act->World->Prop} {Q:Exit->Act->World->Prop}
  (g: ∀v w',j v w'->next (a.put o.dst v) w'):o.upon P a next Q r:=by
 cases h with
 |value v w' c=>exact g v w' c
 |skip w' c=>exact g _ w' c
 |enter f args w k=>refine k.mono ?_;rintro e w' ⟨v,rfl,c⟩;exact g v w' c
theorem DH {F:Nat->Prop} {β:Bd} {d g:Nat} (h:FX F β d [] g):F g:=by
 rcases h with h|⟨j,o,a,_⟩
 ·exact h
 ·simp at a
theorem uG.id {β:Bd} {nid:Nat} {F:Nat->Prop} {lk:Nat->Option AO} {w w':World} {r:AV} {v:Value} (h:Rep β nid F w' r v) (a:Below w.heap.size w w'):
  uG β β nid F lk w w' v (.ext [] r):=
 ⟨a,λ_ _=>nT,⟨λj o h=>jh,λj o g h=>jh,λj f o l g h=>jh⟩,h.stable (λ_ _ e c=>e (DH c)) (λ_ _ _=>rfl) (aG _)⟩
def Bd.blkAt (β:Bd) (n g:Nat):Bd:=⟨λi=>if i=n then g else β.blk i,β.val⟩
def Bd.valAt (β:Bd) (n:Nat) (v:Value):Bd:=⟨β.blk,λi=>if i=n then v else β.val i⟩
theorem H9 (β:Bd) (n g:Nat):yL n β (β.blkAt n g):=λid h=>⟨by simp[Bd.blkAt,yG h],rfl⟩
theorem lT (β:Bd) (n:Nat) (v:Value):yL n β (β.valAt n v):=λid h=>⟨rfl,by simp[Bd.valAt,yG h]⟩
theorem I0 (w:World) (o:Obj):Below w.heap.size w (w.alloc o):=(Below.refl _ _).alloc (aG _) _
theorem uG.cells {β:Bd} {nid:Nat} {F:Nat->Prop} {lk:Nat->Option AO} {w:World} (e:TypeId) (cs:List AV) (c:List Value) (z:cs.length=c.length)
  (h: ∀(j:Nat) (h1:j<cs.length) (h2:j<c.length),Rep β nid F w cs[j] c[j]/\c[j].oneCell'=true):
  uG β (β.blkAt nid w.heap.size) nid F lk w (w.alloc (.cells c.toArray e)) (.pointer (some ⟨w.heap.size,0,none⟩)) (.ext [.cells e cs] (.p nid 0)):=by
 have f:(β.blkAt nid w.heap.size).blk nid=w.heap.size:=by simp[Bd.blkAt]
 have t: ∀g,g<w.heap.size-> ¬F g-> ¬FX F (β.blkAt nid w.heap.size) nid [.cells e cs] g:=by
  rintro g l A (x|⟨j,o,a,C⟩)
  ·exact A x
  ·cases j with
   |zero=>simp at a;subst a;simp[dG,f] at C;omega
   |succ j=>simp at a
 refine⟨I0 _ _,H9 _ _ _,⟨?_,?_,?_⟩,?_⟩
 ·intro j o a;cases j with
  |succ j=>simp at a
  |zero=>simp at a;subst a;refine⟨c,by rw[iL,f];exact heap_alloc_new w _,z,λj h1 h2=>⟨?_,(h j h1 h2).2⟩⟩;exact(((h j h1 h2).1.stable t (λg l _=>Below.heap_alloc w _ g l) jS).same (H9 _ _ _)).more jS
 ·intro j o g a l;cases j with
  |succ j=>simp at a
  |zero=>simp at a;subst a;simp[dG,f] at l;omega
 ·exact n9
 ·have q:=Rep.p (β:=β.blkAt nid w.heap.size) (n:=nid+1) (F:=FX F (β.blkAt nid w.heap.size) nid [.cells e cs]) (w:=w.alloc (.cells c.toArray e)) nid 0 J;rw[f] at q;exact q
theorem uG.row {β:Bd} {nid:Nat} {F:Nat->Prop} {lk:Nat->Option AO} {w w':World} (e:TypeId) (sz n:Nat) (get:Nat->List AV) (v:Value) (xs:List Value)
  (l:Below w.heap.size w w') (A:kT w' e sz v n xs) (q: ∀g,kI v=some g->w.heap.size<=g) (C: ∀k,k<n->(get k).length=sz)
  (h: ∀(k j:Nat) (_:k<n) (h1:j<(get k).length) (h2:k*sz+j<xs.length),Rep0 F w (get k)[j] xs[k*sz+j]/\xs[k*sz+j].oneCell'=true):
  uG β (β.valAt nid v) nid F lk w w' v (.ext [.row e sz n get] (.so nid)):=by
 have c:(β.valAt nid v).val nid=v:=by simp[Bd.valAt]
 have D: ∀g,g<w.heap.size-> ¬F g-> ¬FX F (β.valAt nid v) nid [.row e sz n get] g:=by
  rintro g f G (E|⟨j,o,a,x⟩)
  ·exact G E
  ·cases j with
   |zero=>simp at a;subst a;simp[dG,c] at x;have:=q g x;omega
   |succ j=>simp at a
 refine⟨l,lT _ _ _,⟨?_,?_,?_⟩,?_⟩
 ·intro j o a;cases j with
  |succ j=>simp at a
  |zero=>simp at a;subst a;exact⟨xs,by rw[iL,c];exact A,C,λk j t h1 h2=>⟨(h k j t h1 h2).1.stable D (λg f _=>l.block g f) l.size,(h k j t h1 h2).2⟩⟩
 ·intro j o g a f;cases j with
  |succ j=>simp at a
  |zero=>simp at a;subst a;simp only[dG,iL,c] at f;exact q g f
 ·exact n9
 ·have z:=Rep.so (β:=β.valAt nid v) (n:=nid+1) (F:=FX F (β.valAt nid v) nid [.row e sz n get]) (w:=w') nid J (by rw[c];exact A.one);rw[c] at z;exact z
theorem uG.blk {β:Bd} {nid:Nat} {F:Nat->Prop} {lk:Nat->Option AO} {w:World} (o:AO) (ob:Obj) (v:Value) (r:AV) (h: ∀β':Bd,dG β' nid o=λg=>β'.blk nid=g)
  (l:(∀g,g<w.heap.size-> ¬F g-> ¬FX F (β.blkAt nid w.heap.size) nid [o] g)->lV (β.blkAt nid w.heap.size) (nid+1) (FX F (β.blkAt nid w.heap.size) nid [o]) (w.alloc ob) nid o)
  (x:(β.blkAt nid w.heap.size).blk nid=w.heap.size->Rep (β.blkAt nid w.heap.size) (nid+1) (FX F (β.blkAt nid w.heap.size) nid [o]) (w.alloc ob) r v):
  uG β (β.blkAt nid w.heap.size) nid F lk w (w.alloc ob) v (.ext [o] r):=by
 have f:(β.blkAt nid w.heap.size).blk nid=w.heap.size:=by simp[Bd.blkAt]
 have n: ∀g,g<w.heap.size-> ¬F g-> ¬FX F (β.blkAt nid w.heap.size) nid [o] g:=by
  rintro g c t (q|⟨j,o',a,e⟩)
  ·exact t q
  ·cases j with
   |zero=>simp at a;subst a;rw[iL,h] at e;have e:(β.blkAt nid w.heap.size).blk nid=g:=e;rw[f] at e;omega
   |succ j=>simp at a
 refine⟨I0 _ _,H9 _ _ _,⟨?_,?_,?_⟩,x f⟩
 ·intro j o' a;cases j with
  |succ j=>simp at a
  |zero=>simp at a;subst a;exact l n
 ·intro j o' g a c;cases j with
  |succ j=>simp at a
  |zero=>simp at a;subst a;rw[iL,h] at c;have c:(β.blkAt nid w.heap.size).blk nid=g:=c;rw[f] at c;omega
 ·exact n9
theorem qk {β:Bd} {n:Nat} {F:Nat->Prop} {w:World} {a:AV} {v:Value} (h:Rep β n F w a v) (c:leaf a=true):v.oneCell'=true:=by
 cases h with
 |pure _ _ h=>cases h<;>first|rfl|(simp[leaf] at c;done)|exact c
 |p=>rfl
 |so id f e=>exact e
 |pe=>rfl
 |mo=>rfl
 |sv id j g m v f h=>exact h.one
 |sc=>rfl
 |fn=>rfl
 |ag=>simp[leaf] at c
 |tup=>simp[leaf] at c
structure Env (β:Bd) (nid:Nat) (F:Nat->Prop) (w:World) (lk:Nat->Option AO):Prop where
 obj: ∀id o,lk id=some o->id<nid/\lV β nid F w id o
 own: ∀id o g,lk id=some o->dG β id o g->F g
 old: ∀g,F g->g<w.heap.size
structure EnvT (β:Bd) (nid:Nat) (F:Nat->Prop) (w:World) (lk:Nat->Option AO):Prop extends Env β nid F w lk where
 tb:Tb w/\ ¬F Ti
 dist: ∀id id' o o' g,lk id=some o->lk id'=some o'->dG β id o g->dG β id' o' g->id=id'
def rU (β:Bd) (nid:Nat) (F:Nat->Prop) (lk:Nat->Option AO) (w:World) (k:Eff->Prop) (v:Value) (w':World):Prop:=
 ∃a c,k a/\uG β c nid F lk w w' v a
section
variable {P : Program} {β : Bd} {nid : Nat} {F : Nat -> Prop} {w : World} {lk : Nat -> Option AO} {k : Eff -> Prop}
theorem Out.same {r:AV} {v:Value} {a:Result Next} (e:k (.ext [] r)) (f:Rep β nid F w r v) (c:a= .ok (.value v) w):Out P (rU β nid F lk w k) a:=by subst c;exact .value v w ⟨_,β,e,.id f (Below.refl _ _)⟩
def Gi (j:Option Prop) (lk:Nat->Option AO) (c:TI) (a:AV) (k:Eff->Prop):Prop:=
 match a with
 | .p id e=>(match lk id with
  |some (.cells _ f)=>zS e c.size f λl=>F8 c.agg l λr=>k (.ext [] r)
  |_=>False)
 | .rp f=>zS 0 c.size f λl=>F8 c.agg l λr=>k (.ext [] r)
 | .pe id q g e=>(match lk id with
  |some (.row _ h n get)=>(match Nat.beq q h with
   |true=>ob j (g<n) (zS e c.size (get g) λl=>F8 c.agg l λr=>k (.ext [] r))
   |false=>False)
  |_=>False)
 |_=>False
theorem Gj {t:TypeId} {c:TI} (q:fd P t c) (g o:Nat) (a:List Value) (C:a.length=c.size) (n: ∀(j:Nat) (h:j<a.length),w.cell? ⟨g,o+j,none⟩=some a[j]):
  (c.agg=true->(loadVar t ⟨g,o,none⟩).run P w= .ok (.agg a.toArray) w)/\(c.agg=false-> ∀h:0<a.length,(loadVar t ⟨g,o,none⟩).run P w= .ok a[0] w):=by
 obtain⟨E,x,i,z,D,_,_⟩:=q;have k:(isAgg t).run P w= .ok c.agg w:=by unfold isAgg;rw[Sem.run_bind,run_underlying E w,<-x];cases c.desc<;>simp[qe]
 constructor
 ·intro e;have f:=run_loadCells_list (P:=P) w ⟨g,o,none⟩ a (λj v F=>by
   obtain⟨A,rfl⟩:=bM.1 F;rw[Addr.add_lit];exact n j A)
  rw[C] at f;simp[loadVar,k,e,sizeOf,typeInfo,z,D,f]
 ·intro e h;have l:=n 0 h;simp only[iL] at l;simp[loadVar,k,e,load,Sem.run,l]
theorem W5 {t:TypeId} {q:TI} (E:fd P t q) (g o:Nat) (c:List Value) (l:List AV) (H:c.length=q.size) (A:l.length=c.length)
  (G: ∀(j:Nat) (h:j<c.length),w.cell? ⟨g,o+j,none⟩=some c[j])
  (D: ∀(j:Nat) (L:j<l.length) (M:j<c.length),Rep β nid F w l[j] c[j])
  (h:F8 q.agg l λr=>k (.ext [] r)):
  ∃x n K,Value.pointer (some ⟨g,o,none⟩)= .pointer (some ⟨n,K,none⟩)/\(∀w',w'.heap[n]? =w.heap[n]? ->(Instr.loadAt t (.pointer (some ⟨g,o,none⟩))).run P w'= .ok x w')/\ ∃r,k (.ext [] r)/\Rep β nid F w r x:=by
 have z:=λw' (e:w'.heap[g]? =w.heap[g]?)=>Gj (P:=P) (w:=w') E g o c H λj h=>by rw[World.cell?_of_block (w:=w) e];exact G j h
 unfold F8 at h;split at h
 ·rename_i f;exact⟨_,g,o,rfl,λw' e=>by simpa [Instr.loadAt,Instr.sureAddr] using(z w' e).1 f,_,h,.ag _ c A D⟩
 ·rename_i a f;have C:0<c.length:=by rw[<-A];simp
  exact⟨_,g,o,rfl,λw' e=>by simpa [Instr.loadAt,Instr.sureAddr] using(z w' e).2 f C,_,h,by simpa using D 0 jS C⟩
 ·cases h
theorem ka {W:Option Prop} (am: ∀c,W=some c->c) (E:Env β nid F w lk) {t:TypeId} {z:TI} (G:fd P t z) {a:AV} {v:Value} (Q:Rep β nid F w a v)
  (h:Gi W lk z a k): ∃x H o',v= .pointer (some ⟨H,o',none⟩)/\(∀w',w'.heap[H]? =w.heap[H]? ->(Instr.loadAt t v).run P w'= .ok x w')/\ ∃r,k (.ext [] r)/\Rep β nid F w r x:=by
 unfold Gi at h;split at h
 ·rename_i id f;split at h
  ·rename_i e O M;obtain⟨U,h⟩:=rC h;obtain⟨_,rfl⟩:=Q.p_inv;obtain⟨a2,R,hh,hl,D⟩:=E.obj id _ M;have:=W5 (β:=β) (nid:=nid) (F:=F) (w:=w) (k:=k) G (β.blk id) f ((R.drop f).take z.size) ((O.drop f).take z.size) jO jO
    (λj hj=>by
     simp at hj;rw[cell_of_row w _ _ _ _ _ hh];simp)
    (λj A C=>by
     simp at A C;simpa using(D (f+j) J J).1) h
   exact this
  ·cases h
 ·rename_i O;obtain⟨U,h⟩:=rC h;have a3:=Q.rp_inv;cases a3 with
  |rp _ g f R hF hg D A hr=>
   have:=W5 (β:=β) (nid:=nid) (F:=F) (w:=w) (k:=k) G g f ((List.range z.size).map R) ((O.drop 0).take z.size) jS jO
    (λj hj=>by
     simp at hj;simpa using D j J)
    (λj A C=>by
     simp at A C;simpa using Rep.pure _ _ (hr j J)) h
   exact this
 ·rename_i id q l f;split at h
  ·rename_i e af n get M;split at h
   ·rename_i L;have L:q=af:=by simpa using L
    subst L;obtain⟨N,h⟩:=kS h am;obtain⟨U,h⟩:=rC h;obtain⟨_,g,o,m,c,a1,rfl⟩:=Q.pe_inv;obtain⟨a2,S,Y,a0,D⟩:=E.obj id _ M;have a8:=Y.1;have a7:=a0 l N;have bE:l*q+q<=n*q:=by rw[<-iC];exact bU _ N
    by_cases a4:0<S.length
    ·obtain⟨H,o',a5,a6,K,_,_,_,_,_,aI⟩:=Y.cells a4;rw[a1] at K;simp only[Value.slice.injEq,dT,Addr.mk.injEq] at K;obtain⟨⟨rfl,rfl,_⟩,_,_⟩:=K;have:=W5 (β:=β) (nid:=nid) (F:=F) (w:=w) (k:=k) G g (o+(l*q+f)) ((S.drop (l*q+f)).take z.size) (((get l).drop f).take z.size) jO jO
      (λj hj=>by
       simp at hj;have:=aI (l*q+f+j) S[l*q+f+j] (bL J);rw[fT o];simpa using this)
      (λj A C=>by
       simp at A C;have:=(D l (f+j) N J J).1;simpa [fT] using Rep.pure (β:=β) (n:=nid) _ _ this) h
     exact this
    ·have h0:q=0:=J;have hz:z.size=0:=J
     have:=W5 (β:=β) (nid:=nid) (F:=F) (w:=w) (k:=k) G g (o+(l*q+f)) [] (((get l).drop f).take z.size) (by simp[hz]) (by simp[hz]) (λj hj=>jj) (λj A C=>by simp at C) h;exact this
   ·cases h
  ·cases h
 ·cases h
def Mz (l:Option Prop) (lk:Nat->Option AO) (t:TI) (a y:AV) (k:Eff->Prop):Prop:=
 qj y λf=>match Nat.beq f.length t.size with
  |false=>False
  |true=>match a with
   | .p id c=>(match lk id with
    |some (.cells e old)=>qg c f old λnew=>k (.set id (.cells e new) .u)
    |_=>False)
   | .pe id g h c=>(match lk id with
    |some (.row e j n get)=>(match Nat.beq g j,AV.lts 0 f,Nat.ble (c+f.length) g with
     |true,true,true=>ob l (h<n) (k (.set id (.row e g n λq=>if q=h then over_q0 c f (get q) else get q) .u))
     |_,_,_=>False)
    |_=>False)
   |_=>False
theorem qm: ∀{l:List AV},ff l=true-> ∀(j:Nat) (h:j<l.length),leaf l[j]=true
 |[],_,j,h=>jh
 |c::r,a,j,h=>by
  unfold ff at a;split at a
  ·rename_i e;cases j with
   |zero=>exact e
   |succ j=>exact qm a j jH
  ·cases a
theorem C1 {a:AV} {q:List AV->Prop} (h:qj a q): ∃cs,q cs/\(a= .ag cs/\ff cs=true\/cs=[a]/\leaf a=true):=by
 unfold qj at h;split at h
 ·split at h
  ·rename_i c;exact⟨_,h,.inl ⟨rfl,c⟩⟩
  ·cases h
 ·split at h
  ·rename_i c;exact⟨_,h,.inr ⟨rfl,c⟩⟩
  ·cases h
theorem M6 {a:AV} {cs:List AV} {v:Value} (g:Rep β nid F w a v) (h:a= .ag cs/\ff cs=true\/cs=[a]/\leaf a=true):
  ∃e:List Value,v.cells=e.toArray/\cs.length=e.length/\ ∀(j:Nat) (c:j<cs.length) (h2:j<e.length),Rep β nid F w cs[j] e[j]/\e[j].oneCell'=true:=by
 rcases h with ⟨rfl,f⟩|⟨rfl,f⟩
 ·obtain⟨e,rfl,n,l⟩:=g.ag_inv;exact⟨e,rfl,n,λj c h2=>⟨l j c h2,qk (l j c h2) (qm f j c)⟩⟩
 ·have c:=qk g f;refine⟨[v],?_,rfl,λj q h2=> ?_⟩
  ·cases v<;>first|rfl|simp[Value.oneCell'] at c
  ·have:j=0:=j2;subst this;exact⟨g,c⟩
theorem ya {t:TypeId} {j:TI} (q:fd P t j) (g o:Nat) (e:TypeId) (c:Array Value) (v:Value) (a:List Value) (h:v.cells=a.toArray) (C:a.length=j.size)
  (z:w.heap[g]? =some (.cells c e (0,0))) (n:o+a.length<=c.size) (x: ∀u∈a,u.oneCell'=true):
  (storeVar t ⟨g,o,none⟩ v).run P w= .ok () (w.setRow g (c.toList.take o++a++c.toList.drop (o+a.length)).toArray):=by
 obtain⟨F,E,i,A,D,_,_⟩:=q;have f:=run_storeCells_at P g o e a 0 c w z (by simpa using n) x;simp only[iL] at f;have l:v.cells.size=i.size:=by rw[h,D];simpa using C
 have k:v.cells.toList=a:=by rw[h]
 simp[storeVar,sizeOf,typeInfo,A,l,k,f]
theorem R9 {off:Nat} {cs l:List Value} (h:off+cs.length<=l.length) (q:Nat):
  (l.take off++cs++l.drop (off+cs.length))[q]? =if q<off then l[q]? else if q<off+cs.length then cs[q-off]? else l[q]? :=by
 by_cases a:q<off
 ·rw[aE a,fB jO,fB jO,dZ,aE a]
 ·rw[aB a];by_cases c:q<off+cs.length
  ·rw[aE c,fB jO,gJ jO]
   congr 1
   simp;omega
  ·rw[aB c,gJ jO,eE]
   congr 1
   simp;omega
theorem rV (w:World) (g:Nat) (cs:Array Value):GrownBy w (w.setRow g cs) (some g):=
 ⟨⟨rfl,rfl,rfl,jS,λk _ a=>setRow_other w g k cs (λe=>a (by rw[e]))⟩,aG _⟩
theorem qn {off:Nat} {cs l:List AV} (h:off+cs.length<=l.length) (j:Nat) (a:j<(over_q0 off cs l).length):
  (over_q0 off cs l).length=l.length/\(over_q0 off cs l)[j]=if c:off<=j/\j<off+cs.length then cs[j-off]'J else l[j]'(by simp[over_q0] at a;omega):=by
 refine⟨by simp[over_q0];omega,?_⟩;simp only[over_q0] at a|-;by_cases e:j<off
 ·rw[hJ jO,hJ jO,sK J];simp
 ·exact mZ
theorem I1 {off:Nat} {cs l:List AV} (h:off+cs.length<=l.length):(over_q0 off cs l).length=l.length:=by simp[over_q0];omega
theorem AV.lts_pure {β:Bd} {nid:Nat} {F:Nat->Prop} {w:World} {cs:List AV} (h:AV.lts 0 cs=true) (j:Nat) (a:j<cs.length) {v:Value} (c:Rep β nid F w cs[j] v):Rep0 F w cs[j] v:=
 c.toPure (AV.lts_get h j a)
theorem z6 {off:Nat} {cs l:List Value} (h:off+cs.length<=l.length) (j:Nat) (a:j<(l.take off++cs++l.drop (off+cs.length)).length):
  (l.take off++cs++l.drop (off+cs.length))[j]=if c:off<=j/\j<off+cs.length then cs[j-off]'J else l[j]'(by simp at a;omega):=by
 by_cases e:j<off
 ·rw[hJ jO,hJ jO,sK J];simp
 ·exact mZ
theorem kT.over {e:TypeId} {sz g o n a:Nat} {c:Array Value} {xs:List Value} (z:w.heap[g]? =some (.cells c e (0,0))) (h:n<=a+1) (x:a+1<=maxLen) (C:o+(a+1)*sz<=c.size)
  (t:(c.toList.drop o).take (n*sz)=xs) (D:xs.length=n*sz) (A:Nat) (us:List Value) (F:A+us.length<=n*sz):
  kT (w.setRow g (c.toList.take (o+A)++us++c.toList.drop (o+A+us.length)).toArray) e sz (.slice (some ⟨g,o,none⟩) n (a+1)) n (xs.take A++us++xs.drop (A+us.length)):=by
 have E:n*sz<=(a+1)*sz:=bU _ h;refine⟨?_,.inr (.inr ⟨g,o,a,_,rfl,setRow_heap w _ _ _ _ _ z,h,x,?_,?_⟩)⟩
 ·simp;omega
 ·simp;omega
 ·rw[<-t];apply lB;intro q;simp only;rw[dZ,eE,R9 jO,R9 jO];simp only[dZ,eE];by_cases f:q<n*sz
  ·rw[aE f];by_cases j:q<A
   ·rw[aE J,aE j,aE f]
   ·rw[aB J,aB j];by_cases l:q<A+us.length
    ·rw[aE J,aE l];congr 1;omega
    ·rw[aB J,aB l,aE f]
  ·rw[aB f,aB J,aB J,aB f]
theorem Bo {gc:Option Prop} (am: ∀c,gc=some c->c) (E:Env β nid F w lk) {t:TypeId} {ti:TI} (bJ:fd P t ti) {a y:AV} {v u:Value} (hv:Rep β nid F w a v) (hu:Rep β nid F w y u)
  (h:Mz gc lk ti a y k): ∃w',(Instr.storeAt t v u).run P w= .ok () w'/\rU β nid F lk w k undef w':=by
 unfold Mz at h;have A:=C1 h;clear h;obtain⟨K,h,b5⟩:=A;obtain⟨G,a2,a5,bF⟩:=M6 hu b5;split at h
 ·cases h
 ·rename_i Y;have Y:K.length=ti.size:=by simpa using Y
  have aT: ∀x∈G,x.oneCell'=true:=λx hx=>by obtain⟨j,hj,rfl⟩:=cU hx;exact(bF j J hj).2
  split at h
  ·rename_i id z;split at h
   ·rename_i e old N;obtain⟨H,h⟩:=M5 h;obtain⟨_,rfl⟩:=hv.p_inv;obtain⟨b7,W,hh,hl,U⟩:=E.obj id _ N;have hF:=E.own id _ _ N rfl;by_cases O:K=[]
    ·subst O;simp at a5 Y;have b1:G=[]:=by simpa using a5.symm
     subst b1;have Q:(Instr.storeAt t (.pointer (some ⟨β.blk id,z,none⟩)) u).run P w= .ok () w:=by obtain⟨_,_,i,hi,hs,_,_⟩:=bJ;simp[Instr.storeAt,Instr.sureAddr,storeVar,sizeOf,typeInfo,hi,a2,hs,<-Y,storeCells]
     refine⟨w,Q,_,β,h,rfl,_,N,qG,rfl,⟨W,hh,by simpa [over_q0] using hl,λj h1 h2=> ?_⟩,.pure _ _ (.u _)⟩;have hj:j<old.length:=by simpa [over_q0] using h1
     simpa [over_q0] using U j hj h2
    ·have H:z+K.length<=old.length:=H.resolve_left O;have Q:=ya (P:=P) (w:=w) bJ (β.blk id) z e W.toArray u G a2 J hh jO aT;have hold: ∀g,g<w.heap.size-> ¬F g->(w.setRow (β.blk id) (W.toArray.toList.take z++G++W.toArray.toList.drop (z+G.length)).toArray).heap[g]? =w.heap[g]? :=
      λg _ C=>setRow_other w _ g _ (λe=>C (by rw[e];exact hF))
     refine⟨_,Q,_,β,h,rfl,_,N,rV _ _ _,rfl,⟨_,setRow_heap w _ _ _ _ _ hh,?_,λj h1 h2=> ?_⟩,.pure _ _ (.u _)⟩
     ·exact(I1 H).trans (by simp only[bD,cT,iB];omega)
     ·obtain⟨a8,ef⟩:=qn H j h1;rw[ef];have c1:=z6 (off:=z) (cs:=G) (l:=W) J j j2;simp only at h2|-;rw[c1];by_cases R:z<=j/\j<z+K.length
      ·rw[rG R,rG J];have:=bF (j-z) J J;exact⟨this.1.stable (λ_ _ C=>C) hold jS,this.2⟩
      ·rw[sK R,sK J];have:=U j J J;exact⟨this.1.stable (λ_ _ C=>C) hold jS,this.2⟩
   ·cases h
  ·rename_i id f D z;split at h
   ·rename_i e af n get N;split at h
    ·rename_i aH aV H;have aH:f=af:=by simpa using aH
     subst aH;have H:z+K.length<=f:=by simpa using H
     obtain⟨c9,h⟩:=kS h am;obtain⟨_,g,o,m,c,a6,rfl⟩:=hv.pe_inv;obtain⟨b7,xs,hx,M,U⟩:=E.obj id _ N;have bE:D*f+f<=n*f:=by rw[<-iC];exact bU _ c9
     have c2:=hx.1;rcases hx.2 with ⟨O,_⟩|⟨a0,h0,c4⟩|⟨g',o',b3,a3,a1,hg,a7,b4,cv,a9⟩
     ·rw[a6] at O;cases O
     ·omega
     ·have eg:g=g'/\o=o':=by have a4:=a1;rw[a6] at a4;simp at a4;exact a4.1
      obtain⟨rfl,rfl⟩:=eg;have hF:=E.own id _ g N (by simp[dG,a1,kI]);have bg:n*f<=(b3+1)*f:=bU _ a7;have Q:=ya (P:=P) (w:=w) bJ g (o+(D*f+z)) e a3 u G a2 J hg J aT;have hold: ∀S,S<w.heap.size-> ¬F S->(w.setRow g (a3.toList.take (o+(D*f+z))++G++a3.toList.drop (o+(D*f+z)+G.length)).toArray).heap[S]? =w.heap[S]? :=
       λS _ C=>setRow_other w _ S _ (λe=>C (by rw[e];exact hF))
      have c0:=kT.over (w:=w) hg a7 b4 cv a9 c2 (D*f+z) G J;have cY:NL β id (.row e f n get)=some g:=by simp[NL,a1,kI]
      refine⟨_,Q,_,β,h,rfl,_,N,by rw[cY];exact rV _ _ _,rfl,⟨_,by rw[a1];exact c0,?_,?_⟩,.pure _ _ (.u _)⟩
      ·intro q A;by_cases L:q=D
       ·subst L;simp only[uS];rw[I1 (by rw[M q A];exact H),M q A]
       ·simp only[L,zO];exact M q A
      ·intro q j A h1 h2;have b0:j<f:=by
        by_cases L:q=D
        ·subst L;simp only[uS] at h1;rw[I1 (by rw[M q A];exact H),M q A] at h1;exact h1
        ·simp only[L,zO] at h1;rw[M q A] at h1;exact h1
       have c3:q*f+f<=n*f:=by rw[<-iC];exact bU _ A
       rw[z6 J _ h2];by_cases L:q=D
       ·subst L;have a8:=qn (off:=z) (cs:=K) (l:=get q) (by rw[M q A];exact H) j j1;simp only[uS];rw[a8.2];by_cases R:z<=j/\j<z+K.length
        ·rw[rG R,rG J];have:=bF (j-z) J J;have e:q*f+j-(q*f+z)=j-z:=J
         simp only[e];exact⟨(AV.lts_pure aV _ _ this.1).stable (λ_ _ C=>C) hold jS,this.2⟩
        ·rw[sK R,sK J];have:=U q j A (by rw[M q A];exact b0) J;exact⟨this.1.stable (λ_ _ C=>C) hold jS,this.2⟩
       ·have b9: ¬(D*f+z<=q*f+j/\q*f+j<D*f+z+G.length):=by
         rcases sS L with b8|b6
         ·have:q*f+f<=D*f:=by rw[<-iC];exact bU _ b8
          omega
         ·have:D*f+f<=q*f:=by rw[<-iC];exact bU _ b6
          omega
        rw[sK b9];simp only[L,zO] at h1|-;have:=U q j A h1 J;exact⟨this.1.stable (λ_ _ C=>C) hold jS,this.2⟩
    ·cases h
   ·cases h
  ·cases h
end
section
variable {P : Program} {β : Bd} {nid : Nat} {F : Nat -> Prop} {w : World} {lk : Nat -> Option AO} {k : Eff -> Prop}
theorem fk (v:Value):Rep0 F w (Gg v) v:=by
 cases v<;>first|exact .b _|exact .i _ _|exact .s _|exact .val _
theorem v6: ∀(l:List Value),(H8 l).length=l.length/\ ∀(j:Nat) (a:j<(H8 l).length) (h2:j<l.length),Rep0 F w (H8 l)[j] l[j]
 |[]=>⟨rfl,λj a _=>by simp[H8] at a⟩
 |v::r=>by
  have c:=v6 r;refine⟨by simp[H8,c.1],λj a h2=> ?_⟩;cases j with
  |zero=>exact fk v
  |succ j=>exact c.2 j (by simpa [H8] using a) j2
theorem z7 (v:Value):Rep0 F w (wu v) v:=by
 unfold wu;split
 ·rename_i l;have h:=v6 (F:=F) (w:=w) l;exact .ag _ l h.1 h.2
 ·exact fk v
def fo (nid:Nat) (e:TypeId) (a:AV) (k:Eff->Prop):Prop:=qj a λc=>k (.ext [.cells e c] (.p nid 0))
theorem Na {e:TypeId} {a:AV} {v:Value} (q:Rep β nid F w a v) (h:fo nid e a k):
  ∃x w',(Instr.box e v).run P w= .ok x w'/\rU β nid F lk w k x w':=by
 unfold fo at h;have l:=C1 h;clear h;obtain⟨f,h,c⟩:=l;obtain⟨t,g,j,n⟩:=M6 q c;refine⟨_,_,?_,_,_,h,.cells e f t j n⟩;simp[Instr.box,newVar,newRow,g]
theorem Bp {e:TypeId} {a:TI} (f:fd P e a) (h:fo nid e (wu a.zero) k):
  ∃x w',(Instr.alloc e true (.tuple #[])).run P w= .ok x w'/\rU β nid F lk w k x w':=by
 unfold fo at h;have t:=C1 h;clear h;obtain⟨g,h,c⟩:=t;obtain⟨C,j,q,z⟩:=M6 (.pure (β:=β) (n:=nid) _ _ (z7 (F:=F) (w:=w) a.zero)) c;refine⟨_,_,?_,_,_,h,.cells e g C q z⟩;obtain⟨_,_,i,l,_,_,A⟩:=f;simp[Instr.alloc,zeroValue,typeInfo,l,A,newVar,newRow,j]
def C2 (T:List (Nat×TI)) (s f:Nat) (a:AV) (k:Eff->Prop):Prop:=
 match lF s T with
 |some n=>(match R7 n.desc f with
  |some c=>(match lF c.type T with
   |some h=>(match h.size with
    |0=>False
    |_+1=>(match a with
     | .p id e=>k (.ext [] (.p id (e+c.offset)))
     | .pe id j g e=>k (.ext [] (.pe id j g (e+c.offset)))
     | .rp cs=>qf c.offset cs λl=>k (.ext [] (.rp l))
     |_=>False))
   |none=>False)
  |none=>False)
 |none=>False
theorem y1 {T:List (Nat×TI)} (j:iM P T) {s f:Nat} {c e:TI} {a:Field} {m:Nat} (t:lF s T=some c) (h:R7 c.desc f=some a) (x:lF a.type T=some e) (A:e.size=m+1) (g o:Nat):
  (Instr.fieldAt s (.pointer (some ⟨g,o,none⟩)) f).run P w= .ok (.pointer (some ⟨g,o+a.offset,none⟩)) w:=by
 obtain⟨n,_⟩:=j.get t;obtain⟨_,_,i,z,C,_⟩:=j.get x;cases l:c.desc<;>simp[R7,l] at h;rename_i fs;have q:i.size≠0:=J
 rw[l] at n;simp[Instr.fieldAt,run_underlying n,h,Instr.sureAddr,fieldPlace,sizeOf,typeInfo,z,q,Addr.add_lit]
theorem fq {T:List (Nat×TI)} (C:iM P T) {s f:Nat} {a:AV} {v:Value} (D:Rep β nid F w a v) (h:C2 T s f a k):
  ∃x,(∀w',(Instr.fieldAt s v f).run P w'= .ok x w')/\ ∃r,k (.ext [] r)/\Rep β nid F w r x:=by
 unfold C2 at h;split at h
 ·rename_i W q;split at h
  ·rename_i l t;split at h
   ·rename_i U z;split at h
    ·cases h
    ·rename_i m A;split at h
     ·obtain⟨n,rfl⟩:=D.p_inv;exact⟨_,λ_=>y1 C q t z A _ _,_,h,.p _ _ n⟩
     ·obtain⟨n,g,o,O,c,E,rfl⟩:=D.pe_inv;exact⟨_,λ_=>y1 C q t z A _ _,_,h,by rw[fT,fT];exact .pe _ _ _ _ g o O c n E⟩
     ·obtain⟨R,h⟩:=wJ h;have H:=D.rp_inv;cases H with
      |rp _ g S Q K M L G N=>
       refine⟨_,λ_=>y1 C q t z A _ _,_,h,.pure _ _ (.rp _ g _ (λj=>Q (l.offset+j)) K M ?_ ?_ ?_)⟩
       ·intro j e;simp at e;have:=L (l.offset+j) J
        rwa [<-fT] at this
       ·intro j e;simp at e;exact G _ J
       ·intro j e;simp at e;simpa using N (l.offset+j) J
     ·cases h
   ·cases h
  ·cases h
 ·cases h
def Nb (T:List (Nat×TI)) (s f:Nat) (a:AV) (k:Eff->Prop):Prop:=
 match lF s T,a with
 |some h,.ag g=>(match R7 h.desc f with
  |some c=>(match lF c.type T with
   |some e=>zS c.offset e.size g λl=>F8 e.agg l λr=>k (.ext [] r)
   |none=>False)
  |none=>False)
 |_,_=>False
theorem DI {t:TypeId} {a:TI} (D:fd P t a) (off:Nat) (c:List Value) (cs:List AV) (N:cs.length=c.length) (M:off+a.size<=cs.length)
  (A: ∀(j:Nat) (q:j<cs.length) (z:j<c.length),Rep β nid F w cs[j] c[j])
  (h:F8 a.agg ((cs.drop off).take a.size) λr=>k (.ext [] r)):
  ∃x,(part t c.toArray off).run P w= .ok x w/\ ∃r,k (.ext [] r)/\Rep β nid F w r x:=by
 obtain⟨L,E,i,H,K,_,_⟩:=D;have n:(isAgg t).run P w= .ok a.agg w:=by unfold isAgg;rw[Sem.run_bind,run_underlying L w,<-E];cases a.desc<;>simp[qe]
 unfold F8 at h;split at h
 ·rename_i f;refine⟨.agg ((c.drop off).take a.size).toArray,?_,_,h,.ag _ _ jO λj q z=> ?_⟩
  ·simp[part,n,f,sizeOf,typeInfo,H,K]
  ·simp at q z;simpa using A (off+j) J J
 ·rename_i x f C;have G:0<((cs.drop off).take a.size).length:=by rw[C];simp
  simp at G;have g:off<c.length:=J
  refine⟨c[off],?_,_,h,?_⟩
  ·simp[part,n,f,g]
  ·have:=A off J g;have e:x=cs[off]'J:=by have:=fW (λl=>l[0]?) C;simp at this;rw[dZ,aE J,eE] at this;simpa [bL (show off<cs.length by omega)] using this.symm
   rw[e];exact this
 ·cases h
theorem Bq {T:List (Nat×TI)} (e:iM P T) {s f:Nat} {a:AV} {v:Value} (E:Rep β nid F w a v) (h:Nb T s f a k):
  ∃x,(Instr.field s v f).run P w= .ok x w/\ ∃r,k (.ext [] r)/\Rep β nid F w r x:=by
 unfold Nb at h;split at h
 ·rename_i H q t;split at h
  ·rename_i l c;split at h
   ·rename_i L z;obtain⟨n,h⟩:=rC h;obtain⟨K,rfl,C,D⟩:=E.ag_inv;obtain⟨x,G,A⟩:=DI (w:=w) (e.get z) l.offset K q C n D h;refine⟨x,?_,A⟩;obtain⟨j,_⟩:=e.get t;cases g:H.desc<;>simp[R7,g] at c;rename_i fs;rw[g] at j;simp[Instr.field,run_underlying j,c,asAgg,G]
   ·cases h
  ·cases h
 ·cases h
def C3 (f:Option Prop) (T:List (Nat×TI)) (lk:Nat->Option AO) (t:Nat) (a h:AV) (k:Eff->Prop):Prop:=
 match lF t T,h with
 |some l,.i _ i=>(match lW l.desc with
  |some e=>(match lF e T with
   |some g=>(match a with
    | .rs c n get=>(match Nat.beq c g.size with
     |true=>ob f (0<=i/\i<(n:Int)) (k (.ext [] (.rp (get i.toNat))))
     |false=>False)
    | .so id=>(match lk id with
     |some (.row _ c n _)=>(match Nat.beq c g.size with
      |true=>ob f (0<=i/\i<(n:Int)) (k (.ext [] (.pe id c i.toNat 0)))
      |false=>False)
     |_=>False)
    | .sv id c j m=>(match Nat.beq c g.size with
     |true=>ob f (0<=i/\i<(m:Int)) (k (.ext [] (.pe id c (j+i.toNat) 0)))
     |false=>False)
    |_=>False)
   |none=>False)
  |none=>False)
 |_,_=>False
theorem I2 {T:List (Nat×TI)} (h:iM P T) {t e:Nat} {a q:TI} (x:lF t T=some a) (f:lW a.desc=some e) (z:lF e T=some q) (g o n c:Nat) (D:IntKind) (i:Int) (hi:0<=i/\i<(n:Int)):
  (Instr.indexAt t (.slice (some ⟨g,o,none⟩) n c) (.int D i)).run P w= .ok (.pointer (some ⟨g,o+i.toNat*q.size,none⟩)) w:=by
 obtain⟨l,_⟩:=h.get x;obtain⟨_,_,j,A,C,_⟩:=h.get z;cases k:a.desc<;>simp[lW,k] at f;subst f;rw[k] at l;simp[Instr.indexAt,asIntOf,run_underlying l,hi.1,hi.2,sizeOf,typeInfo,A,C,Addr.add_lit]
theorem fu {Y:Option Prop} (L: ∀c,Y=some c->c) (E:Env β nid F w lk) {T:List (Nat×TI)} (Q:iM P T) {t:Nat} {a ix:AV} {v u:Value}
  (R:Rep β nid F w a v) (hu:Rep β nid F w ix u) (h:C3 Y T lk t a ix k):
  ∃x,(∀w',(Instr.indexAt t v u).run P w'= .ok x w')/\ ∃r,k (.ext [] r)/\Rep β nid F w r x:=by
 unfold C3 at h;split at h
 ·rename_i ti S i M;obtain rfl:=hu.i_inv;split at h
  ·rename_i e N;split at h
   ·rename_i G O;split at h
    ·rename_i l n get;split at h
     ·rename_i f;have f:l=G.size:=by simpa using f
      obtain⟨q,h⟩:=kS h L;have a3:=R.rs_inv;cases a3 with
      |rsnil=>simp at q;omega
      |rsz=>simp at q;omega
      |rs _ _ _ g a4 D vs hn hm hF hg U hc a1 hr=>
       have A:i.toNat<n:=J;refine⟨_,λ_=>I2 Q M N O g a4 n D S i q,_,h,.pure _ _ (.rp _ g _ (λj=>vs i.toNat j) hF hg ?_ ?_ ?_)⟩
       ·intro j z;rw[U _ A] at z;rw[<-f];exact hc _ _ A z
       ·intro j z;rw[U _ A] at z;exact a1 _ _ A z
       ·intro j z;exact hr _ _ A z
     ·cases h
    ·rename_i id;split at h
     ·rename_i e' l n get ae;split at h
      ·rename_i f;have f:l=G.size:=by simpa using f
       obtain⟨q,h⟩:=kS h L;obtain⟨H,rfl⟩:=R.so_inv;obtain⟨_,xs,hx,_⟩:=E.obj id _ ae;rcases hx.2 with ⟨_,K⟩|⟨_,_,K⟩|⟨g,o,D,a6,W,_⟩
       ·omega
       ·omega
       ·refine⟨_,λ_=>(by rw[W];exact I2 Q M N O g o n (D+1) S i q),_,h,?_⟩;have:=Rep.pe (β:=β) (n:=nid) (F:=F) (w:=w) id l i.toNat 0 g o n (D+1) H W;rw[iL] at this;rw[<-f];exact this
      ·cases h
     ·cases h
    ·rename_i id l C m;split at h
     ·rename_i f;have f:l=G.size:=by simpa using f
      obtain⟨q,h⟩:=kS h L;obtain⟨H,a2⟩:=R.sv_inv;rcases a2 with ⟨_,K,_⟩|⟨_,_,K,_⟩|⟨g,o,m',c,a0,ai,a5,rfl⟩
      ·omega
      ·omega
      ·refine⟨_,λ_=>I2 Q M N O g (o+C*l) m (c-C) S i q,_,h,?_⟩;have:=Rep.pe (β:=β) (n:=nid) (F:=F) (w:=w) id l (C+i.toNat) 0 g o m' c H a0;have e:o+C*l+i.toNat*G.size=o+((C+i.toNat)*l+0):=by rw[fV,<-f];omega
       rw[e];exact this
     ·cases h
    ·cases h
   ·cases h
  ·cases h
 ·cases h
def z8 (x:ByteArray) (j:Nat) (v:Int):Int:=if j<x.size then((x.data.toList.getD j 0).toNat:Int) else v
def Br (c:Option Prop) (T:List (Nat×TI)) (t:Nat) (a e:AV) (k:Eff->Prop):Prop:=
 match lF t T,a,e with
 |some f,.s x,.i _ i=>(match f.desc with
  | .string=>ob c (0<=i/\i<(x.size:Int)) (k (.ext [] (.i .u8 (z8 x i.toNat 0))))
  |_=>False)
 |_,_,_=>False
theorem Bt {j:Option Prop} (n: ∀c,j=some c->c) {T:List (Nat×TI)} (E:iM P T) {t:Nat} {a l:AV} {v u:Value} (K:Rep β nid F w a v) (H:Rep β nid F w l u) (h:Br j T t a l k):
  ∃x,(Instr.index t v u).run P w= .ok x w/\ ∃r,k (.ext [] r)/\Rep β nid F w r x:=by
 unfold Br at h;split at h
 ·rename_i M x L i z;split at h
  ·rename_i A;obtain⟨G,h⟩:=kS h n;obtain rfl:=K.s_inv;obtain rfl:=H.i_inv;obtain⟨g,_⟩:=E.get z;rw[A] at g;have f:i.toNat<x.size:=J
   refine⟨.int .u8 (z8 x i.toNat 0),?_,_,h,.pure _ _ (.i _ _)⟩;have e:x[i.toNat]? =some (x[i.toNat]'f):=by simp[f]
   have q:z8 x i.toNat 0=((x[i.toNat]'f).toNat:Int):=by
    unfold z8;rw[aE f];have C:i.toNat<x.data.size:=f;have D:x.data.toList.getD i.toNat 0=x.data[i.toNat]'C:=by simp[List.getD,fS C]
    rw[D];rfl
   rw[q];simp[Instr.index,asIntOf,run_underlying g,G.1,e]
  ·cases h
 ·cases h
def C4 (c:Option Prop) (T:List (Nat×TI)) (lk:Nat->Option AO) (t:Nat) (a f:AV) (k:Eff->Prop):Prop:=
 match lF t T,a,f with
 |some h,.p id j,.i _ i=>(match h.desc with
  | .array n e=>(match lF e T with
   |some g=>ob c (0<=i/\i<(n:Int)) (k (.ext [] (.p id (j+i.toNat*g.size))))
   |none=>False)
  |_=>False)
 |some h,.rp q,.i _ i=>(match h.desc with
  | .array n e=>(match lF e T with
   |some g=>qf (i.toNat*g.size) q λl=>ob c (0<=i/\i<(n:Int)) (k (.ext [] (.rp l)))
   |none=>False)
  |_=>False)
 |_,a,f=>C3 c T lk t a f k
theorem kc {T:List (Nat×TI)} (a:iM P T) {t e n:Nat} {h f:TI} (k:lF t T=some h) (l:h.desc= .array n e) (q:lF e T=some f) (g o:Nat) (A:IntKind) (i:Int) (hi:0<=i/\i<(n:Int)):
  (Instr.indexAt t (.pointer (some ⟨g,o,none⟩)) (.int A i)).run P w= .ok (.pointer (some ⟨g,o+i.toNat*f.size,none⟩)) w:=by
 obtain⟨c,_⟩:=a.get k;obtain⟨_,_,j,x,z,_⟩:=a.get q;rw[l] at c;simp[Instr.indexAt,asIntOf,run_underlying c,Instr.sureAddr,hi.1,hi.2,sizeOf,typeInfo,x,z,Addr.add_lit]
theorem fv {M:Option Prop} (q: ∀c,M=some c->c) (E:Env β nid F w lk) {T:List (Nat×TI)} (D:iM P T) {t:Nat} {a N:AV} {v u:Value}
  (K:Rep β nid F w a v) (H:Rep β nid F w N u) (h:C4 M T lk t a N k):
  ∃x,(∀w',(Instr.indexAt t v u).run P w'= .ok x w')/\ ∃r,k (.ext [] r)/\Rep β nid F w r x:=by
 unfold C4 at h;split at h
 ·rename_i ti id S L i z;obtain rfl:=H.i_inv;obtain⟨Q,rfl⟩:=K.p_inv;split at h
  ·rename_i n e A;split at h
   ·rename_i l C;obtain⟨G,h⟩:=kS h q;exact⟨_,λ_=>kc D z A C _ _ L i G,_,h,.p _ _ Q⟩
   ·cases h
  ·cases h
 ·rename_i ti cs L i z;obtain rfl:=H.i_inv;split at h
  ·rename_i n e A;split at h
   ·rename_i l C;obtain⟨a0,h⟩:=wJ h;obtain⟨G,h⟩:=kS h q;have R:=K.rp_inv;cases R with
    |rp _ g S vs U Y W O hr=>
     refine⟨_,λ_=>kc D z A C _ _ L i G,_,h,.pure _ _ (.rp _ g _ (λj=>vs (i.toNat*l.size+j)) U Y ?_ ?_ ?_)⟩
     ·intro j f;simp at f;have:=W (i.toNat*l.size+j) J
      rwa [<-fT] at this
     ·intro j f;simp at f;exact O _ J
     ·intro j f;simp at f;simpa using hr (i.toNat*l.size+j) J
   ·cases h
  ·cases h
 ·exact fu q E D K H h
def NO:Nat->List AV->(AV->Prop)->Prop
 |_,[],_=>False
 |0,a::_,k=>k a
 |n+1,_::r,k=>NO n r k
theorem qo: ∀{n:Nat} {l:List AV} {q:AV->Prop},NO n l q-> ∃h:n<l.length,q l[n]
 |_,[],_,h=>by simp[NO] at h
 |0,a::r,q,h=>⟨jS,h⟩
 |n+1,a::r,q,h=>by obtain⟨c,h2⟩:=qo (n:=n) (l:=r) h;exact⟨jO,j2⟩
def W6 (j:Nat) (a:AV) (k:Eff->Prop):Prop:=
 match a with
 | .tup l=>NO j l λr=>k (.ext [] r)
 |_=>False
theorem qp {j:Nat} {a:AV} {v:Value} (g:Rep β nid F w a v) (h:W6 j a k): ∃x,(∀w',(Instr.extract v j).run P w'= .ok x w')/\ ∃r,k (.ext [] r)/\Rep β nid F w r x:=by
 unfold W6 at h;split at h
 ·obtain⟨e,h⟩:=qo h;obtain⟨c,rfl,l,f⟩:=g.tup_inv;refine⟨c[j]'J,?_,_,h,f j e J⟩;intro w';simp[Instr.extract,bL (show j<c.length by omega)]
 ·cases h
end
end Go.Eng
