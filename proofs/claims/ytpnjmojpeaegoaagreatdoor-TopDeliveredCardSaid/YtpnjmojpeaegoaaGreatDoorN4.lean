/-
  TopDelivered returns true whatever the input, and the input reads behind the call as it read before, where the three listed tables of Go's library hold what the program's text lays: a part of the proof.
-/
import Derived.MapKept
import Derived.WideKeyRuns
import Derived.Laws.StructEq
import Derived.Test.YtpnjmojpeaegoaaGreatDoorN3
set_option linter.unusedSimpArgs false
set_option linter.unusedVariables false
namespace Go.Eng
open Go.RowKit Go.MapKept
def fG (x y:ByteArray):Bool:=x.toList==y.toList
def Gk:AV->AV->Bool
 | .i _ x,.i _ y=>x==y
 | .b x,.b y=>x==y
 | .s x,.s y=>fG x y
 |_,_=>false
def vS:List AV->List AV->Bool
 |[],[]=>true
 |[x],[y]=>Gk x y
 |x::r,y::t=>Gk x y&&vS r t
 |_,_=>false
def vT:TypeDesc->AV->Bool
 | .int q,.i k _=>Nat.beq (kn q) (kn k)
 | .bool,.b _=>true
 | .string,.s _=>true
 |_,_=>false
def aAw:TypeDesc->Option (Nat×TypeId)
 | .array n e=>some (n,e)
 |_=>none
def VW (d:TypeDesc):Nat->List TypeDesc->List TypeDesc
 |0,l=>l
 |n+1,l=>d::VW d n l
def fw (T:List (Nat×TI)):List Field->Nat->Option (List TypeDesc)
 |[],_=>some []
 |f::r,a=>(match lF f.type T with
  |some c=>(match Nat.beq f.offset a,aAw c.desc with
   |true,some (n,e)=>(match lF e T with
    |some g=>(match Nat.beq g.size 1,Nat.beq c.size n,fw T r (a+n) with
     |true,true,some l=>some (VW g.desc n l)
     |_,_,_=>none)
    |none=>none)
   |true,none=>(match fw T r (a+1) with
    |some l=>some (c.desc::l)
    |none=>none)
   |false,_=>none)
  |none=>none)
def yM:List TypeDesc->List AV->Bool
 |[],[]=>true
 |d::r,a::c=>(match vT d a with
  |true=>yM r c
  |false=>false)
 |_,_=>false
def W7:TypeDesc->Option (List Field)
 | .struct ⟨fs⟩=>some fs
 |_=>none
def uH (T:List (Nat×TI)) (t:Nat) (a:AV):Bool:=
 match lF t T with
 |some c=>(match W7 c.desc,a with
  |some fs,.ag e=>(match c.cmp,fw T fs 0 with
   |true,some f=>yM f e
   |_,_=>false)
  |some _,_=>false
  |none,a=>vT c.desc a)
 |none=>false
def VX (P:Program) (t:TypeId) (us:List Value):Prop:=
 (∃d v,P.underlying t=some d/\us=[v]/\IsKey d v)\/
 ∃n e d,P.underlying t=some (.array n e)/\P.underlying e=some d/\P.cellsOf e=1/\P.cellsOf t=n/\us.length=n/\ ∀v∈us,IsKey d v
def Bu (P:Program):List Field->Nat->List Value->Prop
 |[],_,c=>c=[]
 |f::r,e,c=> ∃a g,c=a++g/\f.offset=e/\VX P f.type a/\Bu P r (e+a.length) g
def KV (P:Program) (t:TypeId) (v:Value):Prop:=
 (∃d,P.underlying t=some d/\IsKey d v)\/ ∃fs a,P.underlying t=some (.struct fs)/\xN P t=true/\v= .agg a.toArray/\Bu P fs.toList 0 a
section
variable {P : Program} {w : World} {F : Nat -> Prop}
theorem W8 {d:TypeDesc} {a:AV} {v:Value} (h:vT d a=true) (c:Rep0 F w a v):IsKey d v:=by
 cases d<;>cases a<;>simp only[vT,pL] at h
 ·cases c;trivial
 ·rename_i q k n;cases c;exact(qh h).symm▸rfl
 ·cases c;trivial
theorem kU {x y:ByteArray}:fG x y=true↔x=y:=by
 unfold fG;rw[cH];constructor
 ·intro h;rw[ByteArray.toList_eq,ByteArray.toList_eq] at h;obtain⟨⟨x⟩⟩:=x;obtain⟨⟨y⟩⟩:=y;simp at h;rw[h]
 ·rintro rfl;rfl
theorem Gl {d c:TypeDesc} {a b:AV} {u v:Value} (e:vT d a=true) (f:vT c b=true) (g:d=c) (h:Rep0 F w a u) (j:Rep0 F w b v):(Gk a b=true↔u=v)/\(a=b↔u=v):=by
 subst g;cases d<;>cases a<;>simp only[vT,pL] at e<;>cases b<;>simp only[vT,pL] at f<;>cases h<;>cases j
 ·simp[Gk]
 ·obtain rfl:=qh e;obtain rfl:=qh f;simp[Gk]
 ·simp[Gk,kU]
def DsV:List TypeDesc->List Value->Prop
 |[],a=>a=[]
 |d::r,a=> ∃v c,a=v::c/\IsKey d v/\DsV r c
theorem yb: ∀{g:List TypeDesc} {cs:List AV} {c:List Value},yM g cs=true->cs.length=c.length->(∀(j:Nat) (l:j<cs.length) (e:j<c.length),Rep0 F w cs[j] c[j])->DsV g c
 |[],[],c,_,f,_=>by
  cases c with
  |nil=>rfl
  |cons=>simp at f
 |[],_::_,c,h,_,_=>by simp[yM] at h
 |_::_,[],c,h,_,_=>by simp[yM] at h
 |d::r,a::cs,c,h,f,n=>by
  cases c with
  |nil=>simp at f
  |cons v c=>
   unfold yM at h;split at h
   ·rename_i e;exact⟨v,c,rfl,W8 e (n 0 jS jS),yb h (by simpa using f) λj l e=>n (j+1) (iA l) (iA e)⟩
   ·cases h
theorem qq (d:TypeDesc): ∀(n:Nat) {l:List TypeDesc} {a:List Value},DsV (VW d n l) a-> ∃us c,a=us++c/\us.length=n/\(∀v∈us,IsKey d v)/\DsV l c
 |0,l,a,h=>⟨[],a,rfl,rfl,jS,h⟩
 |n+1,l,a,h=>by obtain⟨v,c,rfl,f,h⟩:=h;obtain⟨us,c,rfl,g,e,h⟩:=qq d n h;exact⟨v::us,c,rfl,by simp[g],by simpa using⟨f,e⟩,h⟩
theorem qr {T:List (Nat×TI)} (c:iM P T) {t:Nat} {a:TI} (h:lF t T=some a):P.cellsOf t=a.size:=by obtain⟨_,_,i,e,f,_⟩:=c.get h;unfold Program.cellsOf;rw[e];simp[f]
theorem S0 {T:List (Nat×TI)} (g:iM P T): ∀{fs:List Field} {off:Nat} {q:List TypeDesc} {t:List Value},fw T fs off=some q->DsV q t->Bu P fs off t
 |[],off,q,t,h,a=>by unfold fw at h;cases h;exact a
 |f::r,off,q,t,h,a=>by
  unfold fw at h;split at h
  ·rename_i w F;obtain⟨A,_⟩:=g.get F;split at h
   ·rename_i n e c j;have c:f.offset=off:=by simpa using c
    split at h
    ·rename_i G E;split at h
     ·rename_i l h1 h2 z;cases h;have h1:G.size=1:=j1
      have h2:w.size=n:=j2;obtain⟨L,C,rfl,D,H,a⟩:=qq _ _ a;have x:w.desc= .array n e:=by
       unfold aAw at j;split at j
       ·rename_i x;cases j;exact x
       ·cases j
      rw[x] at A;refine⟨L,C,rfl,c,.inr ⟨n,e,G.desc,A,(g.get E).1,by rw[qr g E,h1],by rw[qr g F,h2],D,H⟩,?_⟩;rw[D];exact S0 g z a
     ·cases h
    ·cases h
   ·rename_i c j;have c:f.offset=off:=by simpa using c
    split at h
    ·rename_i l z;cases h;obtain⟨v,C,rfl,K,a⟩:=a;exact⟨[v],C,rfl,c,.inl ⟨w.desc,v,A,rfl,K⟩,S0 g z a⟩
    ·cases h
   ·cases h
  ·cases h
theorem qt: ∀{C:List TypeDesc} {cs f:List AV} {us c:List Value},yM C cs=true->yM C f=true->cs.length=us.length->f.length=c.length->
  (∀(j:Nat) (n:j<cs.length) (g:j<us.length),Rep0 F w cs[j] us[j])->(∀(j:Nat) (n:j<f.length) (g:j<c.length),Rep0 F w f[j] c[j])->(vS cs f=true↔us=c)/\(cs=f↔us=c)
 |[],[],[],us,c,_,_,t,q,_,_=>by cases us<;>cases c<;>simp at t q|-;simp[vS]
 |[],_::_,_,us,c,h,_,_,_,_,_=>by simp[yM] at h
 |[],[],_::_,us,c,_,h,_,_,_,_=>by simp[yM] at h
 |d::r,[],_,us,c,h,_,_,_,_,_=>by simp[yM] at h
 |d::r,_::_,[],us,c,_,h,_,_,_,_=>by simp[yM] at h
 |d::r,a::cs,b::f,us,c,h,l,t,q,z,A=>by
  cases us with
  |nil=>simp at t
  |cons u us=>
   cases c with
   |nil=>simp at q
   |cons v c=>
    unfold yM at h l;split at h
    ·rename_i g;split at l
     ·rename_i E;have x:=Gl g E rfl (z 0 jS jS) (A 0 jS jS);have D:=qt h l (by simpa using t) (by simpa using q) (λj n g=>z (j+1) (iA n) (iA g)) (λj n g=>A (j+1) (iA n) (iA g));have e:vS (a::cs) (b::f)=(Gk a b&&vS cs f):=by
       cases cs with
       |nil=>
        cases f with
        |nil=>simp[vS]
        |cons=>cases r<;>simp[yM] at h l
       |cons=>
        cases f with
        |nil=>cases r<;>simp[yM] at h l
        |cons=>rfl
      simp only[fE] at x;refine⟨?_,?_⟩
      ·rw[e,aW,x.1,D.1,lS]
      ·rw[lS,x.2,D.2,lS]
     ·cases l
    ·cases h
theorem wK {T:List (Nat×TI)} (e:iM P T) {t:Nat} {a:AV} {v:Value} (h:uH T t a=true) (g:Rep0 F w a v):KV P t v:=by
 unfold uH at h;split at h
 ·rename_i A j;obtain⟨k,_⟩:=e.get j;split at h
  ·rename_i fs D c;split at h
   ·rename_i E x n;cases f:A.desc<;>simp[W7,f] at c;rename_i q;obtain⟨fl⟩:=q;simp at c;subst c;cases g with
    |ag _ C z l=>exact .inr ⟨⟨fl⟩,C,by rw[k,f],e.cmp j x,rfl,S0 e n (yb h z l)⟩
   ·cases h
  ·cases h
  ·exact .inl ⟨_,k,W8 h g⟩
 ·cases h
theorem pR {T:List (Nat×TI)} {t:Nat} {a b:AV} {u v:Value} (h:uH T t a=true) (c:uH T t b=true) (g:Rep0 F w a u) (j:Rep0 F w b v):a=b↔u=v:=by
 unfold uH at h c;cases f:lF t T with
 |none=>rw[f] at h;cases h
 |some A=>
  rw[f] at h c;dsimp only at h c;cases e:W7 A.desc with
  |none=>rw[e] at h c;exact(Gl (by cases a<;>exact h) (by cases b<;>exact c) rfl g j).2
  |some fs=>
   rw[e] at h c;cases a<;>try (cases h)
   cases b<;>try (cases c)
   rename_i C E;dsimp only at h c;split at h
   ·rename_i D q n;rw[q,n] at c;cases g with
    |ag _ G x z=>
     cases j with
     |ag _ H k l=>have:=(qt h c x k z l).2;simp[this]
   ·cases h
theorem I3 {t:TypeId} {d:TypeDesc} {v:Value} (a:P.underlying t=some d) (c:IsKey d v):P.plainKey t=true:=by unfold Program.plainKey;rw[a];cases d<;>cases v<;>simp_all [IsKey]
theorem j9 {t:TypeId} {d:TypeDesc} {a b:Value} (c:P.underlying t=some d) (e:IsKey d a) (f:IsKey d b) (n:Nat): ∃r:Bool,(Op.equalIn (n+1) t a b).run P w= .ok r w/\(r=true↔a=b):=by
 cases d<;>cases a<;>simp only[IsKey] at e<;>cases b<;>simp only[IsKey] at f
 ·rename_i x y;exact⟨x==y,run_equalIn_bool w n t x y c,jS⟩
 ·rename_i q k x g y;subst e;subst f;exact⟨x==y,run_equalIn_int w n t _ _ x y c,jS⟩
 ·rename_i x y;exact⟨x.toList==y.toList,run_equalIn_string w n t x y c,by simp;exact⟨λh=>kU.1 (by simpa [fG] using h),λh=>by rw[h]⟩⟩
def FA (P:Program) (t:TypeId) (us:List Value) (a:Value):Prop:=
 (∃d,P.underlying t=some d/\us=[a]/\IsKey d a)\/
 ∃n e d,P.underlying t=some (.array n e)/\P.underlying e=some d/\P.cellsOf e=1/\us.length=n/\(∀v∈us,IsKey d v)/\a= .agg us.toArray
theorem C5 {t:TypeId} {us D:List Value} {xs:Array Value} {off:Nat} (h:VX P t us) (f:xs.toList.drop off=us++D): ∃a,(part t xs off).run P w= .ok a w/\FA P t us a:=by
 rcases h with ⟨d,v,c,rfl,g⟩|⟨n,e,d,c,x,l,q,j,k⟩
 ·have z:xs[off]? =some v:=by have:=fW (·[0]?) f;simpa using this
  exact⟨v,run_part_plain w (I3 c g) z,.inl ⟨d,c,rfl,g⟩⟩
 ·obtain⟨i,A⟩:=info_of_underlying c;have C:xs.extract off (off+P.cellsOf t)=us.toArray:=by apply C0;rw[Array.toList_extract,q];simp only[List.extract,Nat.add_sub_cancel_left,f];rw[<-j];simp
  refine⟨.agg us.toArray,?_,.inr ⟨n,e,d,c,x,l,j,k,rfl⟩⟩;rw[<-C];simp[part,isAgg,run_underlying c,run_sizeOf w A]
theorem F9 (n:Nat) {e:TypeId} {d:TypeDesc} (g:P.underlying e=some d) (xs c:Array Value): ∀(us a:List Value) (k:Nat),us.length=a.length->(∀v∈us,IsKey d v)->(∀v∈a,IsKey d v)->
  xs.toList.drop k=us->c.toList.drop k=a-> ∃r:Bool,(Op.eqItems (n+1) e 1 xs c (List.range' k us.length)).run P w= .ok r w/\(r=true↔us=a)
 |[],a,k,f,_,_,_,_=>by cases a<;>simp at f;exact⟨true,by simp[Op.eqItems],jS⟩
 |u::us,a,k,f,h,x,q,t=>by
  cases a with
  |nil=>simp at f
  |cons v a=>
   have D:xs[k]? =some u:=by have:=fW (·[0]?) q;simpa using this
   have E:c[k]? =some v:=by have:=fW (·[0]?) t;simpa using this
   have G:xs.toList.drop (k+1)=us:=by have:=fW (List.drop 1) q;simpa using this
   have H:c.toList.drop (k+1)=a:=by have:=fW (List.drop 1) t;simpa using this
   have z:=I3 g (h u jS);obtain⟨r,F,l⟩:=j9 (w:=w) g (h u jS) (x v jS) n;obtain⟨r',A,C⟩:=F9 n g xs c us a (k+1) (by simpa using f) (λy j=>h y (by simp[j])) (λy j=>x y (by simp[j])) G H;rw[gR,r3];simp only[Op.eqItems,Nat.mul_one,Sem.run_bind,run_part_plain w z D,run_part_plain w z E,F,Result.andThen_ok];cases r
   ·exact⟨false,jS,by simp;intro e;exact absurd (l.2 e) jS⟩
   ·refine⟨r',by simpa using A,?_⟩;rw[C,lS];simp[l.1 rfl]
theorem wx {t:TypeId} {us g:List Value} {a b:Value} (H:FA P t us a) (K:FA P t g b) (n:Nat): ∃r:Bool,(Op.equalIn (n+2) t a b).run P w= .ok r w/\(r=true↔us=g):=by
 rcases H with ⟨d,f,rfl,z⟩|⟨m,e,d,f,h,E,A,D,rfl⟩<;>rcases K with ⟨G,c,rfl,x⟩|⟨O,N,G,c,q,M,F,C,rfl⟩
 ·rw[f] at c;obtain rfl:=cK c;obtain⟨r,l,j⟩:=j9 (w:=w) f z x (n+1);exact⟨r,l,by rw[j];simp⟩
 ·rw[f] at c;obtain rfl:=cK c;cases a<;>simp[IsKey] at z
 ·rw[f] at c;obtain rfl:=cK c;cases b<;>simp[IsKey] at x
 ·rw[f] at c;obtain⟨rfl,rfl⟩:=TypeDesc.array.inj (cK c);rw[h] at q;obtain rfl:=cK q;obtain⟨i,L⟩:=info_of_underlying h;obtain⟨r,l,j⟩:=F9 (w:=w) n h us.toArray g.toArray us g 0 (A.trans F.symm) D C jS jS;refine⟨r,?_,j⟩;rw[show n+2=(n+1)+1 from rfl,run_equalIn_array w (n+1) us.toArray g.toArray f L,E,List.range_eq_range',<-A];exact l
theorem wy {t:TypeId} {us:List Value} {a:Value} (C:FA P t us a) (g:Bool) (n:Nat):(Instr.checkKey g (n+2) t a).run P w= .ok () w:=by
 rcases C with ⟨d,h,rfl,c⟩|⟨m,e,d,h,f,z,E,x,rfl⟩
 ·exact run_checkKey h c g (n+1)
 ·obtain⟨i,D⟩:=info_of_underlying f;rw[show n+2=(n+1)+1 from rfl,Instr.checkKey];simp only[Sem.run_bind,run_underlying h,Result.andThen_ok];simp only[Std.Legacy.Range.forIn_eq_forIn_range',Std.Legacy.Range.size,rQ,Nat.add_one_sub_one,Nat.div_one];obtain⟨l,k,q,c,j⟩: ∃l k,us.toArray.toList.drop k=l/\(∀v∈l,IsKey d v)/\List.range' 0 m=List.range' k l.length:=⟨us,0,jS,x,by rw[E]⟩;rw[j];clear j
  induction l generalizing k with
  |nil=>simp
  |cons u l H=>
   have A:us.toArray[k]? =some u:=by have:=fW (·[0]?) q;simpa using this
   have K:us.toArray.toList.drop (k+1)=l:=by have:=fW (List.drop 1) q;simpa using this
   have F:=I3 f (c u jS);have L:=run_checkKey (P:=P) (w:=w) f (c u jS) g n;rw[gR,r3];simp only[List.forIn_cons,Sem.run_bind,run_sizeOf w D,Result.andThen_ok,z,Nat.mul_one,run_part_plain w F A,L,Sem.run_pure];exact H (k+1) K λy G=>c y (by simp[G])
theorem z9 (n:Nat): ∀(fs:List Field) (off:Nat) (us c:List Value) (xs h:Array Value),(∀f∈fs,f.name≠ "_")->Bu P fs off us->Bu P fs off c->us.length=c.length->
  xs.toList.drop off=us->h.toList.drop off=c-> ∃r:Bool,(Op.eqFields (n+2) xs h fs).run P w= .ok r w/\(r=true↔us=c)
 |[],off,us,c,xs,h,_,j,l,_,_,_=>by have j:us=[]:=j;have l:c=[]:=l;subst j;subst l;exact⟨true,by simp[Op.eqFields],jS⟩
 |f::fs,off,a1,a2,xs,h,t,j,l,W,C,D=>by
  obtain⟨us,H,rfl,ho,E,M⟩:=j;obtain⟨c,zs,rfl,_,A,z⟩:=l;have Y:=t f jS;have q:us.length=c.length:=by
   rcases E with ⟨d,v,hu,rfl,U⟩|⟨m,e,d,hu,_,_,_,hm,_⟩<;>rcases A with ⟨O,v',hu',rfl,L⟩|⟨m',e',O,hu',_,_,_,a0,_⟩
   ·rfl
   ·rw[hu] at hu';obtain rfl:=cK hu';cases v<;>simp[IsKey] at U
   ·rw[hu] at hu';obtain rfl:=cK hu';cases v'<;>simp[IsKey] at L
   ·exact nQ
  obtain⟨a,F,Q⟩:=C5 (w:=w) E C;obtain⟨b,G,R⟩:=C5 (w:=w) A D;obtain⟨r,hr,x⟩:=wx (w:=w) Q R n;have n1:xs.toList.drop (off+us.length)=H:=by
   have:=fW (List.drop us.length) C
   rwa [oE,zR] at this
  have n2:h.toList.drop (off+us.length)=zs:=by
   have:=fW (List.drop c.length) D;rw[oE,zR] at this
   rwa [q]
  rw[<-q] at z;obtain⟨r',K,N⟩:=z9 n fs (off+us.length) H zs xs h (λg S=>t g (by simp[S])) M z (by simp at W;omega) n1 n2;rw[<-ho] at F G;simp only[Op.eqFields,Y,ne_eq,n3,uS,Sem.run_bind,F,G,hr,Result.andThen_ok];cases r
  ·refine⟨false,jS,?_⟩;simp only[pL,false_iff];intro e;have:=(List.append_inj e q).1;exact absurd (x.2 this) jS
  ·refine⟨r',by simpa using K,?_⟩;rw[N,x.1 rfl];simp
theorem y2 {t:TypeId} {fs:Array Field} (a:P.underlying t=some (.struct fs)) (h:xN P t=true):
  (∀f∈fs.toList,f.name≠ "_")/\P.stoodInHeld t=false/\P.eqGuardType P.depth t=false:=by
 unfold xN at h;rw[a] at h;simp only[aW,fU,dQ,lM] at h;exact⟨h.1,h.2.1,h.2.2⟩
theorem kd {t:TypeId} {fs:Array Field} (a:P.underlying t=some (.struct fs)):P.fieldsOf t=fs:=by unfold Program.fieldsOf;rw[a]
theorem W9 {t:TypeId} {a b:Value} (O:KV P t a) (Q:KV P t b): ∃r:Bool,(Op.equal t a b).run P w= .ok r w/\(r=true↔a=b):=by
 rcases O with ⟨d,hu,z⟩|⟨fs,C,hu,R,rfl,x⟩<;>rcases Q with ⟨F,hu',j⟩|⟨W,D,hu',d8,rfl,q⟩
 ·rw[hu] at hu';obtain rfl:=cK hu';exact j9 (n:=9999) hu z j
 ·rw[hu] at hu';obtain rfl:=cK hu';cases a<;>simp[IsKey] at z
 ·rw[hu] at hu';obtain rfl:=cK hu';cases b<;>simp[IsKey] at j
 ·rw[hu] at hu';obtain rfl:=TypeDesc.struct.inj (cK hu');obtain⟨M,N,_⟩:=y2 hu R;have G: ∀{fs:List Field} {g:Nat} {l l':List Value},Bu P fs g l->Bu P fs g l'->l.length=l'.length:=by
   intro fs
   induction fs with
   |nil=>intro g l l' h c;have h:l=[]:=h;have c:l'=[]:=c;rw[h,c]
   |cons f r S=>
    intro g l l' h c;obtain⟨a,b,rfl,_,x,A⟩:=h;obtain⟨H,b',rfl,_,q,K⟩:=c;have e:a.length=H.length:=by
     rcases x with ⟨d,v,hu,rfl,z⟩|⟨m,e,d,hu,_,_,_,hm,_⟩<;>rcases q with ⟨F,U,hu',rfl,j⟩|⟨m',e',F,hu',_,_,_,Y,_⟩
     ·rfl
     ·rw[hu] at hu';obtain rfl:=cK hu';cases v<;>simp[IsKey] at z
     ·rw[hu] at hu';obtain rfl:=cK hu';cases U<;>simp[IsKey] at j
     ·exact nQ
    rw[e] at A;simp only[bD];rw[e,S A K]
  obtain⟨r,A,L⟩:=z9 (P:=P) (w:=w) 9997 fs.toList 0 C D C.toArray D.toArray M x q (G x q) jS jS;have E:=run_equalIn_struct (P:=P) w 9999 t C.toArray D.toArray (by rw[kd hu];exact hu) N;rw[kd hu] at E;refine⟨r,E.trans A,?_⟩;rw[L];simp
theorem X0 {t:TypeId} {a b:Value} (c:BinOp) (x y:Operand) (k:KV P t a) (l:KV P t b):(eqGuard c t x y a b).run P w= .ok () w:=by
 rcases k with ⟨d,e,q⟩|⟨fs,E,e,n,rfl,D⟩
 ·cases d<;>cases a<;>simp only[IsKey] at q<;>cases c<;>cases b<;>rfl
 ·rcases l with ⟨h,f,g⟩|⟨z,F,f,A,rfl,C⟩
  ·cases h<;>cases b<;>simp only[IsKey] at g<;>cases c<;>rfl
  ·obtain⟨_,_,j⟩:=y2 e n;cases c<;>simp[eqGuard,j]
theorem kY {t:TypeId} {a:Value} (e:Bool) (H:KV P t a):(Instr.checkKey e 10000 t a).run P w= .ok () w:=by
 rcases H with ⟨d,g,K⟩|⟨fs,h,g,z,rfl,A⟩
 ·exact run_checkKey g K e 9999
 ·obtain⟨j,_,_⟩:=y2 g z;show(Instr.checkKey e (9999+1) t (.agg h.toArray)).run P w=_;unfold Instr.checkKey;simp only[Sem.run_bind,run_underlying g,Result.andThen_ok];rw[<-Array.forIn_toList];obtain⟨c,l,x,q⟩: ∃c l,h.toArray.toList.drop c=l/\Bu P fs.toList c l:=⟨0,h,jS,A⟩;clear A z;generalize fs.toList=L at j q|-
  induction L generalizing c l with
  |nil=>simp
  |cons f L Q=>
   obtain⟨n,D,rfl,N,F,E⟩:=q;have M:=j f jS;obtain⟨a,C,G⟩:=C5 (w:=w) F x;rw[<-N] at C;have R:h.toArray.toList.drop (c+n.length)=D:=by
    have:=fW (List.drop n.length) x
    rwa [oE,zR] at this
   have S:=wy (w:=w) G e 9997;simp only[List.forIn_cons,Sem.run_bind,M,ne_eq,n3,uS,Result.andThen_ok,C,S,Sem.run_pure];exact Q (c+n.length) D R (λy O=>j y (by simp[O])) E
theorem ke {t:TypeId} {k:Value} (n:KV P t k): ∀(a:List MapEntry) (i:Nat),(∀x∈a,KV P t x.key)->
  ((Instr.findAsking t k a i).run P w= .ok none w/\ ∀x∈a,x.key≠k)\/ ∃j e,(Instr.findAsking t k a i).run P w= .ok (some (i+j,e.val)) w/\a[j]? =some e/\e.key=k
 |[],i,_=> .inl ⟨by simp[Instr.findAsking],jS⟩
 |e::a,i,h=>by
  obtain⟨r,g,l⟩:=W9 (w:=w) n (h e jS);cases r with
  |true=>exact .inr ⟨0,e,by simp[Instr.findAsking,g],rfl,(l.1 rfl).symm⟩
  |false=>
   have z:e.key≠k:=λq=>by have:=l.2 q.symm;cases this
   rcases ke n a (i+1) (λx c=>h x (by simp[c])) with ⟨f,h2⟩|⟨j,A,f,h2,D⟩
   ·exact .inl ⟨by simp[Instr.findAsking,g,f],λx c=>by
     rcases eF.1 c with rfl|c
     ·exact z
     ·exact h2 x c⟩
   ·refine .inr ⟨j+1,A,?_,j2,D⟩;have C:i+1+j=i+(j+1):=J
    rw[C] at f;simp[Instr.findAsking,g,f]
theorem rF {t:TypeId} {k:Value} (F:KV P t k) (a:List MapEntry) (h: ∀x∈a,KV P t x.key):
  ((Instr.findKey t k a).run P w= .ok none w/\ ∀x∈a,x.key≠k)\/ ∃j e,(Instr.findKey t k a).run P w= .ok (some (j,e.val)) w/\a[j]? =some e/\e.key=k:=by
 rcases F with ⟨d,g,z⟩|⟨fs,q,g,D,rfl,E⟩
 ·have A: ∀x∈a,IsKey d x.key:=by
   intro x G;rcases h x G with ⟨K,l,C⟩|⟨H,O,l,L,N,M⟩
   ·rw[g] at l;obtain rfl:=cK l;exact C
   ·rw[g] at l;obtain rfl:=cK l;cases k<;>simp[IsKey] at z
  rcases findNow_spec z a 0 A with ⟨c,f⟩|⟨j,e,c,f,n⟩
  ·exact .inl ⟨run_findKey g c,f⟩
  ·exact .inr ⟨j,e,by rw[run_findKey g c,dR],f,n⟩
 ·rw[run_findKey_eq w (by rw[g]) (.agg q.toArray) a];rcases ke (w:=w) (.inr ⟨fs,q,g,D,rfl,E⟩:KV P t (.agg q.toArray)) a 0 h with ⟨c,f⟩|⟨j,e,c,f,n⟩
  ·exact .inl ⟨c,f⟩
  ·exact .inr ⟨j,e,by rw[c,dR],f,n⟩
theorem X1 {d:TypeDesc} {v:Value} (h:IsKey d v) (n:Nat):Instr.sameBits n v v=true:=by
 cases d<;>cases v<;>simp only[IsKey] at h<;>cases n<;>simp[Instr.sameBits]
 all_goals exact(bytes_beq _ _).2 rfl
theorem I4 {t:TypeId} {v:Value} (h:KV P t v):Instr.sameBits 10000 v v=true:=by
 rcases h with ⟨d,z,a⟩|⟨fs,A,z,C,rfl,g⟩
 ·exact X1 a _
 ·have one: ∀{t:TypeId} {l:List Value},VX P t l->(l.zip l).all (fun(x,y)=>Instr.sameBits 9999 x y)=true:=by
   intro t l h;have go: ∀(l:List Value),(∀v∈l,∃d,IsKey d v)->(l.zip l).all (fun(x,y)=>Instr.sameBits 9999 x y)=true:=by
    intro l
    induction l with
    |nil=>intro _;rfl
    |cons v l j=>intro h;obtain⟨d,a⟩:=h v jS;simp only[List.zip_cons_cons,List.all_cons,aW];exact⟨X1 a _,j λy c=>h y (by simp[c])⟩
   rcases h with ⟨d,v,_,rfl,a⟩|⟨_,_,d,_,_,_,_,_,n⟩
   ·exact go _ λy c=>⟨d,by rw[bV.1 c];exact a⟩
   ·exact go _ λy c=>⟨d,n y c⟩
  have q: ∀{fs:List Field} {e:Nat} {l:List Value},Bu P fs e l->(l.zip l).all (fun(x,y)=>Instr.sameBits 9999 x y)=true:=by
   intro fs
   induction fs with
   |nil=>intro e l h;have h:l=[]:=h;rw[h];rfl
   |cons f r j=>intro e l h;obtain⟨A,D,rfl,_,g,w⟩:=h;rw[List.zip_append rfl,List.all_append,one g,j w];rfl
  show Instr.sameBits (9999+1) _ _=true;unfold Instr.sameBits;simp only[uA,oD];exact q g
end
section
variable {P : Program} {β : Bd} {nid : Nat} {F : Nat -> Prop} {w : World} {lk : Nat -> Option AO} {k : Eff -> Prop}
def Nc (T:List (Nat×TI)) (t:Nat):Bool:=
 match lF t T with
 |some a=>Tk a.desc
 |none=>false
def sliceAt (T:List (Nat×TI)) (t:Nat):Bool:=
 match lF t T with
 |some a=>(lW a.desc).isSome
 |none=>false
def m5:Value->Bool
 | .slice none 0 0=>true
 |_=>false
def Gm (T:List (Nat×TI)) (t:Nat):Bool:=
 match lF t T with
 |some a=>(match a.desc with
  | .pointer _=>true
  |_=>false)
 |none=>false
def fy:Value->Bool
 | .pointer none=>true
 |_=>false
def Xc (e:Option Prop) (T:List (Nat×TI)) (lk:Nat->Option AO) (c:BinOp) (t:Nat) (a b:AV) (k:Eff->Prop):Prop:=
 match a,b with
 | .i j x,.i h y=>(match Nat.beq (kn j) (kn h) with
  |true=>(match c with
   | .quo=>ob e (y≠0) (k (.ext [] (.i j (j.wrap (x.tdiv y)))))
   | .rem=>ob e (y≠0) (k (.ext [] (.i j (x.tmod y))))
   | .shl=>ob e (0<=y) (k (.ext [] (.i j (j.wrap (x*2^(min y.toNat j.bits))))))
   | .shr=>ob e (0<=y) (k (.ext [] (.i j (x.fdiv (2^(min y.toNat j.bits))))))
   |c=>(match NN c j x y with
    |some r=>k (.ext [] r)
    |none=>False))
  |false=>False)
 | .b x,.b y=>(match Nc T t,c with
  |true,.eql=>k (.ext [] (.b (x==y)))
  |true,.neq=>k (.ext [] (.b (x !=y)))
  |_,_=>False)
 | .s x,.s y=>(match c with
  | .eql=>k (.ext [] (.b (fG x y)))
  | .neq=>k (.ext [] (.b (!fG x y)))
  | .add=>ob e (x.size+y.size<=9223372036854775807) (k (.ext [] (.s (x++y))))
  |_=>False)
 | .rs _ n _,.val v=>(match m5 v,sliceAt T t,c with
  |true,true,.eql=>ob e (0<n) (k (.ext [] (.b false)))
  |true,true,.neq=>ob e (0<n) (k (.ext [] (.b true)))
  |_,_,_=>False)
 | .so id,.val v=>(match m5 v,sliceAt T t,c,lk id with
  |true,true,.eql,some (.row _ _ n _)=>ob e (0<n) (k (.ext [] (.b false)))
  |true,true,.neq,some (.row _ _ n _)=>ob e (0<n) (k (.ext [] (.b true)))
  |_,_,_,_=>False)
 | .sv _ _ _ n,.val v=>(match m5 v,sliceAt T t,c with
  |true,true,.eql=>ob e (0<n) (k (.ext [] (.b false)))
  |true,true,.neq=>ob e (0<n) (k (.ext [] (.b true)))
  |_,_,_=>False)
 | .ag f,.ag g=>(match uH T t (.ag f),uH T t (.ag g),c with
  |true,true,.eql=>k (.ext [] (.b (vS f g)))
  |true,true,.neq=>k (.ext [] (.b (!vS f g)))
  |_,_,_=>False)
 | .p _ _,.val v=>(match fy v,Gm T t,c with
  |true,true,.eql=>k (.ext [] (.b false))
  |true,true,.neq=>k (.ext [] (.b true))
  |_,_,_=>False)
 | .rp _,.val v=>(match fy v,Gm T t,c with
  |true,true,.eql=>k (.ext [] (.b false))
  |true,true,.neq=>k (.ext [] (.b true))
  |_,_,_=>False)
 | .val u,.val v=>(match fy u,fy v,Gm T t,c with
  |true,true,true,.eql=>k (.ext [] (.b true))
  |true,true,true,.neq=>k (.ext [] (.b false))
  |_,_,_,_=>(match m5 u,m5 v,sliceAt T t,c with
   |true,true,true,.eql=>k (.ext [] (.b true))
   |true,true,true,.neq=>k (.ext [] (.b false))
   |_,_,_,_=>False))
 |_,_=>False
theorem NP (t:TypeId) (j:IntKind) (x y:Int) (a:y≠0):(binOp .quo t (.int j x) (.int j y)).run P w= .ok (.int j (j.wrap (x.tdiv y))) w:=by simp[binOp,Op.intDiv,a]
theorem NQ (t:TypeId) (j:IntKind) (x y:Int) (a:y≠0):(binOp .rem t (.int j x) (.int j y)).run P w= .ok (.int j (x.tmod y)) w:=by simp[binOp,Op.intDiv,a]
theorem NR (t:TypeId) (j:IntKind) (x y:Int) (a:0<=y):(binOp .shl t (.int j x) (.int j y)).run P w= .ok (.int j (j.wrap (x*2^(min y.toNat j.bits)))) w:=by
 have: ¬y<0:=J
 simp[binOp,Op.shift,this]
theorem NS (t:TypeId) (j:IntKind) (x y:Int) (a:0<=y):(binOp .shr t (.int j x) (.int j y)).run P w= .ok (.int j (x.fdiv (2^(min y.toNat j.bits)))) w:=by
 have: ¬y<0:=J
 simp[binOp,Op.shift,this]
theorem qu {T:List (Nat×TI)} (e:iM P T) {t:Nat} (h:Nc T t=true) (x y:Bool):(Op.equal t (.bool x) (.bool y)).run P w= .ok (x==y) w:=by
 unfold Nc at h;split at h
 ·rename_i j g;obtain⟨c,_⟩:=e.get g;cases a:j.desc<;>simp[Tk,a] at h;rw[a] at c;have f: ∀d,(Op.equalIn (d+1) t (.bool x) (.bool y)).run P w= .ok (x==y) w:=λd=>by simp[Op.equalIn,run_underlying c]
  exact f 9999
 ·cases h
theorem sV {T:List (Nat×TI)} (g:iM P T) {t:Nat} (h:sliceAt T t=true) (a:Option Addr) (n c:Nat):(Op.equal t (.slice a n c) (.slice none 0 0)).run P w= .ok a.isNone w:=by
 unfold sliceAt at h;split at h
 ·rename_i l k;obtain⟨f,_⟩:=g.get k;cases e:l.desc<;>simp[lW,e] at h;rw[e] at f;have j: ∀d,(Op.equalIn (d+1) t (.slice a n c) (.slice none 0 0)).run P w= .ok a.isNone w:=λd=>by cases a<;>simp[Op.equalIn,run_underlying f]
  exact j 9999
 ·cases h
theorem M7 {T:List (Nat×TI)} (e:iM P T) {t:Nat} (h:Gm T t=true) (a:Option Addr):(Op.equal t (.pointer a) (.pointer none)).run P w= .ok a.isNone w:=by
 unfold Gm at h;split at h
 ·rename_i k j;obtain⟨c,_⟩:=e.get j;split at h
  ·rename_i f;rw[f] at c;have g: ∀d,(Op.equalIn (d+1) t (.pointer a) (.pointer none)).run P w= .ok a.isNone w:=λd=>by cases a<;>simp[Op.equalIn,run_underlying c]
   exact g 9999
  ·cases h
 ·cases h
theorem zT {v:Value} (h:fy v=true):v= .pointer none:=by
 unfold fy at h;split at h
 ·rfl
 ·cases h
theorem iX {v:Value} (h:m5 v=true):v= .slice none 0 0:=by
 unfold m5 at h;split at h
 ·rfl
 ·cases h
def lD (c:BinOp) (t:TypeId) (x y:Operand) (a b:Value):Sem Value:=do eqGuard c t x y a b;binOp c t a b
theorem yc (c:BinOp) (t:TypeId) (x y:Operand) (i j:IntKind) (a b:Int):(eqGuard c t x y (.int i a) (.int j b)).run P w= .ok () w:=by cases c<;>rfl
theorem Nd (c:BinOp) (t:TypeId) (x y:Operand) (a b:Bool):(eqGuard c t x y (.bool a) (.bool b)).run P w= .ok () w:=by cases c<;>rfl
theorem X2 (c:BinOp) (t:TypeId) (x y:Operand) (a b:ByteArray):(eqGuard c t x y (.string a) (.string b)).run P w= .ok () w:=by cases c<;>rfl
theorem sY (e:BinOp) (t:TypeId) (x y:Operand) (a b:Option Addr) (n c m d:Nat):(eqGuard e t x y (.slice a n c) (.slice b m d)).run P w= .ok () w:=by cases e<;>rfl
theorem M8 (c:BinOp) (t:TypeId) (x y:Operand) (a b:Option Addr):(eqGuard c t x y (.pointer a) (.pointer b)).run P w= .ok () w:=by cases c<;>rfl
theorem Rep.rp_ptr {cs:List AV} {v:Value} (h:Rep β nid F w (.rp cs) v): ∃a,v= .pointer (some a):=by
 cases h with
 |pure _ _ h=>cases h with
  |rp _ g c n e f j k l=>exact⟨_,rfl⟩
theorem kg {d:TypeDesc} {a:AV} (h:vT d a=true):a.lt 0=true:=by cases d<;>cases a<;>simp[vT] at h<;>rfl
theorem yd: ∀{c:List TypeDesc} {cs:List AV},yM c cs=true->AV.lts 0 cs=true
 |[],[],_=>rfl
 |[],_::_,h=>by simp[yM] at h
 |_::_,[],h=>by simp[yM] at h
 |d::r,a::cs,h=>by
  unfold yM at h;split at h
  ·rename_i e;unfold AV.lts;rw[kg e];exact yd h
  ·cases h
theorem xV {T:List (Nat×TI)} {t:Nat} {a:AV} (h:uH T t a=true):a.lt 0=true:=by
 unfold uH at h;split at h
 ·split at h
  ·split at h
   ·exact yd h
   ·cases h
  ·cases h
  ·exact kg h
 ·cases h
theorem Gn {T:List (Nat×TI)} (j:iM P T) {t:Nat} {xs e:List AV} {u v:Value} (a:uH T t (.ag xs)=true) (c:uH T t (.ag e)=true) (L:Rep β nid F w (.ag xs) u) (M:Rep β nid F w (.ag e) v):
  ∃r:Bool,(Op.equal t u v).run P w= .ok r w/\r=vS xs e/\KV P t u/\KV P t v:=by
 have g:=L.toPure (xV a);have h:=M.toPure (xV c);have k:=wK j a g;have k2:=wK j c h;obtain⟨r,H,A⟩:=W9 (w:=w) k k2;refine⟨r,H,?_,k,k2⟩;have n:vS xs e=true↔u=v:=by
  unfold uH at a c;split at a
  ·rename_i l K;cases f:W7 l.desc with
   |none=>rw[f] at a;cases E:l.desc<;>simp[vT,E] at a
   |some fs=>
    rw[K] at c;dsimp only at c;rw[f] at a c;dsimp only at a c;split at a
    ·rename_i N D C;rw[D,C] at c;cases g with
     |ag _ O G x=>
      cases h with
      |ag _ Q z q=>rw[(qt a c G z x q).1];simp
    ·cases a
  ·cases a
 rw[hM,A,n]
theorem S4 {gc:Option Prop} (G: ∀c,gc=some c->c) (E:Env β nid F w lk) {T:List (Nat×TI)} (hT:iM P T) {M:BinOp} {t:Nat} {a b:AV} {u v:Value} (x y:Operand)
  (A:Rep β nid F w a u) (C:Rep β nid F w b v) (h:Xc gc T lk M t a b k): ∃z,(lD M t x y u v).run P w= .ok z w/\ ∃r,k (.ext [] r)/\Rep β nid F w r z:=by
 unfold Xc at h;split at h
 ·rename_i j f j' l;obtain rfl:=A.i_inv;obtain rfl:=C.i_inv;have D:=yc (P:=P) (w:=w) M t x y j j' f l;split at h
  ·rename_i hk;obtain rfl:=qh hk;split at h
   ·obtain⟨q,h⟩:=kS h G;exact⟨_,by unfold lD;rw[Sem.run_bind,D];exact NP t j f l q,_,h,.pure _ _ (.i _ _)⟩
   ·obtain⟨q,h⟩:=kS h G;exact⟨_,by unfold lD;rw[Sem.run_bind,D];exact NQ t j f l q,_,h,.pure _ _ (.i _ _)⟩
   ·obtain⟨q,h⟩:=kS h G;exact⟨_,by unfold lD;rw[Sem.run_bind,D];exact NR t j f l q,_,h,.pure _ _ (.i _ _)⟩
   ·obtain⟨q,h⟩:=kS h G;exact⟨_,by unfold lD;rw[Sem.run_bind,D];exact NS t j f l q,_,h,.pure _ _ (.i _ _)⟩
   ·split at h
    ·rename_i r hr;obtain⟨z,hz,a3⟩:=qi (P:=P) (w:=w) t hr;exact⟨z,by unfold lD;rw[Sem.run_bind,D];exact hz w,r,h,.pure _ _ (a3.stable (λ_ _ h=>absurd trivial h) (λ_ _ _=>rfl) (aG _))⟩
    ·cases h
  ·cases h
 ·rename_i f l;obtain rfl:=A.b_inv;obtain rfl:=C.b_inv;have D:=λM=>Nd (P:=P) (w:=w) M t x y f l;split at h
  ·rename_i hb;refine⟨.bool (f==l),?_,_,h,.pure _ _ (.b _)⟩;unfold lD;rw[Sem.run_bind,D];simp[binOp,qu hT hb]
  ·rename_i hb;refine⟨.bool (f !=l),?_,_,h,.pure _ _ (.b _)⟩;unfold lD;rw[Sem.run_bind,D];simp[binOp,qu hT hb,bne]
  ·cases h
 ·rename_i f l;obtain rfl:=A.s_inv;obtain rfl:=C.s_inv;have D:=λM=>X2 (P:=P) (w:=w) M t x y f l;split at h
  ·refine⟨.bool (fG f l),?_,_,h,.pure _ _ (.b _)⟩;unfold lD;rw[Sem.run_bind,D];simp[binOp,Op.stringOp,fG]
  ·refine⟨.bool (!fG f l),?_,_,h,.pure _ _ (.b _)⟩;unfold lD;rw[Sem.run_bind,D];simp[binOp,Op.stringOp,fG]
  ·obtain⟨q,h⟩:=kS h G;refine⟨.string (f++l),?_,_,h,.pure _ _ (.s _)⟩;unfold lD;rw[Sem.run_bind,D];have d9:IntKind.i64.max=9223372036854775807:=rfl;have a7: ¬(((f.size+l.size:Nat):Int)>IntKind.i64.max):=by rw[d9];omega
   simp only[binOp,Op.stringOp,Result.andThen_ok];rw[aB a7];rfl
  ·cases h
 ·rename_i sz n get N;obtain rfl:=C.val_inv;split at h
  ·rename_i hn ht;obtain⟨q,h⟩:=kS h G;obtain rfl:=iX hn;have U:=A.rs_inv;cases U with
   |rsnil=>omega
   |rsz=>omega
   |rs _ _ _ g a1 R=>refine⟨.bool false,?_,_,h,.pure _ _ (.b _)⟩;unfold lD;rw[Sem.run_bind,sY];simp[binOp,sV hT ht]
  ·rename_i hn ht;obtain⟨q,h⟩:=kS h G;obtain rfl:=iX hn;have U:=A.rs_inv;cases U with
   |rsnil=>omega
   |rsz=>omega
   |rs _ _ _ g a1 R=>refine⟨.bool true,?_,_,h,.pure _ _ (.b _)⟩;unfold lD;rw[Sem.run_bind,sY];simp[binOp,sV hT ht]
  ·cases h
 ·rename_i id N;obtain rfl:=C.val_inv;obtain⟨a6,rfl⟩:=A.so_inv;split at h
  ·rename_i e sz n get hn ht ae;obtain⟨q,h⟩:=kS h G;obtain rfl:=iX hn;obtain⟨_,O,hx,_⟩:=E.obj id _ ae;rcases hx.2 with ⟨_,H⟩|⟨_,_,H⟩|⟨g,o,R,a5,W,_⟩
   ·omega
   ·omega
   ·refine⟨.bool false,?_,_,h,.pure _ _ (.b _)⟩;rw[W];unfold lD;rw[Sem.run_bind,sY];simp[binOp,sV hT ht]
  ·rename_i e sz n get hn ht ae;obtain⟨q,h⟩:=kS h G;obtain rfl:=iX hn;obtain⟨_,O,hx,_⟩:=E.obj id _ ae;rcases hx.2 with ⟨_,H⟩|⟨_,_,H⟩|⟨g,o,R,a5,W,_⟩
   ·omega
   ·omega
   ·refine⟨.bool true,?_,_,h,.pure _ _ (.b _)⟩;rw[W];unfold lD;rw[Sem.run_bind,sY];simp[binOp,sV hT ht]
  ·cases h
 ·rename_i id sz lo n N;obtain rfl:=C.val_inv;obtain⟨a6,a0⟩:=A.sv_inv;split at h
  ·rename_i hn ht;obtain⟨q,h⟩:=kS h G;obtain rfl:=iX hn;rcases a0 with ⟨_,H,_⟩|⟨_,_,H,_⟩|⟨g,o,m,c,a4,ai,a2,rfl⟩
   ·omega
   ·omega
   ·refine⟨.bool false,?_,_,h,.pure _ _ (.b _)⟩;unfold lD;rw[Sem.run_bind,sY];simp[binOp,sV hT ht]
  ·rename_i hn ht;obtain⟨q,h⟩:=kS h G;obtain rfl:=iX hn;rcases a0 with ⟨_,H,_⟩|⟨_,_,H,_⟩|⟨g,o,m,c,a4,ai,a2,rfl⟩
   ·omega
   ·omega
   ·refine⟨.bool true,?_,_,h,.pure _ _ (.b _)⟩;unfold lD;rw[Sem.run_bind,sY];simp[binOp,sV hT ht]
  ·cases h
 ·rename_i O ys;split at h
  ·rename_i h1 h2;obtain⟨r,Q,Y,aZ,S⟩:=Gn hT h1 h2 A C;refine⟨.bool (vS O ys),?_,_,h,.pure _ _ (.b _)⟩;unfold lD;rw[Sem.run_bind,X0 .eql x y aZ S,<-Y];obtain⟨us,rfl,_⟩:=A.ag_inv;obtain⟨vs,rfl,_⟩:=C.ag_inv;simp[binOp,Q]
  ·rename_i h1 h2;obtain⟨r,Q,Y,aZ,S⟩:=Gn hT h1 h2 A C;refine⟨.bool (!vS O ys),?_,_,h,.pure _ _ (.b _)⟩;unfold lD;rw[Sem.run_bind,X0 .neq x y aZ S,<-Y];obtain⟨us,rfl,_⟩:=A.ag_inv;obtain⟨vs,rfl,_⟩:=C.ag_inv;simp[binOp,Q]
  ·cases h
 ·rename_i id a1 N;obtain rfl:=C.val_inv;obtain⟨_,rfl⟩:=A.p_inv;split at h
  ·exact mj
  ·exact mn
  ·cases h
 ·rename_i cs N;obtain rfl:=C.val_inv;obtain⟨ad,rfl⟩:=A.rp_ptr;split at h
  ·exact mj
  ·exact mn
  ·cases h
 ·rename_i u' N;obtain rfl:=C.val_inv;obtain rfl:=A.val_inv;split at h
  ·rename_i K L ht;obtain rfl:=zT K;obtain rfl:=zT L;refine⟨.bool true,?_,_,h,.pure _ _ (.b _)⟩;unfold lD;rw[Sem.run_bind,M8];simp[binOp,M7 hT ht]
  ·rename_i K L ht;obtain rfl:=zT K;obtain rfl:=zT L;refine⟨.bool false,?_,_,h,.pure _ _ (.b _)⟩;unfold lD;rw[Sem.run_bind,M8];simp[binOp,M7 hT ht]
  ·split at h
   ·rename_i K L ht _ _;obtain rfl:=iX K;obtain rfl:=iX L;refine⟨.bool true,?_,_,h,.pure _ _ (.b _)⟩;unfold lD;rw[Sem.run_bind,sY];simp[binOp,sV hT ht]
   ·rename_i K L ht _ _;obtain rfl:=iX K;obtain rfl:=iX L;refine⟨.bool false,?_,_,h,.pure _ _ (.b _)⟩;unfold lD;rw[Sem.run_bind,sY];simp[binOp,sV hT ht]
   ·cases h
 ·cases h
def unA (c:UnOp) (a:AV) (k:Eff->Prop):Prop:=
 match c,a with
 | .not,.b x=>k (.ext [] (.b (!x)))
 | .neg,.i j n=>k (.ext [] (.i j (j.wrap (0-n))))
 |_,_=>False
theorem Xd {e:UnOp} {a:AV} {v:Value} (c:Rep β nid F w a v) (h:unA e a k): ∃z,(Op.unary e v).run P w= .ok z w/\ ∃r,k (.ext [] r)/\Rep β nid F w r z:=by
 unfold unA at h;split at h
 ·obtain rfl:=c.b_inv;exact⟨_,rfl,_,h,.pure _ _ (.b _)⟩
 ·obtain rfl:=c.i_inv;exact⟨_,rfl,_,h,.pure _ _ (.i _ _)⟩
 ·cases h
def DJ (T:List (Nat×TI)) (e dst:Nat) (a:AV) (k:Eff->Prop):Prop:=
 match lF e T,lF dst T,a with
 |some _,some c,.i _ n=>(match aAv c.desc with
  |some j=>k (.ext [] (.i j (j.wrap n)))
  |none=>False)
 |some f,some c,.s x=>(match o7 f.desc,o7 c.desc with
  |true,true=>k (.ext [] (.s x))
  |_,_=>False)
 |_,_,_=>False
theorem Gp {T:List (Nat×TI)} (f:iM P T) {C dst:Nat} {a:AV} {v:Value} (G:Rep β nid F w a v) (h:DJ T C dst a k): ∃z,(convert C dst v).run P w= .ok z w/\ ∃r,k (.ext [] r)/\Rep β nid F w r z:=by
 unfold DJ at h;split at h
 ·rename_i H q M n g l;obtain rfl:=G.i_inv;split at h
  ·rename_i j E;obtain⟨e,_⟩:=f.get g;obtain⟨c,_⟩:=f.get l;refine⟨.int j (j.wrap n),?_,_,h,.pure _ _ (.i _ _)⟩;cases D:q.desc<;>simp[aAv,D] at E;subst E;rw[D] at c;simp[convert,run_underlying e,run_underlying c,Conv.intToInt]
  ·cases h
 ·rename_i H q x g l;obtain rfl:=G.s_inv;split at h
  ·rename_i L K;obtain⟨e,_⟩:=f.get g;obtain⟨c,_⟩:=f.get l;refine⟨.string x,?_,_,h,.pure _ _ (.s _)⟩;cases t:H.desc<;>simp[o7,t] at L;cases A:q.desc<;>simp[o7,A] at K;rw[t] at e;rw[A] at c;simp[convert,run_underlying e,run_underlying c]
  ·cases h
 ·cases h
def fz (a:AV) (k:Eff->Prop):Prop:=
 match a with
 | .p id c=>k (.ext [] (.p id c))
 | .pe id f e c=>k (.ext [] (.pe id f e c))
 | .rp cs=>k (.ext [] (.rp cs))
 |_=>False
def DK (T:List (Nat×TI)) (lk:Nat->Option AO) (t:Nat) (a:AV) (k:Eff->Prop):Prop:=
 match lF t T with
 |some c=>(match a with
  | .rs _ n _=>(match lW c.desc with
   |some _=>k (.ext [] (.i .i64 n))
   |none=>False)
  | .so id=>(match lW c.desc,lk id with
   |some _,some (.row _ _ n _)=>k (.ext [] (.i .i64 n))
   |_,_=>False)
  | .val v=>(match lW c.desc,m5 v with
   |some _,true=>k (.ext [] (.i .i64 0))
   |_,_=>False)
  | .sv _ _ _ n=>(match lW c.desc with
   |some _=>k (.ext [] (.i .i64 n))
   |none=>False)
  | .mo id=>(match R6 c.desc,lk id with
   |true,some (.mp n _ _ _ _)=>k (.ext [] (.i .i64 n))
   |_,_=>False)
  | .rm n _ _=>(match R6 c.desc with
   |true=>k (.ext [] (.i .i64 n))
   |false=>False)
  | .s x=>(match o7 c.desc with
   |true=>k (.ext [] (.i .i64 x.size))
   |false=>False)
  |_=>False)
 |none=>False
theorem lX {T:List (Nat×TI)} (q:iM P T) {t e:Nat} {f:TI} (k:lF t T=some f) (l:lW f.desc=some e) (x:TypeId) (a:Option Addr) (n c:Nat) (ts:Array TypeId) (j:ts[0]? =some t):
  (Builtin.len_ ts x #[.slice a n c]).run P w= .ok (.int .i64 n) w:=by
 obtain⟨h,_⟩:=q.get k;cases g:f.desc<;>simp[lW,g] at l;rw[g] at h;simp[Builtin.len_,j,run_underlying h,goInt]
theorem Nf (E:Env β nid F w lk) {T:List (Nat×TI)} (q:iM P T) {t:Nat} {a:AV} {v:Value} (A:TypeId) (ts:Array TypeId) (f:ts[0]? =some t) (H:Rep β nid F w a v)
  (h:DK T lk t a k): ∃z,(Builtin.len_ ts A #[v]).run P w= .ok z w/\ ∃r,k (.ext [] r)/\Rep β nid F w r z:=by
 unfold DK at h;split at h
 ·rename_i Q j;split at h
  ·rename_i S n get;split at h
   ·rename_i e l;have M:=H.rs_inv;cases M with
    |rsnil=>exact⟨_,lX q j l A none 0 0 ts f,_,h,.pure _ _ (.i _ _)⟩
    |rsz _ _ a=>exact⟨_,lX q j l A (some a) 0 0 ts f,_,h,.pure _ _ (.i _ _)⟩
    |rs _ _ _ g a8 L=>exact⟨_,lX q j l A _ n L ts f,_,h,.pure _ _ (.i _ _)⟩
   ·cases h
  ·rename_i id;obtain⟨R,rfl⟩:=H.so_inv;split at h
   ·rename_i e _ S n get l N;obtain⟨_,xs,hx,_⟩:=E.obj id _ N;rcases hx.2 with ⟨W,G⟩|⟨a0,h0,G⟩|⟨g,o,L,a6,a1,_⟩
    ·rw[W];subst G;exact⟨_,lX q j l A none 0 0 ts f,_,h,.pure _ _ (.i _ _)⟩
    ·rw[h0];subst G;exact⟨_,lX q j l A _ 0 0 ts f,_,h,.pure _ _ (.i _ _)⟩
    ·rw[a1];exact⟨_,lX q j l A _ n (L+1) ts f,_,h,.pure _ _ (.i _ _)⟩
   ·cases h
  ·rename_i v';obtain rfl:=H.val_inv;split at h
   ·rename_i e l K;obtain rfl:=iX K;exact⟨_,lX q j l A none 0 0 ts f,_,h,.pure _ _ (.i _ _)⟩
   ·cases h
  ·rename_i id S lo n;obtain⟨R,Y⟩:=H.sv_inv;split at h
   ·rename_i e l;rcases Y with ⟨rfl,G,_⟩|⟨a0,rfl,G,_⟩|⟨g,o,m,c,a5,ai,a4,rfl⟩
    ·subst G;exact⟨_,lX q j l A none 0 0 ts f,_,h,.pure _ _ (.i _ _)⟩
    ·subst G;exact⟨_,lX q j l A _ 0 0 ts f,_,h,.pure _ _ (.i _ _)⟩
    ·exact⟨_,lX q j l A _ n (c-lo) ts f,_,h,.pure _ _ (.i _ _)⟩
   ·cases h
  ·rename_i id;obtain⟨R,rfl⟩:=H.mo_inv;split at h
   ·rename_i n a2 val a3 U O N;obtain⟨_,es,hh,K,_⟩:=E.obj id _ N;obtain⟨C,_⟩:=q.get j;cases D:Q.desc<;>simp[R6,D] at O;rw[D] at C;refine⟨.int .i64 n,?_,_,h,.pure _ _ (.i _ _)⟩;simp[Builtin.len_,f,run_underlying C,Go.MapKept.run_getObj_map hh,goInt,K]
   ·cases h
  ·rename_i n a2 val;have M:=H.rm_inv;split at h
   ·rename_i O;obtain⟨C,_⟩:=q.get j;cases D:Q.desc<;>simp[R6,D] at O;rw[D] at C;cases M with
    |rmnil=>exact⟨.int .i64 0,by simp[Builtin.len_,f,run_underlying C,goInt],_,h,.pure _ _ (.i _ _)⟩
    |rm _ _ _ g es U hF hg K ho hk a7=>exact⟨.int .i64 n,by simp[Builtin.len_,f,run_underlying C,Go.MapKept.run_getObj_map hg,goInt,K],_,h,.pure _ _ (.i _ _)⟩
   ·cases h
  ·rename_i x;obtain rfl:=H.s_inv;split at h
   ·rename_i hs;obtain⟨C,_⟩:=q.get j;cases D:Q.desc<;>simp[o7,D] at hs;rw[D] at C;exact⟨.int .i64 x.size,by simp[Builtin.len_,f,run_underlying C,goInt],_,h,.pure _ _ (.i _ _)⟩
   ·cases h
  ·cases h
 ·cases h
def NT (a b:AV) (k:Eff->Prop):Prop:=
 match a,b with
 | .i j x,.i _ y=>k (.ext [] (.i j (max x y)))
 |_,_=>False
def VY (a b:AV) (k:Eff->Prop):Prop:=
 match a,b with
 | .i j x,.i _ y=>k (.ext [] (.i j (min x y)))
 |_,_=>False
theorem Ng {a b:AV} {u v:Value} (ts:Array TypeId) (g:TypeId) (c:Rep β nid F w a u) (f:Rep β nid F w b v) (h:NT a b k): ∃z,(Builtin.max_ ts g #[u,v]).run P w= .ok z w/\ ∃r,k (.ext [] r)/\Rep β nid F w r z:=by
 unfold NT at h;split at h
 ·rename_i j x l y;obtain rfl:=c.i_inv;obtain rfl:=f.i_inv;refine⟨.int j (max x y),?_,_,h,.pure _ _ (.i _ _)⟩;have e:(if x<y then y else x)=max x y:=by split<;>omega
  simp[Builtin.max_,Builtin.max2,e]
 ·cases h
theorem Nh {a b:AV} {u v:Value} (ts:Array TypeId) (g:TypeId) (c:Rep β nid F w a u) (f:Rep β nid F w b v) (h:VY a b k): ∃z,(Builtin.min_ ts g #[u,v]).run P w= .ok z w/\ ∃r,k (.ext [] r)/\Rep β nid F w r z:=by
 unfold VY at h;split at h
 ·rename_i j x l y;obtain rfl:=c.i_inv;obtain rfl:=f.i_inv;refine⟨.int j (min x y),?_,_,h,.pure _ _ (.i _ _)⟩;have e:(if y<x then y else x)=min x y:=by split<;>omega
  simp[Builtin.min_,Builtin.min2,e]
 ·cases h
end
end Go.Eng
namespace Go.Eng
open Go.RowKit
section
variable {P : Program} {β : Bd} {nid : Nat} {F : Nat -> Prop} {w : World} {lk : Nat -> Option AO} {k : Eff -> Prop}
def ye (g:Nat->Option (Nat×Nat)):List (Nat×AV)->List AV->(List AV->Prop)->Prop
 |[],e,k=>k e
 |(i,a)::r,e,k=>match g i with
  |none=>False
  |some (h,j)=>qj a λf=>match f with
   |[]=>False
   |c::f=>(match Nat.beq (c::f).length j with
    |true=>qg h (c::f) e λl=>ye g r l k
    |false=>False)
theorem Gq (off:Nat): ∀(l:List Value) (m:Nat) (cells:Array Value),off+m+l.length<=cells.size->
  ((l.zipIdx m).foldl (λcs (c,j)=>cs.setIfInBounds (off+j) c) cells).size=cells.size/\
  ∀q:Nat,((l.zipIdx m).foldl (λcs (c,j)=>cs.setIfInBounds (off+j) c) cells)[q]? =if off+m<=q/\q<off+m+l.length then l[q-(off+m)]? else cells[q]?
 |[],m,cells,_=>⟨rfl,λq=>by
   rw[aB jS];rfl⟩
 |c::l,m,cells,h=>by
  have g:=Gq off l (m+1) (cells.setIfInBounds (off+m) c) (by simp at h|-;omega);simp only[p7,gK];refine⟨by rw[g.1];simp,λq=> ?_⟩;rw[g.2 q];simp only[gR] at h|-;by_cases a:off+(m+1)<=q/\q<off+(m+1)+l.length
  ·rw[aE a,aE J];have e:q-(off+m)=q-(off+(m+1))+1:=J
   rw[e,kW]
  ·rw[aB a,pF];by_cases f:off+m=q
   ·subst f;rw[aE rfl,aE J,aE J];simp
   ·rw[aB f,aB J]
def A0 (β:Bd) (nid:Nat) (F:Nat->Prop) (w:World) (a:List AV) (cells:Array Value):Prop:=
 a.length=cells.size/\ ∀(j:Nat) (c:j<a.length) (e:j<cells.size),Rep β nid F w a[j] cells[j]/\cells[j].oneCell'=true
theorem v7 (O:Nat->Option (Nat×Nat)): ∀(t:List (Nat×AV)) (vals:List (Nat×Value)) (g:List AV) (cells:Array Value) {q:List AV->Prop},
  t.length=vals.length->(∀(j:Nat) (l:j<t.length) (H:j<vals.length),t[j].1=vals[j].1/\Rep β nid F w t[j].2 vals[j].2)->
  A0 β nid F w g cells->ye O t g q->
  ∃G x,Instr.fill O cells vals=some x/\A0 β nid F w G x/\q G/\x.size=cells.size
 |[],[],g,cells,q,_,_,hrel,h=>⟨g,cells,rfl,hrel,h,rfl⟩
 |[],_::_,_,_,_,A,_,_,_=>by simp at A
 |_::_,[],_,_,_,A,_,_,_=>by simp at A
 |(i,a)::r,(i',v)::rv,g,cells,q,A,U,hrel,h=>by
  have S:=U 0 jS jS;simp only[fE] at S;obtain⟨rfl,hv⟩:=S;unfold ye at h;split at h
  ·cases h
  ·rename_i e K a4;have N:=C1 h;clear h;obtain⟨f,h,a3⟩:=N;obtain⟨C,R,L,bF⟩:=M6 hv a3;split at h
   ·cases h
   ·rename_i c f;split at h
    ·rename_i Q;have Q:(c::f).length=K:=by simpa using Q
     obtain⟨n,h⟩:=M5 h;have n:e+(c::f).length<=g.length:=n.resolve_left jS;have D:=Gq e C 0 cells (by rw[<-hrel.1,<-L];simpa using n);simp only[iL] at D;have a0:A0 β nid F w (over_q0 e (c::f) g) ((C.zipIdx 0).foldl (λf (c,j)=>f.setIfInBounds (e+j) c) cells):=by
      refine⟨by rw[I1 n,D.1];exact hrel.1,λj l H=> ?_⟩;have z:((C.zipIdx 0).foldl (λf (c,j)=>f.setIfInBounds (e+j) c) cells)[j]? =some (((C.zipIdx 0).foldl (λf (c,j)=>f.setIfInBounds (e+j) c) cells)[j]):=fS H;rw[D.2 j] at z;rw[(qn n j l).2];by_cases E:e<=j/\j<e+(c::f).length
      ·rw[rG E];rw[aE (by rw[<-L];exact E),bL J] at z;rw[<-cK z];exact bF (j-e) J J
      ·rw[sK E];rw[I1 n] at l;have M:=l;rw[hrel.1] at M;rw[aB (by rw[<-L];exact E),fS M] at z;rw[<-cK z];exact hrel.2 j l M
     obtain⟨G,x,Y,W,N,cv⟩:=v7 O r rv _ _ (by simpa using A) (λj l H=>U (j+1) (iA l) (iA H)) a0 h;refine⟨G,x,?_,W,N,cv.trans D.1⟩;have a5:v.cells.size=K:=by rw[R];simp;omega
     have P: ¬(v.cells.size≠K\/e+v.cells.size>cells.size):=by have:=hrel.1;omega
     have a1:v.cells.zipIdx.foldl (λf (c,j)=>f.setIfInBounds (e+j) c) cells=(C.zipIdx 0).foldl (λf (c,j)=>f.setIfInBounds (e+j) c) cells:=by rw[R];simp
     have a2:(decide (v.cells.size≠K)||decide (e+v.cells.size>cells.size))=false:=by simp only[bT,bH];exact⟨λh=>P (.inl h),λh=>P (.inr h)⟩
     simp only[Instr.fill,a4];rw[aB (by rw[a2];simp),a1];exact Y
    ·cases h
def wz (l:List AV):Nat->List AV
 |0=>[]
 |n+1=>l++wz l n
def S5:List AV->List AV->List AV
 |[],m=>m
 |a::r,m=>a::S5 r m
def VZ (z:List AV):Nat->(List AV->Prop)->Prop
 |0,k=>k []
 |n+1,k=>VZ z n λl=>k (S5 z l)
theorem oy: ∀l m:List AV,S5 l m=l++m
 |[],m=>rfl
 |a::r,m=>by simp[S5,oy r m]
theorem Gr {z:List AV}: ∀{n:Nat} {q:List AV->Prop},VZ z n q->q (wz z n)
 |0,_,h=>h
 |n+1,q,h=>by
  have:=Gr (n:=n) h
  rwa [oy] at this
theorem kh (z:List AV): ∀n,(wz z n).length=n*z.length
 |0=>by simp[wz]
 |n+1=>by simp[wz,kh z n,iC,rO]
theorem Gs (z:List AV): ∀(n j:Nat) (h:j<(wz z n).length) (c:j % z.length<z.length),(wz z n)[j]=z[j % z.length]
 |0,j,h,_=>by simp[wz] at h
 |n+1,j,h,c=>by
  simp only[wz] at h|-;by_cases a:j<z.length
  ·rw[hJ a]
   congr 1
   exact(kD a).symm
  ·rw[kF J];have e:(j-z.length)% z.length=j % z.length:=(Nat.mod_eq_sub_mod J).symm;rw[Gs z n _ _ (by rw[e];exact c)]
   congr 1
def yN (v:Value):List AV:=
 match wu v with
 | .ag l=>l
 |a=>[a]
theorem r7 (v:Value):(yN v).length=v.cells.size/\ ∀(j:Nat) (f:j<(yN v).length) (c:j<v.cells.size),Rep0 F w (yN v)[j] v.cells[j]:=by
 have n: ∀v:Value,(∀l,v≠ .agg l)->yN v=[Gg v]/\v.cells= #[v]:=by
  intro v e;cases v<;>first|exact nT|exact absurd rfl (e _)
 by_cases e: ∃l,v= .agg l
 ·obtain⟨⟨l⟩,rfl⟩:=e;exact⟨(v6 (F:=F) (w:=w) l).1,λj f c=>(v6 (F:=F) (w:=w) l).2 j f c⟩
 ·have a:=n v (λl h=>e ⟨l,h⟩);refine⟨by rw[a.1,a.2];rfl,λj f c=> ?_⟩;have g:=c;rw[a.2] at g;have x:j=0:=by simpa using g
  subst x;have q:(yN v)[0]=Gg v:=by simp[a.1]
  have t:v.cells[0]=v:=by simp[a.2]
  rw[q,t];exact fk v
def kJ (sz:Nat) (a:List AV) (q:Nat):List AV:=(a.drop (q*sz)).take sz
def S6:List Value->Bool
 |[]=>true
 |v::r=>match v.oneCell' with
  |true=>S6 r
  |false=>false
theorem xO: ∀{l:List Value},S6 l=true-> ∀v∈l,v.oneCell'=true
 |[],_,v,h=>jh
 |c::r,a,v,h=>by
  unfold S6 at a;split at a
  ·rename_i e;rcases eF.1 h with rfl|h
   ·exact e
   ·exact xO a v h
  ·cases a
def I5 (T:List (Nat×TI)) (nid t len:Nat) (c:List (Nat×AV)) (k:Eff->Prop):Prop:=
 match lF t T with
 |some g=>(match lW g.desc with
  |some e=>(match lF e T with
   |some a=>(match a.size,S6 a.zero.cells.toList,Nat.ble (len*a.size) 16777216,Nat.beq a.zero.cells.size a.size with
    |m+1,true,true,true=>VZ (yN a.zero) len λz=>ye (λi=>some (i*a.size,a.size)) c z λf=>match AV.lts 0 f with
     |true=>k (.ext [.row e a.size len (kJ (m+1) f)] (.so nid))
     |false=>False
    |_,_,_,_=>False)
   |none=>False)
  |none=>False)
 |none=>False
theorem X3 {T:List (Nat×TI)} (W:iM P T) {t len:Nat} {f:List (Nat×AV)} {vals:Array (Nat×Value)} (a6:f.length=vals.toList.length)
  (eQ: ∀(j:Nat) (A:j<f.length) (C:j<vals.toList.length),f[j].1=vals.toList[j].1/\Rep β nid F w f[j].2 vals.toList[j].2)
  (h:I5 T nid t len f k): ∃x w',(Instr.buildSlice t len vals).run P w= .ok x w'/\rU β nid F lk w k x w':=by
 unfold I5 at h;split at h
 ·rename_i ti A;split at h
  ·rename_i e C;split at h
   ·rename_i a h3;split at h
    ·rename_i m G aT O E;have O:len*a.size<=16777216:=by simpa using O
     have E:a.zero.cells.size=a.size:=(by simpa using E);have h:=Gr h;obtain⟨L,_⟩:=W.get A;obtain⟨_,_,i,hi,K,_,hz⟩:=W.get h3;cases Y:ti.desc<;>simp[lW,Y] at C;rename_i z;subst C;rw[Y] at L;have g:=r7 (F:=F) (w:=w) a.zero
     let c:Array Value:=(Array.range (len*a.size)).map (a.zero.cells[· % a.zero.cells.size]!)
     have bP:A0 β nid F w (wz (yN a.zero) len) c:=by
      refine⟨by simp[c,kh,g.1,E],λj A C=> ?_⟩;have n:j % a.zero.cells.size<a.zero.cells.size:=tZ _ J;have a1:j %(yN a.zero).length<(yN a.zero).length:=by rw[g.1];exact n
      have e2:c[j]=a.zero.cells[j % a.zero.cells.size]:=(by simp[c,n]);rw[Gs _ _ _ A a1,e2];have a7:=g.2 (j % a.zero.cells.size) (by rw[g.1];exact n) n;have e3:(yN a.zero)[j %(yN a.zero).length]=(yN a.zero)[j % a.zero.cells.size]'(by rw[g.1];exact n):=by simp only[g.1]
      rw[e3];exact⟨.pure _ _ a7,xO aT _ jS⟩
     obtain⟨S,cells,D,hrel,H,a0⟩:=v7 (λi=>some (i*a.size,a.size)) f vals.toList _ c a6 eQ bP h;split at H
     ·rename_i aV;have U:cells.size=len*a.size:=by rw[a0];simp[c]
      have hx:(w.alloc (.cells cells z)).ownsRow w.heap.size z a.size (.slice (some ⟨w.heap.size,0,none⟩) len len) len cells.toList:=
       World.ownsRow_lit w cells len (aG _) (by
        have:len<=len*a.size:=wQ _ J;simp only[maxLen];omega) U
      refine⟨.slice (some ⟨w.heap.size,0,none⟩) len len,w.alloc (.cells cells z),?_,_,_,H,.row z a.size len _ _ cells.toList (I0 _ _) (kT.of_owns hx).1 (kT.of_owns hx).2 ?_ ?_⟩
      ·have M: ¬(len*i.size>2^24):=by rw[K];simp;omega
       have a8:(if len*i.size=0 then(#[]:Array Value) else a.zero.cells)=a.zero.cells\/len*i.size=0:=by
        by_cases l:len*i.size=0
        ·exact .inr l
        ·exact .inl (by rw[aB l])
       by_cases l:len*i.size=0
       ·have a5:len=0:=by
         rcases Nat.mul_eq_zero.1 l with h|h
         ·exact h
         ·omega
        subst a5;have a2:c= #[]:=by simp[c]
        rw[a2] at D;simp[Instr.buildSlice,run_underlying L,sizeOf,typeInfo,hi,newRow];rw[K,show(Array.map (λ_=>(default:Value)) (Array.range 0))= #[] from by simp,D];simp
       ·simp[Instr.buildSlice,run_underlying L,sizeOf,typeInfo,hi,hz,zeroValue,newRow,l];rw[K] at M l|-;rw[aB (by simpa using M)];rw[show Instr.fill (λi=>some (i*a.size,a.size)) ((Array.range (len*a.size)).map (a.zero.cells[· % a.zero.cells.size]!)) vals.toList=some cells from D];simp
      ·intro q R;have:q*a.size+a.size<=len*a.size:=by rw[<-iC];exact bU _ R
       have a4:=hrel.1;simp only[kJ,cT,iB,Nat.succ_eq_add_one] at G|-;rw[G] at this U|-;omega
      ·intro q j R Q a3;simp[kJ] at Q;have a4:=hrel.1;have N:=a3;simp at N;have:=hrel.2 (q*a.size+j) J N;have e:(kJ (m+1) S q)[j]'(by simpa [kJ] using Q)=S[q*a.size+j]'J:=by simp[kJ,G]
       rw[e];exact⟨AV.lts_pure aV _ _ (by simpa using this.1),by simpa using this.2⟩
     ·exact H.elim
    ·cases h
   ·cases h
  ·cases h
 ·cases h
def X4 (T:List (Nat×TI)) (d:TypeDesc) (i:Nat):Option (Nat×Nat):=
 match R7 d i with
 |some a=>(match lF a.type T with
  |some c=>some (a.offset,c.size)
  |none=>none)
 |none=>none
def X5 (T:List (Nat×TI)):List Field->Bool
 |[]=>true
 |f::r=>match lF f.type T with
  |some _=>X5 T r
  |none=>false
def X6:TypeDesc->List Field
 | .struct fs=>fs.toList
 |_=>[]
def yf:TypeDesc->Bool
 | .struct _=>true
 |_=>false
def UD (T:List (Nat×TI)):TypeDesc->Option Nat
 | .array _ e=>(match lF e T with
  |some a=>some a.size
  |none=>none)
 |_=>none
def Ni (T:List (Nat×TI)) (t:Nat) (c:List (Nat×AV)) (k:Eff->Prop):Prop:=
 match lF t T with
 |some a=>(match yf a.desc,X5 T (X6 a.desc),S6 a.zero.cells.toList with
  |true,true,true=>ye (X4 T a.desc) c (yN a.zero) λe=>k (.ext [] (.ag e))
  |_,_,true=>(match UD T a.desc with
   |some s=>ye (λi=>some (i*s,s)) c (yN a.zero) λe=>k (.ext [] (.ag e))
   |none=>False)
  |_,_,_=>False)
 |none=>False
theorem X7 {T:List (Nat×TI)}: ∀{l:List Field},X5 T l=true-> ∀f∈l,∃e,lF f.type T=some e
 |[],_,f,h=>jh
 |c::r,a,f,h=>by
  unfold X5 at a;split at a
  ·rename_i e g;rcases eF.1 h with rfl|h
   ·exact⟨e,g⟩
   ·exact X7 a f h
  ·cases a
theorem X8 {α c:Type} (f:α->Sem c) (g:α->c): ∀l:List α,(∀x∈l,(f x).run P w= .ok (g x) w)->(l.mapM f).run P w= .ok (l.map g) w
 |[],_=>rfl
 |a::r,h=>by rw[List.mapM_cons];simp[h a jS,X8 f g r (λx e=>h x (by simp[e]))]
theorem xa {α a:Type} (f:α->Sem a) (g:α->a) (l:Array α) (h: ∀x∈l,(f x).run P w= .ok (g x) w):(l.mapM f).run P w= .ok (l.map g) w:=by rw[vH];have:=X8 (P:=P) (w:=w) f g l.toList (λx c=>h x (by simpa using c));have e:(List.map g l.toList).toArray=Array.map g l:=C0 jS;simp only[Sem.run_map,this,Result.andThen_ok,e]
theorem Bv {T:List (Nat×TI)} (H:iM P T) {t:Nat} {q:List (Nat×AV)} {vals:Array (Nat×Value)} (D:q.length=vals.toList.length)
  (Y: ∀(j:Nat) (h1:j<q.length) (h2:j<vals.toList.length),q[j].1=vals.toList[j].1/\Rep β nid F w q[j].2 vals.toList[j].2)
  (h:Ni T t q k): ∃x,(∀w',(Instr.build t vals).run P w'= .ok x w')/\ ∃r,k (.ext [] r)/\Rep β nid F w r x:=by
 unfold Ni at h;split at h
 ·rename_i a h1;split at h
  ·rename_i a2 N O;obtain⟨C,_,i,R,_,_,W⟩:=H.get h1;cases K:a.desc<;>simp[yf,K] at a2;rename_i fs;rw[K] at C h N;simp only[X6] at N;have A:=r7 (F:=F) (w:=w) a.zero;have Q:A0 β nid F w (yN a.zero) a.zero.cells:=
    ⟨A.1,λj h1 h2=>⟨.pure _ _ (A.2 j h1 h2),xO O _ jS⟩⟩
   let g:Field->Nat×Nat:=λf=>(f.offset,((lF f.type T).map (·.size)).getD 0)
   have a1: ∀i o s,X4 T (.struct fs) i=some (o,s)->(fs.map g)[i]? =some (o,s):=by
    intro i o s h;unfold X4 at h;split at h
    ·rename_i a3 L;simp only[R7] at L;split at h
     ·rename_i ft G;simp only[dT,iF] at h;simp[L,g,G,h]
     ·cases h
    ·cases h
   have a0: ∀(M:List (Nat×Value)) (c E:Array Value),Instr.fill (X4 T (.struct fs)) c M=some E->Instr.fill ((fs.map g)[·]?) c M=some E:=by
    intro M
    induction M with
    |nil=>intro c E h;simpa [Instr.fill] using h
    |cons p r ih=>
     intro c E h;obtain⟨i,v⟩:=p;simp only[Instr.fill] at h|-;split at h
     ·cases h
     ·rename_i o s D;rw[a1 _ _ _ D];simp only;split at h
      ·cases h
      ·rename_i dh;rw[aB dh];exact ih _ _ h
   obtain⟨az,cells,z,hrel,U,_⟩:=v7 _ q vals.toList _ a.zero.cells D Y Q h;have z:=a0 _ _ _ z;refine⟨.agg cells,λw'=> ?_,_,U,?_⟩
   ·have hm:=xa (P:=P) (w:=w') (λf:Field=>do pure (f.offset,<-sizeOf f.type)) g fs (λf L=>by
     obtain⟨ft,G⟩:=X7 N f (by simpa using L);obtain⟨_,_,j,S,l,_⟩:=H.get G;simp[sizeOf,typeInfo,S,l,g,G])
    simp only[Instr.build,Sem.run_bind,zeroValue,typeInfo,run_program,Result.andThen_ok,R,Sem.run_pure,W,run_underlying C,hm,z]
   ·exact my
  ·rename_i O _;split at h
   ·rename_i s l;obtain⟨C,_,i,R,_,_,W⟩:=H.get h1;have A:=r7 (F:=F) (w:=w) a.zero;have Q:A0 β nid F w (yN a.zero) a.zero.cells:=
     ⟨A.1,λj h1 h2=>⟨.pure _ _ (A.2 j h1 h2),xO O _ jS⟩⟩
    unfold UD at l;split at l
    ·rename_i n e K;split at l
     ·rename_i ei he;cases l;rw[K] at C;obtain⟨_,_,j,S,ep,_⟩:=H.get he;obtain⟨az,cells,z,hrel,U,_⟩:=v7 _ q vals.toList _ a.zero.cells D Y Q h;refine⟨.agg cells,λw'=> ?_,_,U,?_⟩
      ·simp only[Instr.build,Sem.run_bind,zeroValue,sizeOf,typeInfo,run_program,Result.andThen_ok,R,Sem.run_pure,W,run_underlying C,S,ep,z]
      ·exact my
     ·cases l
    ·cases l
   ·cases h
  ·cases h
 ·cases h
def S7 (f:Option Prop) (T:List (Nat×TI)) (nid t:Nat) (a b:AV) (k:Eff->Prop):Prop:=
 match lF t T,a,b with
 |some g,.i _ n,.i _ m=>(match lW g.desc with
  |some e=>(match lF e T with
   |some c=>(match c.size,S6 c.zero.cells.toList,Nat.beq c.zero.cells.size c.size,c.bytes with
    |_+1,true,true,_+1=>ob f (n=m/\0<=n/\c.bytes*n.toNat<=140737488355328) (k (.ext [.row e c.size n.toNat (λ_=>yN c.zero)] (.so nid)))
    |_,_,_,_=>False)
   |none=>False)
  |none=>False)
 |_,_,_=>False
theorem ga {K:Option Prop} (W: ∀c,K=some c->c) {T:List (Nat×TI)} (M:iM P T) {t:Nat} {a b:AV} {u v:Value} (hu:Rep β nid F w a u) (hv:Rep β nid F w b v)
  (h:S7 K T nid t a b k): ∃x w',(Instr.makeSlice t u v).run P w= .ok x w'/\rU β nid F lk w k x w':=by
 unfold S7 at h;split at h
 ·rename_i ti j n j' m h1;obtain rfl:=hu.i_inv;obtain rfl:=hv.i_inv;split at h
  ·rename_i e L;split at h
   ·rename_i f h3;split at h
    ·rename_i sz a0 a3 U A a2
     have A:f.zero.cells.size=f.size:=(by simpa using A);have S:=kS h W;clear h;obtain⟨⟨rfl,R,Y⟩,h⟩:=S;obtain⟨G,_⟩:=M.get h1;obtain⟨_,_,i,hi,hs,hb,hz⟩:=M.get h3;cases N:ti.desc<;>simp[lW,N] at L;rename_i H;subst L;rw[N] at G;obtain⟨q,rfl⟩:=fM R;simp only[aQ] at h Y;have hq:q<=f.bytes*q:=Nat.le_mul_of_pos_left _ J;obtain⟨w',D,O,l⟩:=run_make_full (P:=P) w w.heap.size t H i f.zero f.size G hi hz hs j j' q (by rw[hb];omega) (by simp only[maxLen];omega) (aG _);have C:=r7 (F:=F) (w:=w) f.zero;refine⟨_,w',D,_,_,h,.row H f.size q _ _ _ ⟨⟨l.os,l.tape,l.output,l.size,λg Q=>l.block g Q jS⟩,M4 _ D⟩ (kT.of_owns O).1 (kT.of_owns O).2 ?_ ?_⟩
     ·intro _ _;rw[C.1,A]
     ·intro r c hr E a1;have z:c<f.zero.cells.size:=by rw[<-C.1];exact E
      have dA:(r*f.size+c)% f.zero.cells.size=c:=by rw[A] at z|-;rw[iR,vD];exact kD z
      have e:((madeCells f.zero.cells (q*f.size)).toList)[r*f.size+c]'a1=f.zero.cells[c]:=(by simp[madeCells,dA,z]);rw[e];exact⟨C.2 c E z,xO U _ jS⟩
    ·cases h
   ·cases h
  ·cases h
 ·cases h
end
section
variable {P : Program} {β : Bd} {nid : Nat} {F : Nat -> Prop} {w : World} {lk : Nat -> Option AO} {k : Eff -> Prop}
def iJ (n:Nat) (g h:Nat->List AV):Nat->List AV:=λq=>if q<n then g q else h (q-n)
def Nj (lk:Nat->Option AO) (x:AV) (sz:Nat) (k:Nat->(Nat->List AV)->Prop):Prop:=
 match x with
 | .rs a n get=>(match Nat.beq a sz with
  |true=>k n get
  |false=>False)
 | .so id=>(match lk id with
  |some (.row _ a n get)=>(match Nat.beq a sz with
   |true=>k n get
   |false=>False)
  |_=>False)
 | .sv id a e n=>(match lk id with
  |some (.row _ c _ get)=>(match Nat.beq a sz,Nat.beq c sz with
   |true,true=>k n (λq=>get (e+q))
   |_,_=>False)
  |_=>False)
 | .val v=>(match m5 v with
  |true=>k 0 (λ_=>[])
  |false=>False)
 |_=>False
structure Src (F:Nat->Prop) (w:World) (v:Value) (sz n:Nat) (get:Nat->List AV) (news:List Value):Prop where
 len:news.length=n*sz
 one: ∀u∈news,u.oneCell'=true
 glen: ∀k,k<n->(get k).length=sz
 rep: ∀(k j:Nat) (_:k<n) (h1:j<(get k).length) (h2:k*sz+j<news.length),Rep0 F w (get k)[j] news[k*sz+j]
 val:(v= .slice none 0 0/\n=0)\/ ∃a c,v= .slice (some a) n c/\n<=maxLen/\ ∀j u,news[j]? =some u->w.cell? (a.add j)=some u
theorem NU {e:TypeId} {sz:Nat} {v:Value} {n:Nat} {xs:List Value} (t:kT w e sz v n xs):
  (v= .slice none 0 0/\n=0)\/ ∃a c,v= .slice (some a) n c/\n<=maxLen/\ ∀j u,xs[j]? =some u->w.cell? (a.add j)=some u:=by
 rcases t.2 with h|⟨a,f,A⟩|⟨g,o,F,G,f,N,L,H,K,C⟩
 ·exact .inl h
 ·subst A;exact .inr ⟨a,0,f,bI _,λj u q=>by have l:=t.1;have:=(bM.1 q).1;omega⟩
 ·refine .inr ⟨_,_,f,J,λj u q=> ?_⟩;have x:0<xs.length:=by have:=(bM.1 q).1;omega
  obtain⟨M,O,D,E,l,_,_,_,_,_,z⟩:=t.cells x;rw[f] at l;simp only[Value.slice.injEq,dT,Addr.mk.injEq] at l;obtain⟨⟨rfl,rfl,_⟩,_⟩:=l;rw[Addr.add_lit];exact z _ _ q
theorem r8 (E:Env β nid F w lk) {x:AV} {v:Value} {sz:Nat} {q:Nat->(Nat->List AV)->Prop} (S:0<sz) (U:Rep β nid F w x v) (h:Nj lk x sz q):
  ∃n get news,q n get/\Src F w v sz n get news:=by
 unfold Nj at h;split at h
 ·rename_i f n get;split at h
  ·rename_i D;have D:f=sz:=by simpa using D
   subst D;have C:=U.rs_inv;cases C with
   |rsnil=>exact⟨0,get,[],h,jS,jS,λk A=>J,λk j A=>J,.inl nT⟩
   |rsz _ _ a=>exact⟨0,get,[],h,jS,jS,λk A=>J,λk j A=>J,.inr ⟨a,0,rfl,bI _,λj u z=>by simp at z⟩⟩
   |rs _ _ _ g o c vs hn hm hF hg K P l hr=>
    have a3: ∀j,j<n*f->j/f<n/\j % f<f/\j/f*f+j % f=j:=λj hj=>
     ⟨Pf (by rwa [iR]),tZ _ S,by rw[iR];exact vG _ _⟩
    refine⟨n,get,(List.range (n*f)).map λj=>vs (j/f) (j % f),h,jS,?_,K,?_,.inr ⟨⟨g,o,none⟩,c,rfl,cO hn hm,?_⟩⟩
    ·intro u z;obtain⟨j,hj,rfl⟩:=fL.1 z;have:=a3 j jT;exact l _ _ this.1 this.2.1
    ·intro k j A a0 b5;have hj:j<f:=by rw[<-K k A];exact a0
     have e1:(k*f+j)/f=k:=(by rw[iR,Nat.mul_add_div S,q5 hj,iL]);have e2:(k*f+j)% f=j:=by rw[iR,vD];exact kD hj
     simp only[iO,oF,e1,e2];exact hr k j A a0
    ·intro j u z;obtain⟨hj,z⟩:=bM.1 z;simp at hj;obtain⟨Q,k2,k3⟩:=a3 j hj;simp only[iO,oF] at z;rw[Addr.add_lit,<-z,<-P _ _ Q k2,fT,k3]
  ·cases h
 ·rename_i id;split at h
  ·rename_i e f n get Y;split at h
   ·rename_i D;have D:f=sz:=by simpa using D
    subst D;obtain⟨a7,rfl⟩:=U.so_inv;obtain⟨_,O,G,K,P⟩:=E.obj id _ Y;refine⟨n,get,O,h,G.1,?_,K,λk j A l R=>(P k j A l R).1,?_⟩
    ·intro u z;obtain⟨j,hj,rfl⟩:=cU z;have a8:j<n*f:=by rw[<-G.1];exact hj
     have Q:j/f<n:=Pf (by rwa [iR]);have k2:j % f<f:=tZ _ S;have k3:j/f*f+j % f=j:=by rw[iR];exact vG _ _
     have:=(P (j/f) (j % f) Q (by rw[K _ Q];exact k2) (by rw[k3];exact hj)).2;simpa only[k3] using this
    ·exact NU G
   ·cases h
  ·cases h
 ·rename_i id f H n;split at h
  ·rename_i e t N get Y;split at h
   ·rename_i D df;have D:f=sz:=by simpa using D
    have df:t=sz:=(by simpa using df);subst D;subst df;obtain⟨a7,W⟩:=U.sv_inv;obtain⟨_,O,G,K,P⟩:=E.obj id _ Y;have hN:H+n<=N\/n=0:=by
     rcases W with ⟨_,M,_⟩|⟨_,_,M,_⟩|⟨g,o,m,c,L,ai,a1,_⟩
     ·exact .inr M
     ·exact .inr M
     ·rcases G.2 with ⟨l,_⟩|⟨a,l,h0⟩|⟨g',o',a5,a6,l,_⟩
      ·rw[L] at l;cases l
      ·rw[L] at l;simp only[Value.slice.injEq] at l;left;omega
      ·rw[L] at l;simp only[Value.slice.injEq] at l;left;omega
    rcases hN with hN|M
    ·have aD: ∀k,k<n->(H+k)*t+t<=O.length:=λk A=>by rw[G.1,<-iC];exact bU _ J
     have a2:((O.drop (H*t)).take (n*t)).length=n*t:=by have:(H+n)*t<=N*t:=bU _ hN;rw[fV] at this;have:=G.1;simp;omega
     refine⟨n,_,(O.drop (H*t)).take (n*t),h,a2,?_,λk A=>K (H+k) J,?_,?_⟩
     ·intro u z;have z:u∈O:=uE (Cp z);obtain⟨j,hj,rfl⟩:=cU z;have a8:j<N*t:=by rw[<-G.1];exact hj
      have Q:j/t<N:=Pf (by rwa [iR]);have k2:j % t<t:=tZ _ S;have k3:j/t*t+j % t=j:=by rw[iR];exact vG _ _
      have:=(P (j/t) (j % t) Q (by rw[K _ Q];exact k2) (by rw[k3];exact hj)).2;simpa only[k3] using this
     ·intro k j A l R;have hj:j<t:=by rw[K _ (show H+k<N by omega)] at l;exact l
      have:=aD k A;have:=(P (H+k) j J l J).1;have e:((O.drop (H*t)).take (n*t))[k*t+j]=O[(H+k)*t+j]'(by have:=aD k A;omega):=by
       simp only[pZ,wT]
       congr 1
       rw[fV];omega
      rw[e];exact this
     ·rcases W with ⟨C,M,_⟩|⟨a,C,M,_⟩|⟨g,o,m,c,L,ai,a1,C⟩
      ·exact .inl ⟨C,M⟩
      ·obtain⟨ab,ao,b4⟩:=a;subst M;exact .inr ⟨_,0,C,bI _,λj u z=>by simp at z⟩
      ·rcases G.2 with ⟨l,_⟩|⟨a,l,h0⟩|⟨g',o',a5,a6,l,hh,b8,b6,b7,b0⟩
       ·rw[L] at l;cases l
       ·rw[L] at l;simp only[Value.slice.injEq] at l;omega
       ·rw[L] at l;simp only[Value.slice.injEq,dT,Addr.mk.injEq] at l;obtain⟨⟨rfl,rfl,_⟩,rfl,rfl⟩:=l;refine .inr ⟨_,_,C,J,λj u z=> ?_⟩;have a9:j<n*t:=by have:=(bM.1 z).1;rw[a2] at this;exact this
        rw[dZ,aE a9,eE] at z;have a4:0<O.length:=by have:=(bM.1 z).1;omega
        obtain⟨g2,o2,b1,b3,R,_,_,_,_,_,aI⟩:=G.cells a4;rw[L] at R;simp only[Value.slice.injEq,dT,Addr.mk.injEq] at R;obtain⟨⟨rfl,rfl,_⟩,_⟩:=R;have:=aI _ _ z;rw[Addr.add_lit,fT];exact this
    ·subst M;refine⟨0,_,[],h,jS,jS,λk A=>J,λk j A=>J,?_⟩;rcases W with ⟨C,_,_⟩|⟨a,C,_,_⟩|⟨g,o,m,c,L,ai,a1,C⟩
     ·exact .inl ⟨C,rfl⟩
     ·exact .inr ⟨a,0,C,bI _,λj u z=>by simp at z⟩
     ·exact .inr ⟨_,_,C,bI _,λj u z=>by simp at z⟩
   ·cases h
  ·cases h
 ·rename_i v';obtain rfl:=U.val_inv;split at h
  ·rename_i hn;exact⟨0,_,[],h,jS,jS,λk A=>J,λk j A=>J,.inl ⟨iX hn,rfl⟩⟩
  ·cases h
 ·cases h
theorem G0 {t e:TypeId} (g:TypeId) {i:TypeInfo} (f:P.underlying t=some (.slice e)) (hi:P.info? e=some i) (b:Option Addr) (n c:Nat) (a:n<=c):
  (Builtin.append_ #[t,t] g #[.slice b n c,.slice none 0 0]).run P w= .ok (.slice b n c) w:=by
 cases b<;>simp[Builtin.append_,run_underlying f,sizeOf,typeInfo,hi,Builtin.lenOf,Builtin.firstCells,a,storeCells]
theorem G1 {t e:TypeId} (q:TypeId) {i:TypeInfo} (h:P.underlying t=some (.slice e)) (hi:P.info? e=some i) (b:Option Addr) (n c:Nat) (g:n<=c) (a:Addr) (c':Nat):
  (Builtin.append_ #[t,t] q #[.slice b n c,.slice (some a) 0 c']).run P w= .ok (.slice b n c) w:=by
 have f:=run_firstCells_some (P:=P) w i.size 0 a 0 c' [] jS (λj u l=>by simp at l);cases b<;>simp[Builtin.append_,run_underlying h,sizeOf,typeInfo,hi,Builtin.lenOf,g,f,storeCells]
theorem G2 {t e:TypeId} (E:TypeId) {i:TypeInfo} (D:P.underlying t=some (.slice e)) (hi:P.info? e=some i) {g off n c m c':Nat} {a:Addr} {news:List Value} {f:Array Value}
  (A:w.heap[g]? =some (.cells f e (0,0))) (C:news.length=m*i.size) (z: ∀j u,news[j]? =some u->w.cell? (a.add j)=some u) (x: ∀u∈news,u.oneCell'=true) (k:n+m<=c) (q:off+n*i.size+news.length<=f.size):
  (Builtin.append_ #[t,t] E #[.slice (some ⟨g,off,none⟩) n c,.slice (some a) m c']).run P w=
   .ok (.slice (some ⟨g,off,none⟩) (n+m) c) (w.setRow g (f.toList.take (off+n*i.size)++news++f.toList.drop (off+n*i.size+news.length)).toArray):=by
 have l:=run_firstCells_some (P:=P) w i.size m a m c' news C z;have h:=run_storeCells_at P g (off+n*i.size) e news 0 f w A (by simpa using q) x;simp only[iL] at h;simp[Builtin.append_,run_underlying D,sizeOf,typeInfo,hi,Builtin.lenOf,k,l,Addr.add_lit,h]
theorem S8 {t e:TypeId} (K:TypeId) {i:TypeInfo} {z:Value} (M:P.underlying t=some (.slice e)) (hi:P.info? e=some i) (hz:i.zero=some z) (a1:z.cells.size=i.size) (a0:0<i.size) (a8:0<i.bytes)
  {v:Value} {n:Nat} {xs:List Value} (A:kT w e i.size v n xs) {x:Value} {m:Nat} {get:Nat->List AV} {news:List Value} (D:Src F w x i.size m get news)
  (au:(n+m)*i.bytes<=140737488355328):
  ∃f w',(Builtin.append_ #[t,t] K #[v,x]).run P w= .ok f w'/\kT w' e i.size f (n+m) (xs++news)/\GrownBy w w' (kI v)/\
   (kI f=kI v\/ ∀g,kI f=some g->w.heap.size<=g):=by
 have b7:n+m<=(n+m)*i.bytes:=wQ _ a8;have a7:(∃b c,v= .slice b n c/\n<=c):=by
  rcases A.2 with ⟨rfl,rfl⟩|⟨a,rfl,rfl⟩|⟨g,o,l,Q,rfl,_,L,_⟩
  ·exact⟨_,_,rfl,aG _⟩
  ·exact⟨_,_,rfl,aG _⟩
  ·exact⟨_,_,rfl,L⟩
 have refl: ∀o,GrownBy w w o:=λo=>qG;have ck:m=0->news=[]:=λh=>fA (by rw[D.len,h];simp);by_cases W:m=0
 ·have b0:=ck W;subst W;subst b0;obtain⟨b,c,rfl,L⟩:=a7;rcases D.val with ⟨rfl,_⟩|⟨a,c',rfl,_,_⟩
  ·exact⟨_,w,G0 K M hi b n c L,by simpa using A,refl _,.inl rfl⟩
  ·exact⟨_,w,G1 K M hi b n c L a c',by simpa using A,refl _,.inl rfl⟩
 ·rcases D.val with ⟨_,h0⟩|⟨a,c,rfl,_,R⟩
  ·exact absurd h0 W
  ·have Y: ∀(b:Addr) (l:Nat),v= .slice (some b) n l->l<n+m->(∀j u,xs[j]? =some u->w.cell? (b.add j)=some u)-> ∃f w',(Builtin.append_ #[t,t] K #[v,.slice (some a) m c]).run P w= .ok f w'/\
     kT w' e i.size f (n+m) (xs++news)/\GrownBy w w' (kI v)/\(kI f=kI v\/ ∀g,kI f=some g->w.heap.size<=g):=by
    rintro b l rfl a4 holds;obtain⟨f,w',E,S,H⟩:=run_append_arg_grows (P:=P) w t K e i z i.size i.bytes M hi hz rfl rfl a1 a0 b n l xs A.1 holds a m c news D.len R a4 (by simp only[maxLen];omega) au;obtain⟨G,C⟩:=kT.of_owns S;exact⟨f,w',E,G,⟨⟨H.os,H.tape,H.output,H.size,λk hk _=>H.block k hk jS⟩,M4 _ E⟩,.inr C⟩
   rcases A.2 with ⟨rfl,rfl⟩|⟨b,rfl,rfl⟩|⟨g,o,l,Q,rfl,hh,L,a9,b6,a3⟩
   ·have U:xs=[]:=fA (by rw[A.1];simp);subst U;obtain⟨f,w',E,S,H,_⟩:=run_append_own (P:=P) w w.heap.size t K e i z i.size i.bytes M hi hz rfl rfl a1 a0 _ 0 [] (World.ownsRow_nil w _ e i.size) a m c news D.len R D.one (by simp only[maxLen];omega) au (aG _);obtain⟨G,C⟩:=kT.of_owns S;exact⟨f,w',E,G,⟨H,M4 _ E⟩,.inr C⟩
   ·have U:xs=[]:=fA (by rw[A.1];simp);exact Y b 0 rfl J (λj u N=>by rw[U] at N;simp at N)
   ·by_cases O:n+m<=l+1
    ·have bg:(n+m)*i.size<=(l+1)*i.size:=bU _ O;rw[fV] at bg;have b3:=A.1;have b1:=D.len;have ak:o+n*i.size+news.length<=Q.size:=J
     have E:=G2 (w:=w) K M hi (c:=l+1) (c':=c) hh D.len R D.one O ak;refine⟨_,_,E,⟨by rw[bD,b3,b1,fV],.inr (.inr ⟨g,o,l,_,rfl,setRow_heap w _ _ _ _ _ hh,O,a9,?_,?_⟩)⟩,rV _ _ _,.inl rfl⟩
     ·simp;omega
     ·apply lB;intro q;simp only;rw[dZ,eE,R9 (by simpa using ak),List.getElem?_append,<-a3];simp only[cT,iB,dZ,eE];have a5:min (n*i.size) (Q.toList.length-o)=n*i.size:=jO
      rw[a5,fV];by_cases G:q<n*i.size
      ·rw[aE J,aE J,aE G,aE G]
      ·rw[aB G];by_cases C:q<n*i.size+m*i.size
       ·rw[aE C,aB J,aE J]
        congr 1
        omega
       ·rw[aB C,eY J]
    ·refine Y _ (l+1) rfl J λj u N=> ?_;have a6:0<xs.length:=by have:=(bM.1 N).1;omega
     obtain⟨g2,o2,b4,b5,C,_,_,_,_,_,a2⟩:=A.cells a6;simp only[Value.slice.injEq,dT,Addr.mk.injEq] at C;obtain⟨⟨rfl,rfl,_⟩,_⟩:=C;rw[Addr.add_lit];exact a2 _ _ N
def Bw (g:Option Prop) (T:List (Nat×TI)) (lk:Nat->Option AO) (nid t:Nat) (s x:AV) (k:Eff->Prop):Prop:=
 match lF t T with
 |some z=>(match lW z.desc with
  |some e=>(match lF e T with
   |some a=>(match a.size,a.bytes,Nat.beq a.zero.cells.size a.size with
    |_+1,_+1,true=>(match s with
     | .so id=>(match lk id with
      |some (.row f j n get)=>(match Nat.beq f e,Nat.beq j a.size with
       |true,true=>Nj lk x a.size λm c=>ob g ((n+m)*a.bytes<=140737488355328) (k (.app id (.row e a.size (n+m) (iJ n get c)) (.so nid)))
       |_,_=>False)
      |_=>False)
     | .sv id j w h=>(match lk id with
      |some (.row f l _n get)=>(match Nat.beq f e,Nat.beq l a.size,Nat.beq j a.size with
       |true,true,true=>Nj lk x a.size λm c=>ob g ((h+m)*a.bytes<=140737488355328) (k (.app id (.row e a.size (h+m) (iJ h (λq=>get (w+q)) c)) (.so nid)))
       |_,_,_=>False)
      |_=>False)
     | .val v=>(match m5 v with
      |true=>Nj lk x a.size λm c=>ob g (m*a.bytes<=140737488355328) (k (.ext [.row e a.size m c] (.so nid)))
      |false=>False)
     |_=>False)
    |_,_,_=>False)
   |none=>False)
  |none=>False)
 |none=>False
theorem NV {w:World} {e:TypeId} {sz:Nat} {b:Value} {n:Nat} {xs:List Value} (N:kT w e sz b n xs) {lo l:Nat} {u:Value} (G:aH9 b sz lo l u):
  ∃x,kT w e sz u l x/\(∀j,j<x.length->x[j]? =xs[lo*sz+j]?)/\(0<l->lo+l<=n)/\(kI u=kI b\/kI u=none):=by
 rcases G with ⟨rfl,q,t⟩|⟨C,rfl,q,_⟩|⟨g,o,m,c,t,R,z,rfl⟩
 ·exact⟨[],⟨by simp[q],.inl ⟨rfl,q⟩⟩,λj h=>jh,λh=>J,.inr rfl⟩
 ·exact⟨[],⟨by simp[q],.inr (.inl ⟨C,rfl,q⟩)⟩,λj h=>jh,λh=>J,.inr rfl⟩
 ·rcases N.2 with ⟨a,_⟩|⟨C,a,_⟩|⟨Y,Q,f,A,a,L,F,O,P,E⟩
  ·rw[t] at a;cases a
  ·rw[t] at a;cases a;omega
  ·rw[t] at a;simp only[Value.slice.injEq,dT,Addr.mk.injEq] at a;obtain⟨⟨rfl,rfl,_⟩,rfl,rfl⟩:=a;have H:(lo+(f+1-lo))*sz=lo*sz+(f+1-lo)*sz:=fV _ _ _;have S:(lo+l)*sz=lo*sz+l*sz:=fV _ _ _;have K:lo+(f+1-lo)=f+1:=J
   rw[K] at H;have U:(lo+l)*sz<=m*sz:=bU _ z;have W:m*sz<=(f+1)*sz:=bU _ F;have D:f+1-lo=(f-lo)+1:=J
   refine⟨(A.toList.drop (o+lo*sz)).take (l*sz),⟨?_,.inr (.inr ⟨g,o+lo*sz,f-lo,A,?_,L,J,J,?_,rfl⟩)⟩,λj M=> ?_,λ_=>z,.inl ?_⟩
   ·simp;omega
   ·congr 1
   ·rw[<-D];omega
   ·simp only[cT,iB] at M;rw[<-E,dZ,dZ,aE J,aE J,eE,eE]
    congr 1
    omega
   ·rw[t,D];rfl
theorem Nk (E:Env β nid F w lk) {t e:TypeId} (ty:TypeId) {i:TypeInfo} {z0:Value} (aF:P.underlying t=some (.slice e)) (hi:P.info? e=some i) (hz:i.zero=some z0) (a6:z0.cells.size=i.size) (a5:0<i.size) (a4:0<i.bytes)
  {id n a m:Nat} {get T0 x:Nat->List AV} {u v:Value} {xs news:List Value} (ae:lk id=some (.row e i.size n get)) (hx:kT w e i.size u a xs) (U:kI u=kI (β.val id)\/kI u=none)
  (a0: ∀k,k<a->(T0 k).length=i.size) (hc: ∀(k j:Nat) (_:k<a) (f:j<(T0 k).length) (N:k*i.size+j<xs.length),Rep0 F w (T0 k)[j] xs[k*i.size+j]/\xs[k*i.size+j].oneCell'=true)
  (D:Src F w v i.size m x news) (au:(a+m)*i.bytes<=140737488355328) (h:k (.app id (.row e i.size (a+m) (iJ a T0 x)) (.so nid))):
  ∃z w',(Builtin.append_ #[t,t] ty #[u,v]).run P w= .ok z w'/\rU β nid F lk w k z w':=by
 obtain⟨C,w',a3,aJ,l,Q⟩:=S8 (P:=P) ty aF hi hz a6 a5 a4 hx D au;have H:(β.valAt nid C).val nid=C:=by simp[Bd.valAt]
 have Y: ∀g,kI u=some g->F g:=λg c=>by
  rcases U with f|f
  ·exact E.own id _ g ae (by simp only[dG];rw[<-f];exact c)
  ·rw[f] at c;cases c
 have hold: ∀g,g<w.heap.size-> ¬F g->w'.heap[g]? =w.heap[g]? :=λg c M=>l.block g c (λe=>M (Y g e.symm));have a1: ∀g,g<w.heap.size-> ¬F g-> ¬FX F (β.valAt nid C) nid [.row e i.size (a+m) (iJ a T0 x)] g:=by
  rintro g c M (hf|⟨j,o,L,W⟩)
  ·exact M hf
  ·cases j with
   |succ j=>simp at L
   |zero=>
    simp at L;subst L;simp[dG,H] at W;rcases Q with O|O
    ·exact M (Y g (by rw[<-O];exact W))
    ·have:=O g W;omega
 have a2:GrownBy w w' (NL β id (.row e i.size n get)):=by
  rcases U with f|f
  ·simp only[NL];rw[<-f];exact l
  ·exact⟨⟨l.os,l.tape,l.output,l.size,λg c M=>l.block g c (by rw[f];exact λh=>jC)⟩,l.drawn⟩
 refine⟨C,w',a3,_,β.valAt nid C,h,lT _ _ _,_,ae,a2,?_,⟨xs++news,by rw[H];exact aJ,?_,?_⟩,?_⟩
 ·simp only[dG,H];rcases U with f|f
  ·rw[<-f];exact Q.imp (λh=>by rw[h]) λh=>h
  ·right;intro g c;rcases Q with N|N
   ·rw[N,f] at c;cases c
   ·exact N g c
 ·intro q hq;simp only[iJ];split
  ·exact a0 q jA
  ·exact D.glen (q-a) J
 ·intro q j hq A a7;have a8:=hx.1;by_cases G:q<a
  ·have S:iJ a T0 x q=T0 q:=(by simp[iJ,G]);simp only[S] at A|-;have L:j<i.size:=by rw[<-a0 q G];exact A
   have:q*i.size+i.size<=a*i.size:=by rw[<-iC];exact bU _ G
   have K:q*i.size+j<xs.length:=J;rw[hJ K];exact⟨((hc q j G A K).1.stable a1 hold l.size),(hc q j G A K).2⟩
  ·have S:iJ a T0 x q=x (q-a):=(by simp[iJ,G]);simp only[S] at A|-;have R:q-a<m:=J
   have L:j<i.size:=by rw[<-D.glen _ R];exact A
   have e2:(q-a)*i.size=q*i.size-a*i.size:=g5 _ _ _;have e3:a*i.size<=q*i.size:=bU _ J;have K:(q-a)*i.size+j<news.length:=by
    rw[D.len];have:(q-a)*i.size+i.size<=m*i.size:=by rw[<-iC];exact bU _ R
    omega
   rw[kF J];have e4:q*i.size+j-xs.length=(q-a)*i.size+j:=J
   simp only[e4];exact⟨(D.rep _ j R A K).stable a1 hold l.size,D.one _ (fN _)⟩
 ·have hp:=Rep.so (β:=β.valAt nid C) (n:=nid+1) (F:=FX F (β.valAt nid C) nid [.row e i.size (a+m) (iJ a T0 x)]) (w:=w') nid J (by rw[H];exact aJ.one);rw[H] at hp;exact hp
theorem Nl (E:Env β nid F w lk) {t e:TypeId} (G:TypeId) {i:TypeInfo} {z0:Value} (R:P.underlying t=some (.slice e)) (hi:P.info? e=some i) (hz:i.zero=some z0) (Q:z0.cells.size=i.size) (N:0<i.size) (L:0<i.bytes)
  {id lo n c m:Nat} {get f:Nat->List AV} {u v:Value} {news:List Value} (x:lk id=some (.row e i.size n get)) (M:aH9 (β.val id) i.size lo c u)
  (H:Src F w v i.size m f news) (S:(c+m)*i.bytes<=140737488355328) (h:k (.app id (.row e i.size (c+m) (iJ c (λq=>get (lo+q)) f)) (.so nid))):
  ∃z w',(Builtin.append_ #[t,t] G #[u,v]).run P w= .ok z w'/\rU β nid F lk w k z w':=by
 obtain⟨_,xs,D,g,hc⟩:=E.obj id _ x;obtain⟨ys,hy,O,l,W⟩:=NV D M;refine Nk E G R hi hz Q N L x hy W (λq hq=>g _ (by have:=l J;omega)) (λq j hq Y A=> ?_) H S h;have a0:=l J;have a:=O _ A;have hl:=g (lo+q) J;have K:j<(get (lo+q)).length:=Y;have C:(lo+q)*i.size+j<xs.length:=by
  rw[D.1]
  calc (lo+q)*i.size+j<(lo+q)*i.size+i.size:=J
   _=(lo+q+1)*i.size:=by rw[fV (lo+q) 1];omega
   _<=n*i.size:=bU _ J
 have U:lo*i.size+(q*i.size+j)=(lo+q)*i.size+j:=by rw[fV];omega
 rw[U,bL A,bL C] at a;have a:=cK a;have:=hc (lo+q) j J K C;rw[a];exact this
theorem xb {gc:Option Prop} (am: ∀c,gc=some c->c) (E:Env β nid F w lk) {T:List (Nat×TI)} (hT:iM P T) {t:Nat} {s x:AV} {u v:Value} (ty:TypeId) (hu:Rep β nid F w s u) (hv:Rep β nid F w x v)
  (h:Bw gc T lk nid t s x k): ∃z w',(Builtin.append_ #[t,t] ty #[u,v]).run P w= .ok z w'/\rU β nid F lk w k z w':=by
 unfold Bw at h;split at h
 ·rename_i ti h1;split at h
  ·rename_i e h2;split at h
   ·rename_i a h3;split at h
    ·rename_i b0 by1 a9 a8 R;have R:a.zero.cells.size=a.size:=by simpa using R
     obtain⟨aF,_⟩:=hT.get h1;obtain⟨_,_,i,hi,f,hb,hz⟩:=hT.get h3;cases hd:ti.desc<;>simp[lW,hd] at h2;rename_i el;subst h2;rw[hd] at aF;split at h
     ·rename_i id;split at h
      ·rename_i Y sz n get U;split at h
       ·rename_i he K;have he:Y=el:=jE
        have K:sz=a.size:=(by simpa using K);subst he;subst K;obtain⟨m,H,O,h,l⟩:=r8 E J hv h;obtain⟨W,h⟩:=kS h am;obtain⟨a5,rfl⟩:=hu.so_inv;obtain⟨_,xs,hx,a3,hc⟩:=E.obj id _ U;rw[<-f] at hx l;obtain⟨D,w',a0,S,A,ax⟩:=S8 (P:=P) ty aF hi hz (by rw[R,f]) J J hx l (by rw[hb];exact W);have N:(β.valAt nid D).val nid=D:=by simp[Bd.valAt]
        have a2: ∀g,kI (β.val id)=some g->F g:=λg C=>E.own id _ g U C;have hold: ∀g,g<w.heap.size-> ¬F g->w'.heap[g]? =w.heap[g]? :=λg C M=>A.block g C (λe=>M (a2 g e.symm));have a4: ∀g,g<w.heap.size-> ¬F g-> ¬FX F (β.valAt nid D) nid [.row Y a.size (n+m) (iJ n get H)] g:=by
         rintro g C M (hf|⟨j,o,hj,ho⟩)
         ·exact M hf
         ·cases j with
          |succ j=>simp at hj
          |zero=>
           simp at hj;subst hj;simp[dG,N] at ho;rcases ax with ap|ap
           ·exact M (a2 g (by rw[<-ap];exact ho))
           ·have:=ap g ho;omega
        refine⟨D,w',a0,_,β.valAt nid D,h,lT _ _ _,_,U,A,?_,⟨xs++O,by rw[N,<-f];exact S,?_,?_⟩,?_⟩
        ·simp only[dG,N];exact ax.imp (λh=>by rw[h]) λh=>h
        ·intro q hq;simp only[iJ];split
         ·exact a3 q jA
         ·rw[l.glen (q-n) J,f]
        ·intro q j hq G a1;have a7:=hx.1;rw[f] at a7;by_cases L:q<n
         ·have e1:iJ n get H q=get q:=(by simp[iJ,L]);simp only[e1] at G|-;have hj:j<a.size:=by rw[<-a3 q L];exact G
          have:q*a.size+a.size<=n*a.size:=by rw[<-iC];exact bU _ L
          have Q:q*a.size+j<xs.length:=J;rw[hJ Q];exact⟨((hc q j L G Q).1.stable a4 hold A.size),(hc q j L G Q).2⟩
         ·have e1:iJ n get H q=H (q-n):=(by simp[iJ,L]);simp only[e1] at G|-;have dB:q-n<m:=J
          have hj:j<i.size:=by rw[<-l.glen _ dB];exact G
          have e2:(q-n)*a.size=q*a.size-n*a.size:=g5 _ _ _;have e3:n*a.size<=q*a.size:=bU _ J;have Q:(q-n)*i.size+j<O.length:=by
           rw[l.len];have:(q-n)*i.size+i.size<=m*i.size:=by rw[<-iC];exact bU _ dB
           omega
          rw[kF J];have e4:q*a.size+j-xs.length=(q-n)*i.size+j:=by rw[f];omega
          simp only[e4];exact⟨(l.rep _ j dB G Q).stable a4 hold A.size,l.one _ (fN _)⟩
        ·have hp:=Rep.so (β:=β.valAt nid D) (n:=nid+1) (F:=FX F (β.valAt nid D) nid [.row Y a.size (n+m) (iJ n get H)]) (w:=w') nid J
          (by rw[N];exact S.one)
         rw[N] at hp;exact hp
       ·cases h
      ·cases h
     ·rename_i id sz lo n1;split at h
      ·rename_i Y af n get U;split at h
       ·rename_i he aH K;have he:Y=el:=jE
        have aH:af=a.size:=(by simpa using aH);have K:sz=a.size:=by simpa using K
        subst he;subst aH;subst K;obtain⟨m,H,O,h,l⟩:=r8 E J hv h;obtain⟨W,h⟩:=kS h am;obtain⟨a5,a6⟩:=hu.sv_inv;exact Nl E ty aF hi hz (by rw[R,f]) J J (by rw[f];exact U) (by rw[f];exact a6) (by rw[f];exact l) (by rw[hb];exact W) (by rw[f];exact h)
       ·cases h
      ·cases h
     ·rename_i v0;split at h
      ·rename_i M;obtain⟨m,H,O,h,l⟩:=r8 E J hv h;obtain⟨W,h⟩:=kS h am;obtain rfl:=hu.val_inv;obtain rfl:=iX M;have hx:=(kT.of_owns (World.ownsRow_nil w w.heap.size el i.size)).1;rw[<-f] at l;obtain⟨D,w',a0,S,A,ax⟩:=S8 (P:=P) ty aF hi hz (by rw[R,f]) J J hx l (by rw[hb,dR];exact W);simp only[dR,vF] at S;refine⟨D,w',a0,_,_,h,.row el a.size m H D O ⟨⟨A.os,A.tape,A.output,A.size,λg C=>A.block g C (by simp[kI])⟩,A.drawn⟩ (by rw[<-f];exact S) (λg C=>by rcases ax with h|h;rw[h] at C;cases C;exact h g C) ?_ ?_⟩
       ·intro q hq;rw[<-f];exact l.glen q hq
       ·intro q j hq G a1;simp only[<-f] at a1|-;exact⟨l.rep q j hq G a1,l.one _ (fN _)⟩
      ·cases h
     ·cases h
    ·cases h
   ·cases h
  ·cases h
 ·cases h
def WA (s x:AV):Bool:=
 match s,x with
 | .sv id _ _ _,.sv a _ _ _=>Nat.beq id a
 |_,_=>false
def X9 (A m a:Nat) (get:Nat->List AV):Nat->List AV:=λq=>if A<=q/\q<A+m then get (a+(q-A)) else get q
def gb (w:Option Prop) (T:List (Nat×TI)) (lk:Nat->Option AO) (nid t:Nat) (s x:AV) (k:Eff->Prop):Prop:=
 match lF t T with
 |some A=>(match lW A.desc with
  |some e=>(match lF e T with
   |some a=>(match a.size,s,x with
    |_+1,.sv id z c f,.sv g j h m=>(match lk id with
     |some (.row q l n get)=>(match Nat.beq q e,Nat.beq l a.size,Nat.beq z a.size,Nat.beq j a.size,Nat.beq id g with
      |true,true,true,true,true=>ob w (c+f+m<=n) (k (.app id (.row e a.size n (X9 (c+f) m h get)) (.sv nid a.size c (f+m))))
      |_,_,_,_,_=>False)
     |_=>False)
    |_,_,_=>False)
   |none=>False)
  |none=>False)
 |none=>False
theorem M9 {w:World} {e:TypeId} {sz:Nat} {a:Option Addr} {m c N:Nat} {xs:List Value} (j:kT w e sz (.slice a m c) N xs):N=m/\m<=c:=by
 rcases j.2 with ⟨f,h⟩|⟨_,f,h⟩|⟨g,o,k,l,f,_,n,_⟩
 ·simp only[Value.slice.injEq] at f;omega
 ·simp only[Value.slice.injEq] at f;omega
 ·simp only[Value.slice.injEq] at f;omega
theorem DL (E:Env β nid F w lk) {id e sz n lo N:Nat} {get a:Nat->List AV} (H:lk id=some (.row e sz n get)) {w':World} {c:List Value} {z:Value} (P:kT w' e sz (β.val id) n c) (x:GrownBy w w' (kI (β.val id)))
  (O: ∀q,q<n->(a q).length=sz) (K: ∀(q j:Nat) (_:q<n) (A:j<(a q).length) (C:q*sz+j<c.length),Rep0 F w (a q)[j] c[q*sz+j]/\c[q*sz+j].oneCell'=true)
  (R:aH9 (β.val id) sz lo N z) (h:k (.app id (.row e sz n a) (.sv nid sz lo N))):rU β nid F lk w k z w':=by
 have f:(β.valAt nid (β.val id)).val nid=β.val id:=by simp[Bd.valAt]
 have G: ∀g,kI (β.val id)=some g->F g:=λg l=>E.own id _ g H l;have hold: ∀g,g<w.heap.size-> ¬F g->w'.heap[g]? =w.heap[g]? :=λg l t=>x.block g l (λe=>t (G g e.symm));have Q: ∀g,g<w.heap.size-> ¬F g-> ¬FX F (β.valAt nid (β.val id)) nid [.row e sz n a] g:=by
  rintro g l t (S|⟨j,o,D,L⟩)
  ·exact t S
  ·cases j with
   |succ j=>simp at D
   |zero=>simp at D;subst D;simp[dG,f] at L;exact t (G g L)
 refine⟨_,β.valAt nid (β.val id),h,lT _ _ _,_,H,x,.inl ?_,⟨c,by rw[f];exact P,O,?_⟩,.sv _ _ _ _ _ J (by rw[f];exact R)⟩
 ·simp only[dG,f]
 ·intro q j M A C;exact⟨(K q j M A C).1.stable Q hold x.size,(K q j M A C).2⟩
theorem WB {e sz lo n j:Nat} {b u:Value} {xs:List Value} (l:kT w e sz b n xs) (q:aH9 b sz lo j u): ∃a c,u= .slice a j c/\j<=c:=by
 rcases q with ⟨rfl,f,h⟩|⟨A,rfl,f,z,t,c,h,D⟩|⟨g,o,t,c,h,C,x,rfl⟩
 ·subst f;exact⟨_,_,rfl,aG _⟩
 ·subst f;exact⟨_,_,rfl,aG _⟩
 ·rw[h] at l;have:=M9 l;exact⟨_,_,rfl,J⟩
theorem lx {gc:Option Prop} (am: ∀c,gc=some c->c) (E:Env β nid F w lk) {T:List (Nat×TI)} (hT:iM P T) {t:Nat} {s x:AV} {u v:Value} (R:TypeId) (hu:Rep β nid F w s u) (hv:Rep β nid F w x v)
  (h:gb gc T lk nid t s x k): ∃z w',(Builtin.append_ #[t,t] R #[u,v]).run P w= .ok z w'/\rU β nid F lk w k z w':=by
 unfold gb at h;split at h
 ·rename_i ti C;split at h
  ·rename_i e h2;split at h
   ·rename_i f h3;obtain⟨W,_⟩:=hT.get C;obtain⟨_,_,i,hi,hs,hb,hz⟩:=hT.get h3;cases hd:ti.desc<;>simp[lW,hd] at h2;rename_i el;subst h2;rw[hd] at W;split at h
    ·rename_i c9 id sz A l c0 c1 N m c4;split at h
     ·rename_i e' af n get Y;split at h
      ·rename_i he aH a5 a2 dF;have he:e'=el:=jE
       have aH:af=f.size:=(by simpa using aH);have a5:sz=f.size:=by simpa using a5
       have a2:c1=f.size:=(by simpa using a2);have dF:id=c0:=by simpa using dF
       subst he;subst aH;subst a5;subst dF;obtain⟨ak,h⟩:=kS h am;obtain⟨c7,a4⟩:=hu.sv_inv;obtain⟨H,c2,U,⟨rfl,rfl⟩,D⟩:=r8 (sz:=f.size) (q:=λn' g'=>n'=m/\g'=λq=>get (N+q)) E J hv (by
        unfold Nj;simp only[Y,a2,Nat.beq_refl];exact⟨trivial,trivial⟩)
       obtain⟨_,xs,G,a1,hc⟩:=E.obj id _ Y;obtain⟨ua,uc,b8,a9⟩:=WB G a4;by_cases a7:H=0
       ·subst a7;have hG:X9 (A+l) 0 N get=get:=by
         funext q
         unfold X9;rw[aB J]
        rw[hG] at h;have L:(Builtin.append_ #[t,t] R #[u,v]).run P w= .ok u w:=by
         rw[b8];rcases D.val with ⟨rfl,_⟩|⟨a,c,rfl,_,_⟩
         ·exact G0 R W hi ua l uc a9
         ·exact G1 R W hi ua l uc a9 a c
        exact⟨u,w,L,DL E Y G qG a1 hc a4 h⟩
       ·rcases D.val with ⟨_,h0⟩|⟨a,c',rfl,_,aI⟩
        ·exact absurd h0 a7
        rcases a4 with ⟨_,_,K⟩|⟨_,_,_,a',Q,c,K,c6⟩|⟨g,o,Q,c,K,ai,c8,rfl⟩
        ·rw[K] at G;have:=M9 G;omega
        ·rw[K] at G;have:=M9 G;omega
        rcases G.2 with ⟨C,_⟩|⟨_,C,_⟩|⟨g',o',a3,c5,S,hh,a8,b1,b3,b0⟩
        ·rw[K] at C;cases C
        ·rw[K] at C;simp only[Value.slice.injEq] at C;omega
        have a0:=S;rw[K] at S;simp only[Value.slice.injEq,dT,Addr.mk.injEq] at S;obtain⟨⟨rfl,rfl,_⟩,rfl,rfl⟩:=S;have b9:=G.1;have b6:=D.len;have bE:(A+l+H)*f.size<=Q*f.size:=bU _ ak;have bg:Q*f.size<=(a3+1)*f.size:=bU _ a8;rw[fV,fV] at bE;have L:=G2 (P:=P) (w:=w) R W hi (g:=g) (off:=o+A*f.size) (n:=l) (c:=a3+1-A) (m:=H) (c':=c') (a:=a) (news:=U) hh (by rw[hs];exact b6) aI D.one J (by rw[hs];omega);rw[hs] at L;have eA:o+A*f.size+l*f.size=o+(A*f.size+l*f.size):=J
        rw[eA] at L;have b7:=kT.over (w:=w) hh a8 b1 b3 b0 b9 (A*f.size+l*f.size) U J;have a6:=b7;rw[<-a0] at a6;have cY:kI (β.val id)=some g:=by rw[a0];rfl
        refine⟨_,_,L,DL E Y a6 (by rw[cY];exact rV _ _ _) ?_ ?_ (.inr (.inr ⟨g,o,Q,a3+1,a0,ai,J,rfl⟩)) h⟩
        ·intro q O;unfold X9;split
         ·rename_i M;exact D.glen (q-(A+l)) J
         ·exact a1 q O
        ·intro q j O C h2;have c3:q*f.size+f.size<=Q*f.size:=by rw[<-iC];exact bU _ O
         rw[z6 J _ h2];have eL:A*f.size+l*f.size=(A+l)*f.size:=(fV _ _ _).symm;by_cases M:A+l<=q/\q<A+l+H
         ·have e1:X9 (A+l) H N get q=get (N+(q-(A+l))):=by unfold X9;rw[aE M]
          simp only[e1] at C|-;have b4:=D.glen (q-(A+l)) J;have hj:j<f.size:=by rw[<-b4];exact C
          have e2:(q-(A+l))*f.size=q*f.size-(A+l)*f.size:=g5 _ _ _;have e3:(A+l)*f.size<=q*f.size:=bU _ M.1;have e4:(q-(A+l))*f.size+f.size<=H*f.size:=by rw[<-iC];exact bU _ J
          rw[rG J];have e6:q*f.size+j-(A*f.size+l*f.size)=(q-(A+l))*f.size+j:=J
          simp only[e6];exact⟨D.rep (q-(A+l)) j J C J,D.one _ (fN _)⟩
         ·have e1:X9 (A+l) H N get q=get q:=by unfold X9;rw[aB M]
          simp only[e1] at C|-;have hj:j<f.size:=by rw[a1 q O] at C;exact C
          have b5: ¬(A*f.size+l*f.size<=q*f.size+j/\q*f.size+j<A*f.size+l*f.size+U.length):=by
           rintro⟨h3,h4⟩;apply M;rw[eL] at h3 h4;have e6:(A+l)*f.size<(q+1)*f.size:=by rw[iC];omega
           have e7:q*f.size<(A+l+H)*f.size:=by rw[fV (A+l)];omega
           have:=oC e6;have:=oC e7;omega
          rw[sK b5];exact hc q j O C J
      ·cases h
     ·cases h
    ·cases h
   ·cases h
  ·cases h
 ·cases h
end
end Go.Eng
