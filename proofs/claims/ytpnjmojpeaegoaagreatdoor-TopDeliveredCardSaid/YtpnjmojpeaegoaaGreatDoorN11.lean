/-
  TopDelivered returns true whatever the input, and the input reads behind the call as it read before, where the three listed tables of Go's library hold what the program's text lays: a part of the proof.
-/
import Derived.ProofKit
import Derived.Deep.Slices
import Derived.Deep.Fields
import Derived.ChangeSame
import Derived.Test.YtpnjmojpeaegoaaGreatDoorN10
set_option linter.unusedSimpArgs false
set_option linter.unusedVariables false
namespace Go.Eng
open Go.ChangeShapes Go.WideShapes Go.ChangeAt Go.RowKit Go.Deep
section
variable {H : Type} {enc : TypeId × Value -> H} {P : Program}
theorem Q3 (w:laidOutB P=true) {W l:World} {sp:Nat->Bool} (n:Below W.heap.size W l): ∀{ts:List TypeId} {e:List Value} {a:List (DataW H)} {f:List MemPlace},
  ts.all (λt=>P.readableRec t&&decide (t<P.types.size))=true->DataW.TrodAll enc P W 0 (λ_=>true) true ts e a f->(∀x∈f,sp x.block=true)->(∀x∈f,x.block<W.heap.size)->
  DataW.TrodAll enc P l 0 sp true ts e a f
 |[],e,a,f,_,h,_,_=>by
  cases e<;>cases a<;>first|exact h|exact h.elim
 |t::ts,e,a,f,g,h,k,j=>by
  cases e with
  |nil=>cases a<;>exact h.elim
  |cons v e=>
   cases a with
   |nil=>exact h.elim
   |cons d a=>
    obtain⟨p,q,z,A,rfl⟩:=h;simp only[List.all_cons,aW,aM] at g;exact⟨p,q,WideElems.Trod_stays w g.1.1 g.1.2 z (λx c=>n.same (j x (by simp[c]))) (λx c=>k x (by simp[c])),
     Q3 w n (by simpa using g.2) A (λx c=>k x (by simp[c])) (λx c=>j x (by simp[c])),rfl⟩
theorem Xs {f:Func} {s:ChangeSpec} {apart E D:Bool} {W e:World} {args:Array Value} {a A:List (DataW H)} {l:List MemPlace} {tb:TypeId}
  (Q:laidOutB P=true) (M:f.params.toList.all (λt=>P.readableRec t&&decide (t<P.types.size))=true)
  (g:DataW.Whole enc P f.params.toList s.vars apart W args.toList a A l) (n:s.vars=[])
  (j:s.fn H (a++A)={results:=[.lit (.bool true)],args:=a}) (G:f.resultTypes= #[tb]) (L:P.underlying tb=some .bool) (C:Below W.heap.size W e):
  s.post enc P f apart E D false W args (.bool true) e:=by
 have z: ∀x∈l,x.block<W.heap.size:=λx c=>by simpa using g.lt x c
 have K:=g;obtain⟨p,q,N,O,rfl,R,S⟩:=g;have w:=O;rw[n] at w;obtain⟨rfl,rfl⟩:=trodVars_none w;have F:DataW.TrodAll enc P e 0 (λb=>decide (b<W.heap.size)) true f.params.toList args.toList (s.fn H (a++[])).args p:=by rw[j];exact Q3 Q C M N (λx c=>by simpa using z x (by simp[c])) (λx c=>z x (by simp[c]))
 refine⟨a,[],p++[],[],p,[],K,?_,F,?_,Go.RowKit.Below.frame C.toBelow _,λh=>jC⟩
 ·rw[j,G];exact trodAll_mk1 (shut_bool L true)
 ·rw[j,n];exact rfl
end
inductive Sh where
 |ki (k:IntKind)
 |kb
 |ks
 |kst (fs:List Sh)
 |ksl (e:Sh)
 |kx
mutual
def Sh.sz:Sh->Nat
 | .kst fs=>Sh.szs fs
 |_=>1
def Sh.szs:List Sh->Nat
 |[]=>0
 |f::r=>Sh.sz f+Sh.szs r
end
mutual
def Sh.Val:Sh->Type
 | .ki _=>Int
 | .kb=>Bool
 | .ks=>ByteArray
 | .kst fs=>Sh.Vals fs
 | .ksl e=>List (Sh.Val e)
 | .kx=>Unit
def Sh.Vals:List Sh->Type
 |[]=>Unit
 |f::r=>Sh.Val f×Sh.Vals r
end
mutual
def Sh.dv:(s:Sh)->s.Val
 | .ki _=>(0:Int)
 | .kb=>false
 | .ks=>ByteArray.empty
 | .kst fs=>Sh.dvs fs
 | .ksl _=>[]
 | .kx=>()
def Sh.dvs:(l:List Sh)->Sh.Vals l
 |[]=>()
 |f::r=>(Sh.dv f,Sh.dvs r)
end
mutual
def Sh.av:(s:Sh)->s.Val->List AV
 | .ki k,n=>[.i k n]
 | .kb,c=>[.b c]
 | .ks,x=>[.s x]
 | .kst fs,v=>Sh.avs fs v
 | .ksl e,l=>[.rs e.sz (List.length l) λk=>Sh.av e (List.getD l k e.dv)]
 | .kx,_=>[.u]
def Sh.avs:(l:List Sh)->Sh.Vals l->List AV
 |[],_=>[]
 |f::r,v=>Sh.av f v.1++Sh.avs r v.2
end
mutual
def Sh.wf:(s:Sh)->s.Val->Prop
 | .ki k,n=>(Lit.int k n).wf=true
 | .kb,_=>True
 | .ks,x=>ByteArray.size x<=maxLen
 | .kst fs,v=>Sh.wfs fs v
 | .ksl e,l=>List.length l<=maxLen/\ ∀x:Sh.Val e,List.Mem x l->Sh.wf e x
 | .kx,_=>True
def Sh.wfs:(l:List Sh)->Sh.Vals l->Prop
 |[],_=>True
 |f::r,v=>Sh.wf f v.1/\Sh.wfs r v.2
end
mutual
def Dd (P:Program):Sh->TypeId->Prop
 | .ki k,t=>P.underlying t=some (.int k)
 | .kb,t=>P.underlying t=some .bool
 | .ks,t=>P.underlying t=some .string
 | .kst fs,t=> ∃fl:Array Field,P.underlying t=some (.struct fl)/\P.cellsOf t=Sh.szs fs/\Ud P fs 0 fl.toList
 | .ksl e,t=> ∃a,P.underlying t=some (.slice a)/\P.cellsOf a=e.sz/\0<e.sz/\Dd P e a
 | .kx,t=> ∃a,P.underlying t=some (.slice a)
def Ud (P:Program):List Sh->Nat->List Field->Prop
 |[],_,[]=>True
 |s::r,a,f::fr=>f.offset=a/\P.cellsOf f.type=s.sz/\Dd P s f.type/\Ud P r (a+s.sz) fr
 |_,_,_=>False
end
mutual
def aHg (P:Program):Sh->TypeId->Bool
 | .ki k,t=>(match P.underlying t with
  |some (.int c)=>decide (c=k)
  |_=>false)
 | .kb,t=>(match P.underlying t with
  |some .bool=>true
  |_=>false)
 | .ks,t=>(match P.underlying t with
  |some .string=>true
  |_=>false)
 | .kst fs,t=>(match P.underlying t with
  |some (.struct fl)=>Nat.beq (P.cellsOf t) (Sh.szs fs)&&Xt P fs 0 fl.toList
  |_=>false)
 | .ksl e,t=>(match P.underlying t with
  |some (.slice a)=>Nat.beq (P.cellsOf a) e.sz&&Nat.blt 0 e.sz&&aHg P e a
  |_=>false)
 | .kx,t=>(match P.underlying t with
  |some (.slice _)=>true
  |_=>false)
def Xt (P:Program):List Sh->Nat->List Field->Bool
 |[],_,[]=>true
 |s::r,a,f::fr=>Nat.beq f.offset a&&Nat.beq (P.cellsOf f.type) s.sz&&aHg P s f.type&&Xt P r (a+s.sz) fr
 |_,_,_=>false
end
section
variable {P : Program}
mutual
theorem Ow: ∀{s:Sh} {t:TypeId},aHg P s t=true->Dd P s t
 | .ki k,t,h=>by
  simp only[aHg] at h;split at h
  ·rename_i e;simp only[Dd];rw[e];rw[kK h]
  ·cases h
 | .kb,t,h=>by
  simp only[aHg] at h;split at h
  ·rename_i e;simp only[Dd];rw[e]
  ·cases h
 | .ks,t,h=>by
  simp only[aHg] at h;split at h
  ·rename_i e;simp only[Dd];rw[e]
  ·cases h
 | .kst fs,t,h=>by
  simp only[aHg] at h;split at h
  ·rename_i fl e;simp only[aW] at h;exact⟨fl,e,kN h.1,Ue h.2⟩
  ·cases h
 | .ksl e,t,h=>by
  simp only[aHg] at h;split at h
  ·rename_i c a;simp only[aW] at h;exact⟨c,a,kN h.1.1,by simpa [Nat.blt_eq] using h.1.2,Ow h.2⟩
  ·cases h
 | .kx,t,h=>by
  simp only[aHg] at h;split at h
  ·rename_i c a;exact⟨c,a⟩
  ·cases h
theorem Ue: ∀{l:List Sh} {off:Nat} {fl:List Field},Xt P l off fl=true->Ud P l off fl
 |[],_,[],_=>trivial
 |s::r,off,f::fr,h=>by simp only[Xt,aW] at h;exact⟨kN h.1.1.1,kN h.1.1.2,Ow h.1.2,Ue h.2⟩
 |[],_,_::_,h=>by simp[Xt] at h
 |_::_,_,[],h=>by simp[Xt] at h
end
mutual
theorem Sh.av_length: ∀(s:Sh) (v:s.Val),(Sh.av s v).length=s.sz
 | .ki k,n=>rfl
 | .kb,c=>rfl
 | .ks,x=>rfl
 | .kst fs,v=>by simp only[Sh.av,Sh.sz];exact Sh.avs_length fs v
 | .ksl e,l=>rfl
 | .kx,l=>rfl
theorem Sh.avs_length: ∀(l:List Sh) (v:Sh.Vals l),(Sh.avs l v).length=Sh.szs l
 |[],_=>rfl
 |f::r,v=>by simp only[Sh.avs,Sh.szs,bD,Sh.av_length f v.1,Sh.avs_length r v.2]
end
def oG (W:World) (c:List AV) (cs:List Value):Prop:=c.length=cs.length/\ ∀(j:Nat) a u,c[j]? =some a->cs[j]? =some u->Rep0 (λ_=>False) W a u/\u.oneCell'=true
theorem oG.one {W:World} {a:AV} {u:Value} (h:Rep0 (λ_=>False) W a u) (f:u.oneCell'=true):oG W [a] [u]:=by
 refine⟨rfl,λj g k c e=> ?_⟩
 match j with
 |0=>simp at c e;subst c e;exact⟨h,f⟩
 |j+1=>simp at c
theorem oG.append {W:World} {f l:List AV} {cs n:List Value} (h:oG W f cs) (g:oG W l n):oG W (f++l) (cs++n):=by
 refine⟨by simp[h.1,g.1],λj a u c e=> ?_⟩;by_cases q:j<f.length
 ·rw[fB q] at c;rw[fB (by rw[<-h.1];exact q)] at e;exact h.2 j a u c e
 ·rw[gJ J] at c;rw[gJ (by rw[<-h.1];omega),<-h.1] at e;exact g.2 _ a u c e
variable {H : Type} {enc : TypeId × Value -> H} {W : World}
theorem OQ {a:Addr} {v:Value} (h:W.cell? a=some v):a.block<W.heap.size:=by
 unfold World.cell? at h;split at h
 ·rename_i c;exact(cN.1 c).1
 ·cases h
theorem OR {e:Sh} {t S:TypeId} {fuel:Nat} {cs:List Value} {x:DataW H×List MemPlace} (ht:P.underlying t=some (.slice S)) (hc:P.cellsOf S=e.sz) (h0:0<e.sz)
  (he: ∀n cs y,DataW.trod enc P W 0 (λ_=>true) true n S cs=some y-> ∃v:e.Val,e.wf v/\oG W (e.av v) cs)
  (h:DataW.trod enc P W 0 (λ_=>true) true fuel t cs=some x):
  ∃l:List e.Val,(l.length<=maxLen/\ ∀z∈l,e.wf z)/\oG W [.rs e.sz l.length λk=>e.av (l.getD k e.dv)] cs/\(l=[]\/ ∃el sp,x.1= .slice el sp/\l.length=el.length):=by
 rcases open_slice ht h with ⟨rfl,rfl⟩|⟨a,len,Y,m,n,D,Pl,rfl,_,hl,hm,M,rfl,f⟩
 ·exact⟨[],⟨bI _,λz C=>by cases C⟩,oG.one (.rsnil _ _) rfl,.inl rfl⟩
 ·simp only[uS] at M;have M:=M.symm;subst M;by_cases a2:Y=0
  ·subst a2;obtain rfl:len=0:=J
   exact⟨[],⟨bI _,λz C=>by cases C⟩,oG.one (.rsz _ _ a) rfl,.inl rfl⟩
  obtain⟨G,N,a4⟩:=a;have a1:a4=none/\G<W.heap.size:=by obtain⟨w,E,_⟩:=f 0 J;rw[hc] at E;obtain⟨_,a5,Q⟩:=World.cells?_some E;have c:=Q 0 h0;have A:(w[0]?)=some (w[0]'J):=bL _;rw[A] at c;have h3:=World.cell?_spot c;have h4:=OQ c;simp[Addr.add] at h3 h4;exact⟨h3,h4⟩
  obtain⟨rfl,a6⟩:=a1;have R: ∀i,i<len-> ∃v:e.Val,e.wf v/\ ∀j,j<e.sz-> ∃u,W.cell? ⟨G,N+i*e.sz+j,none⟩=some u/\u.oneCell'=true/\ ∀a,(e.av v)[j]? =some a->Rep0 (λ_=>False) W a u:=by
   intro i a8;obtain⟨w,E,a7⟩:=f i J;rw[hc] at E;obtain⟨_,a5,Q⟩:=World.cells?_some E;obtain⟨v,hw,a0⟩:=he _ _ _ a7;refine⟨v,hw,λj g=> ?_⟩;have c:=Q j g;have A:(w[j]?)=some (w[j]'J):=bL _;have L:j<(e.av v).length:=by rw[a0.1];omega
   have h5:=a0.2 j _ _ (bL L) A;refine⟨w[j]'J,?_,h5.2,λa ha=> ?_⟩
   ·rw[A,Go.Deep.add_add] at c;rw[<-c]
    congr 1
    unfold Addr.add;split
    ·rename_i h0;have c:i*e.sz=0:=J
     have A:j=0:=J;rw[c,A];rfl
    ·simp[fT]
   ·rw[bL L] at ha;obtain rfl:=cK ha;exact h5.1
  let F:Nat->e.Val:=λi=>if f:i<len then Classical.choose (R i f) else e.dv
  have O: ∀i,i<len->e.wf (F i)/\ ∀j,j<e.sz-> ∃u,W.cell? ⟨G,N+i*e.sz+j,none⟩=some u/\u.oneCell'=true/\ ∀a,(e.av (F i))[j]? =some a->Rep0 (λ_=>False) W a u:=by
   intro i f;have:F i=Classical.choose (R i f):=by simp only[F,rG f]
   rw[this];exact Classical.choose_spec (R i f)
  have U:((List.range len).map F).length=len:=jS
  have a3: ∀k,k<len->((List.range len).map F).getD k e.dv=F k:=λk q=>by simp[List.getD,q]
  refine⟨(List.range len).map F,⟨by rw[U];omega,λz C=> ?_⟩,oG.one ?_ rfl,.inr ⟨_,_,rfl,jS⟩⟩
  ·simp only[fL,fO] at C;obtain⟨i,f,rfl⟩:=C;exact(O i f).1
  rw[U];refine .rs e.sz len _ G N Y (λk j=>(W.cell? ⟨G,N+k*e.sz+j,none⟩).getD (.bool false)) hl hm (λh=>h) a6 (λk _=>Sh.av_length _ _) (λk j q g=> ?_) (λk j q g=> ?_) (λk j q g=> ?_)
  ·obtain⟨u,K,_⟩:=(O k q).2 j g;rw[K];rfl
  ·obtain⟨u,K,c,_⟩:=(O k q).2 j g;rw[K];exact c
  ·have L:j<e.sz:=by rw[Sh.av_length] at g;exact g
   obtain⟨u,K,_,c⟩:=(O k q).2 j L;rw[K];refine c _ ?_;rw[<-a3 k q];exact bL g
mutual
theorem De: ∀{s:Sh} {t:TypeId},Dd P s t-> ∀{fuel:Nat} {cs:List Value} {x:DataW H×List MemPlace},DataW.trod enc P W 0 (λ_=>true) true fuel t cs=some x-> ∃v:s.Val,s.wf v/\oG W (s.av v) cs
 | .ki k,t,c,fuel,cs,x,h=>by obtain⟨z,rfl,_,g⟩:=DataW.trod_int c h;exact⟨z,g,oG.one (.i _ _) rfl⟩
 | .kb,t,c,fuel,cs,x,h=>by obtain⟨z,rfl,_⟩:=DataW.trod_bool c h;exact⟨z,trivial,oG.one (.b _) rfl⟩
 | .ks,t,c,fuel,cs,x,h=>by obtain⟨z,rfl,_,g⟩:=DataW.trod_string c h;exact⟨z,g,oG.one (.s _) rfl⟩
 | .kst fs,t,⟨fl,c,q,F⟩,fuel,cs,x,h=>by
  obtain⟨U,n,_,_,A,R,N⟩:=DataW.trod_struct c h;have C: ∀f∈fl.toList,∃y,DataW.trod enc P W 0 (λ_=>true) true n f.type ((cs.drop f.offset).take (P.cellsOf f.type))=some y:=by
   intro f M;obtain⟨i,hi,rfl⟩:=cU M;have G:i<fl.size:=jI
   have w:=N i fl[i] (fS G);rw[bL J] at w;exact⟨_,w⟩
  obtain⟨v,g,j⟩:=Ik F C (by rw[A,q];simp);refine⟨v,g,?_⟩;have e:(cs.drop 0).take (Sh.szs fs)=cs:=by rw[<-q,<-A];simp
  rw[e] at j;exact j
 | .ksl e,t,⟨Q,c,j,L,K⟩,fuel,cs,x,h=>by obtain⟨l,g,E,_⟩:=OR c j L (λn cs y O=>De K O) h;exact⟨l,g,E⟩
 | .kx,t,⟨Q,c⟩,fuel,cs,x,h=>by
  rcases open_slice c h with ⟨rfl,rfl⟩|⟨a,len,S,m,n,D,Pl,rfl,_⟩
  ·exact⟨(),trivial,oG.one (.u _) rfl⟩
  ·exact⟨(),trivial,oG.one (.u _) rfl⟩
theorem Ik: ∀{l:List Sh} {off:Nat} {fl:List Field},Ud P l off fl-> ∀{n:Nat} {cs:List Value},
  (∀f∈fl,∃y,DataW.trod enc P W 0 (λ_=>true) true n f.type ((cs.drop f.offset).take (P.cellsOf f.type))=some y)->off+Sh.szs l<=cs.length->
  ∃v:Sh.Vals l,Sh.wfs l v/\oG W (Sh.avs l v) ((cs.drop off).take (Sh.szs l))
 |[],off,[],_,n,cs,_,_=>⟨(),trivial,by simp only[Sh.avs,Sh.szs,List.take_zero];exact⟨rfl,λj a u A=>by simp at A⟩⟩
 |s::r,off,f::fr,⟨E,C,G,F⟩,n,cs,c,t=>by
  simp only[Sh.szs] at t;obtain⟨y,g⟩:=c f jS;rw[E,C] at g;obtain⟨H,w,z⟩:=De G g;obtain⟨K,x,q⟩:=Ik F (λf D=>c f (by simp[D])) J;refine⟨(H,K),⟨w,x⟩,?_⟩;have e:(cs.drop off).take (Sh.szs (s::r))=(cs.drop off).take s.sz++(cs.drop (off+s.sz)).take (Sh.szs r):=by simp only[Sh.szs];rw[List.take_add,oE]
  rw[e];exact z.append q
 |[],_,_::_,h,_,_,_,_=>h.elim
 |_::_,_,[],h,_,_,_,_=>h.elim
end
def Sh.top:(s:Sh)->s.Val->AV
 | .ki k,n=> .i k n
 | .kb,c=> .b c
 | .ks,x=> .s x
 | .kst fs,v=> .ag (Sh.avs fs v)
 | .ksl e,l=> .rs e.sz (List.length l) λk=>Sh.av e (List.getD l k e.dv)
 | .kx,_=> .u
def Sh.tops:(l:List Sh)->Sh.Vals l->List AV
 |[],_=>[]
 |f::r,v=>Sh.top f v.1::Sh.tops r v.2
def EU (P:Program):List Sh->List TypeId->Prop
 |[],[]=>True
 |s::r,t::a=>Dd P s t/\EU P r a
 |_,_=>False
def se (P:Program):List Sh->List TypeId->Bool
 |[],[]=>true
 |s::r,t::a=>aHg P s t&&se P r a
 |_,_=>false
theorem Il: ∀{l:List Sh} {ts:List TypeId},se P l ts=true->EU P l ts
 |[],[],_=>trivial
 |s::r,t::a,h=>by simp only[se,aW] at h;exact⟨Ow h.1,Il h.2⟩
 |[],_::_,h=>by simp[se] at h
 |_::_,[],h=>by simp[se] at h
theorem Df {v:Value} {u:Value} (h:v.cells.toList=[u]) (a: ∀cs,v≠ .agg cs):v=u:=by
 cases v<;>simp[Value.cells] at h<;>first|exact h|exact(a _ rfl).elim
def aB0:TypeDesc->Bool
 | .int _=>true
 | .bool=>true
 | .string=>true
 | .slice _=>true
 |_=>false
theorem Y8 {t:TypeId} {e:TypeDesc} {base:Nat} {v:Value} (c:P.underlying t=some e) (f:aB0 e=true) (a:Value.okWide P W .any base t v): ∀cs,v≠ .agg cs:=by
  rintro cs rfl;unfold Value.okWide at a;rw[c] at a;cases e<;>first
    |(cases f;done)
    | (dsimp only at a
       unfold Cell.okWide at a;rw[c] at a;dsimp only at a;unfold Cell.ok at a;rw[c] at a;exact a)
theorem EV {s:Sh} {t:TypeId} {base:Nat} {v:Value} {d:DataW H} {p:List MemPlace} (c:Dd P s t) (f:Value.okWide P W .any base t v) (h:DataW.Trod enc P W 0 (λ_=>true) true t v d p):
  ∃x:s.Val,s.wf x/\Rep0 (λ_=>False) W (s.top x) v:=by
 obtain⟨fuel,h⟩:=h;obtain⟨x,E,n⟩:=De c h;refine⟨x,E,?_⟩;have one: ∀{a:AV},oG W [a] v.cells.toList->(∀g,v≠ .agg g)->Rep0 (λ_=>False) W a v:=by
  intro a q D;obtain⟨u,z⟩: ∃u,v.cells.toList=[u]:=by
   have:=q.1;generalize v.cells.toList=l at this
   match l,this with
   |[u],_=>exact⟨u,rfl⟩
  rw[Df z D];exact(q.2 0 a u rfl (by rw[z];rfl)).1
 cases s with
 |ki k=>exact one n (Y8 (show P.underlying t=some _ from c) rfl f)
 |kb=>exact one n (Y8 (show P.underlying t=some _ from c) rfl f)
 |ks=>exact one n (Y8 (show P.underlying t=some _ from c) rfl f)
 |ksl e=>obtain⟨F,c,_⟩:=c;exact one n (Y8 c rfl f)
 |kx=>obtain⟨F,c⟩:=c;exact one n (Y8 c rfl f)
 |kst fs=>
  obtain⟨fl,c,K,G⟩:=c;unfold Value.okWide at f;rw[c] at f;obtain⟨g,rfl,_⟩:=f;have w:oG W (Sh.avs fs x) g.toList:=n;have e:Value.agg g= .agg g.toList.toArray:=jS
  rw[e];exact .ag _ g.toList w.1 λj A C=>(w.2 j _ _ (bL A) (bL C)).1
theorem Im: ∀{l:List Sh} {ts:List TypeId} {a:List Value} {c:List (DataW H)} {p:List MemPlace} {base:Nat},EU P l ts->(∀(j:Nat) t v,ts[j]? =some t->a[j]? =some v->Value.okWide P W .any base t v)->
  DataW.TrodAll enc P W 0 (λ_=>true) true ts a c p->
  ∃x:Sh.Vals l,Sh.wfs l x/\c.length=l.length/\(Sh.tops l x).length=a.length/\ ∀(j:Nat) (h1:j<(Sh.tops l x).length) (h2:j<a.length),Rep0 (λ_=>False) W (Sh.tops l x)[j] a[j]
 |[],[],a,c,p,base,_,_,h=>by obtain⟨rfl,rfl,rfl⟩:=trodAll_nil h;exact⟨(),trivial,rfl,rfl,λj h1=>by simp[Sh.tops] at h1⟩
 |s::r,t::R,a,c,p,base,⟨E,D⟩,e,h=>by
  obtain⟨F,M,N,L,O,Q,rfl,rfl,rfl,A,C⟩:=trodAll_cons h;obtain⟨G,g,z⟩:=EV E (e 0 t F rfl rfl) A;obtain⟨K,n,f,q,w⟩:=Im D (λj t v h1 h2=>e (j+1) t v j1 j2) C;refine⟨(G,K),⟨g,n⟩,by simp[f],by simp[Sh.tops,q],λj h1 h2=> ?_⟩;cases j with
  |zero=>exact z
  |succ j=>exact w j (by simpa [Sh.tops] using h1) j2
 |[],_::_,_,_,_,_,h,_,_=>h.elim
 |_::_,[],_,_,_,_,h,_,_=>h.elim
end
theorem Ox (e:Sh) {α:Type} (of:e.Val->α) (a:α->List AV) (d:α) (h: ∀v,a (of v)=e.av v) (l:List e.Val) {n:Nat} (j:n=(l.map of).length):
  eV (.rs e.sz n λk=>a ((l.map of).getD k d)) (.rs e.sz l.length λk=>e.av (l.getD k e.dv)):=by
 subst j;refine⟨rfl,jS,λk g=> ?_⟩;have c:k<l.length:=by simpa using g
 have f:(l.map of).getD k d=of (l.getD k e.dv):=by simp[List.getD,c]
 show e.av (l.getD k e.dv)=a ((l.map of).getD k d);rw[f,h]
end Go.Eng
