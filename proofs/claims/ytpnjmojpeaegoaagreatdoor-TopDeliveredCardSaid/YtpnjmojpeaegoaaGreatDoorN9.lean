/-
  TopDelivered returns true whatever the input, and the input reads behind the call as it read before, where the three listed tables of Go's library hold what the program's text lays: a part of the proof.
-/
import Derived.Lib.SlKeysI
import Derived.Maps.OwnSet
import Derived.Test.YtpnjmojpeaegoaaGreatDoorN8
set_option linter.unusedSimpArgs false
set_option linter.unusedVariables false
namespace Go.Eng
open Go.RowKit Go.Maps Go.WideElems
section
variable {P : Program}
theorem ko {H:Type} (x:Lit×DataW H): ∀l:List (Lit×DataW H),(DataW.insert x l).Perm (x::l)
 |[]=>rH _
 |y::r=>by
  unfold DataW.insert;split
  ·exact rH _
  ·exact((ko x r).cons y).trans (List.Perm.swap x y r)
theorem yS {H:Type}: ∀l:List (Lit×DataW H),(l.foldr DataW.insert []).Perm l
 |[]=>rH _
 |x::r=>(ko x _).trans ((yS r).cons x)
theorem Ij {kt:TypeId} (z:P.underlying kt=some (.int .i64)) {w:World} {b c:Nat} {a:Array MapEntry} (H:w.heap[b]? =some (.map a c)) (L:a.size<=maxLen) (l:MapOk a c) {ks:List Int} (K:ks.length=a.size)
  (E: ∀(i:Nat) (h:i<a.size),a[i].key= .int .i64 (ks.getD i 0)) (F: ∀k∈ks,(Lit.int .i64 k).wf=true):
  ∃D:DataW Unit,w.ownsMap P kt (λ_=>some (.nil,[])) b a.size D/\(intKeys D).Perm ks/\Maps.size D=a.size:=by
 let R:Value->Option (DataW Unit×List MemPlace):=λ_=>some (.nil,[])
 have t: ∀(i:Nat) (h:i<a.size),rd P kt R a[i]=some (.int .i64 (ks.getD i 0),.nil):=by
  intro i h;have C:ks.getD i 0∈ks:=by have g:i<ks.length:=J;simp[List.getD,g]
  have A:=F _ C;have q:=E i h;generalize ks.getD i 0=x at A q;unfold rd keyOf;rw[z,q];simp[mapKey,z,A,R]
 have G:Fit P kt R a c:=by
  refine⟨L,⟨?_,?_,?_⟩,?_⟩
  ·intro x n;obtain⟨i,hi,rfl⟩:=cU n;have:=l.old i jI;simpa using this
  ·rw[pU,gQ,gN];intro i j hi hj f;have:=l.asc i j f jI jT;simp only[Cl];omega
  ·rw[pU,gQ,gN];intro i j hi hj f;have:=l.one i j f jI jT;simpa using this
  ·intro x n;obtain⟨i,hi,rfl⟩:=cU n;exact⟨_,by simpa using t i jI⟩
 refine⟨_,World.ownsMap_of_fit H G (λ_ _ _ h=>h),?_,?_⟩
 ·show(((a.toList.map (rg P kt R)).foldr DataW.insert []).map λp=>intOf p.1).Perm ks;have e:(a.toList.map (rg P kt R)).map (λp=>intOf p.1)=ks:=by
   refine iV (by simp[K]) λi M g=> ?_;have hi:i<a.size:=J
   simp only[iO,Cl];rw[rg_of (t i hi)];simp[intOf,List.getD,g]
  have:=(yS (a.toList.map (rg P kt R))).map λp=>intOf p.1;rw[e] at this;exact this
 ·show((a.toList.map (rg P kt R)).foldr DataW.insert []).length=a.size;rw[(yS _).length_eq];simp
def ie (P:Program) (f it:FuncId) (kt:TypeId):Prop:=
 rT P f/\ ∀(w:World) (g b n:Nat) (D:DataW Unit),g<w.heap.size->w.cell? ⟨g,0,none⟩=some (.map (some b))->w.ownsMap P kt (λ_=>some (.nil,[])) b n D->Maps.size D<=maxLen->Maps.size D*8<=140737488355328->
  Calls P f #[.func (.func it) #[] #[.pointer (some ⟨g,0,none⟩)]] w λe c=> ∃(v:Value) (a:List Int),e= .returned v/\a.Perm (intKeys D)/\
   c.ownsRow w.heap.size kt 1 v a.length ((a.mergeSort (λx y=>decide (x<=y))).map encZ)/\Below w.heap.size w c
def kO (l:List Int):List Int:=l.mergeSort λx y=>decide (x<=y)
theorem oO (l:List Int):(kO l).length=l.length:=List.length_mergeSort l
theorem yz {f it:FuncId} {kt mt:TypeId} (h:ie P f it kt) (hk:P.underlying kt=some (.int .i64)) (ks:List Int) (z val:Nat->AV) (born:Nat->Nat) (C:Nat) (ah: ∀i,i<ks.length->z i= .i .i64 (ks.getD i 0)) (cy: ∀k∈ks,(Lit.int .i64 k).wf=true)
  (b9: ∀i,i<ks.length->(val i).fresh=true) (au:ks.length*8<=140737488355328):
  tC P f false [.cells mt [.mo 1],.mp ks.length z val born C] [.fn it [.p 0 0]] (λ_:Unit=>True) (λ_=>[.cells mt [.mo 1],.mp ks.length z val born C])
   (λ_=>[.row kt 1 ks.length λi=>[.i .i64 ((kO ks).getD i 0)]]) (λ_=> .so 2):=by
 refine Ci.m ⟨h.1,λF w c vs c6 c5 c4 E b3 hl hr=> ?_⟩;obtain⟨S,rfl⟩: ∃S,vs=[S]:=by
  match vs,hl with
  |[S],_=>exact⟨S,rfl⟩
 have a9:=hr 0 jS jS;simp only[fE] at a9;obtain⟨a3,rfl,c0,fh⟩:=a9.fn_inv;obtain⟨u,rfl⟩: ∃u,a3=[u]:=by
  match a3,c0 with
  |[u],_=>exact⟨u,rfl⟩
 have hu:=fh 0 jS jS;simp only[fE] at hu;obtain⟨_,rfl⟩:=hu.p_inv;obtain⟨cs,hh,b7,hc⟩:=E 0 _ rfl;obtain⟨m,rfl⟩: ∃m,cs=[m]:=by
  match cs,b7 with
  |[m],_=>exact⟨m,rfl⟩
 have hm:=(hc 0 jS jS).1;simp only[fE] at hm;obtain⟨_,rfl⟩:=hm.mo_inv;obtain⟨es,hb,N,ho,c1⟩:=E 1 _ rfl;have c2:c.blk 0<w.heap.size:=(cN.1 hh).1;have b0:w.cell? ⟨c.blk 0,0,none⟩=some (.map (some (c.blk 1))):=by have:=cell_of_row w _ 0 _ _ _ hh;simpa using this
 obtain⟨D,b8,cr,a8⟩:=Ij hk hb (by unfold maxLen;omega) ho (ks:=ks) N.symm (λi A=>by
  have:=(c1 i J A).1;rw[ah i J] at this;generalize es[i].key=kv at this|-;cases this;rfl) cy
 refine(h.2 w (c.blk 0) (c.blk 1) es.size D c2 b0 b8 (by rw[a8];unfold maxLen;omega) (by rw[a8];omega)).mono ?_;rintro e w' ⟨v,ss,rfl,a7,a0,t⟩;have b6:ss.mergeSort (λx y=>decide (x<=y))=kO ks:=mergeSort_of_perm_i (a7.trans cr);have b5:ss.length=ks.length:=(a7.trans cr).length_eq;rw[b6,b5] at a0;obtain⟨a5,a6⟩:=kT.of_owns a0;have K:(c.valAt 2 v).val 2=v:=by simp[Bd.valAt]
 have W:yL 2 c (c.valAt 2 v):=lT _ _ _
 let q:List AO:=[.cells mt [.mo 1],.mp ks.length z val born C,.row kt 1 ks.length λi=>[.i .i64 ((kO ks).getD i 0)]]
 have a4: ∀g,g<w.heap.size-> ¬J1 false F w (c.valAt 2 v) q g->w'.heap[g]? =w.heap[g]? :=λg l _=>t.block g l;have bp: ∀i,i<ks.length->(z i).fresh=true:=λi A=>by rw[ah i A];rfl
 have b4: ∀g,sG (c.valAt 2 v) q g->sG c [.cells mt [.mo 1],.mp ks.length z val born C] g\/w.heap.size<=g:=by
  rintro g ⟨j,o,a,l⟩
  match j with
  |0=>simp[q] at a;subst a;exact .inl ⟨0,_,rfl,by simpa [dG,Bd.valAt] using l⟩
  |1=>simp[q] at a;subst a;exact .inl ⟨1,_,rfl,by simpa [dG,Bd.valAt] using l⟩
  |2=>simp[q] at a;subst a;simp only[dG,K] at l;exact .inr (a6 g l)
  |j+3=>simp[q] at a
 refine⟨v,c.valAt 2 v,(),rfl,trivial,⟨W,⟨t.os,t.tape,t.output,t.size,λk Y _=>t.block k Y,t.drawn⟩,rfl,?_,b4,?_,?_⟩⟩
 ·intro j o a
  match j with
  |0=>simp at a;subst a;have M:lV c 2 (J1 false F w (c.valAt 2 v) q) w 0 (.cells mt [.mo 1]):=(E 0 _ rfl).any rfl;exact M.stable J jS W (λ_ _ N=>N) a4 t.size (λg l=>t.block g (M.lt l))
  |1=>simp at a;subst a;have M:lV c 2 (J1 false F w (c.valAt 2 v) q) w 1 (.mp ks.length z val born C):=(E 1 _ rfl).any λi A=>⟨bp i A,b9 i A⟩;exact M.stable J jS W (λ_ _ N=>N) a4 t.size (λg l=>t.block g (M.lt l))
  |2=>
   simp at a;subst a;refine⟨(kO ks).map encZ,by rw[K];exact a5,λk _=>rfl,λk i Y h1 G=> ?_⟩;have A:i=0:=j1
   subst A;have c3:k<(kO ks).length:=by rw[oO];exact Y
   have e1:((kO ks).map encZ)[k*1+0]= .int .i64 ((kO ks).getD k 0):=(by simp[List.getD,c3]);rw[e1];exact⟨.i _ _,rfl⟩
  |j+3=>simp at a
 ·intro j H o O g a R l Q;have old: ∀j o,j<2->q[j]? =some o->dG (c.valAt 2 v) j o g->g<w.heap.size/\[AO.cells mt [.mo 1],.mp ks.length z val born C][j]? =some o/\dG c j o g:=by
   intro j o U a l
   match j,U with
   |0,_=>
    simp[q] at a;subst a;have L:dG c 0 (.cells mt [.mo 1]) g:=by simpa [dG,Bd.valAt] using l
    exact⟨(E 0 _ rfl).lt L,rfl,L⟩
   |1,_=>
    simp[q] at a;subst a;have L:dG c 1 (.mp ks.length z val born C) g:=by simpa [dG,Bd.valAt] using l
    exact⟨(E 1 _ rfl).lt L,rfl,L⟩
  have new: ∀j o,2<=j->q[j]? =some o->dG (c.valAt 2 v) j o g->j=2/\w.heap.size<=g:=by
   intro j o U a l
   match j,U with
   |2,_=>simp[q] at a;subst a;simp only[dG,K] at l;exact⟨rfl,a6 g l⟩
   |j+3,_=>simp[q] at a
  rcases kM j 2 with h1|h1<;>rcases kM H 2 with G|G
  ·obtain⟨_,a1,a2⟩:=old j o h1 a l;obtain⟨_,b1,b2⟩:=old H O G R Q;exact b3 j H o O g a1 b1 a2 b2
  ·have:=(old j o h1 a l).1;have:=(new H O G R Q).2;omega
  ·have:=(new j o h1 a l).2;have:=(old H O G R Q).1;omega
  ·rw[(new j o h1 a l).1,(new H O G R Q).1]
 ·have hp:=Rep.so (β:=c.valAt 2 v) (n:=3) (F:=J1 false F w (c.valAt 2 v) q) (w:=w') 2 J (by rw[K];exact a5.one);rw[K] at hp;exact hp
end
end Go.Eng
