/-
  TopDelivered returns true whatever the input, and the input reads behind the call as it read before, where the three listed tables of Go's library hold what the program's text lays: a part of the proof.
-/
import Derived.Shelf.GgSortFunc.InsertionK
import Derived.Test.YtpnjmojpeaegoaaGreatDoorN11
set_option linter.unusedSimpArgs false
set_option linter.unusedVariables false
namespace Go.Eng
open Go.RowKit Go.Sort
section
variable {P : Program} {α : Type} [Inhabited α]
structure Lies (sz:Nat) (enc:α->List Value) (av:α->List AV):Prop where
 pos:0<sz
 len: ∀x,(enc x).length=sz
 alen: ∀x,(av x).length=sz
 one: ∀x,∀v∈enc x,v.oneCell'=true
 to: ∀(F:Nat->Prop) (w:World) (x:α) (j:Nat) (h1:j<(av x).length) (h2:j<(enc x).length),Rep0 F w (av x)[j] (enc x)[j]
 of: ∀(F:Nat->Prop) (w:World) (x:α) (j:Nat) (v:Value) (h1:j<(av x).length) (h2:j<(enc x).length),Rep0 F w (av x)[j] v->v=(enc x)[j]
def Y9 (P:Program) (f w:FuncId) (sz:Nat) (enc:α->List Value) (x:α->α->Bool) (cs:List AV:=[]):Prop:=
 rT P f/\(∀(h:List Value) (a n l:Nat) (c:List α) (W:World),cs.length=h.length->(∀(j:Nat) (A:j<cs.length) (C:j<h.length),Rep0 (λg=>g=a) W cs[j] h[j])->HoldsK enc sz W a n c.toArray->(a<W.heap.size/\Tb W/\a≠Ti)->c.length<4611686018427387904->
  Calls P f #[.slice (some ⟨a,n,none⟩) c.length l,.func (.func w) #[] h.toArray] W λe t=>e= .returned (.tuple #[])/\ ∃(q:Array α) (k:Nat) (z:Array Obj),PermIn 0 c.length c.toArray q/\SortedIn x 0 c.length q/\t=Go.Proofs.sortWorldK enc sz W a n k q z)/\
  ∀(h:List Value) (p:Option Addr) (l:Nat) (W:World),Calls P f #[.slice p 0 l,.func (.func w) #[] h.toArray] W λe t=>e= .returned (.tuple #[])/\t=W
theorem sf {w:World} {g off k:Nat} {d:Array Value} {os:Array Obj} {a:Array Value} {e:TypeId} (hh:w.heap[g]? =some (.cells a e (0,0))):
  (grow (putRow id (Sort.ahead w k) g off d) os).heap[g]? =some (.cells (putCells id off d a) e (0,0))/\
  (∀b,b<w.heap.size->b≠g->(grow (putRow id (Sort.ahead w k) g off d) os).heap[b]? =w.heap[b]?)/\w.heap.size<=(grow (putRow id (Sort.ahead w k) g off d) os).heap.size:=by
 have hlt:=(cN.1 hh).1;refine⟨?_,λb hb hne=> ?_,?_⟩
 ·exact mz
 ·exact mw
 ·simp[grow,putRow,mapBlock,Sort.ahead]
theorem Io {sz k j:Nat} (a:j<sz):(k*sz+j)/sz=k/\(k*sz+j)% sz=j:=by
 constructor
 ·rw[iR,Nat.mul_add_div J,q5 a,iL]
 ·rw[iR,vD,kD a]
theorem WP {sz n k j:Nat} (a:k<n) (c:j<sz):k*sz+j<n*sz:=by have:=bU sz (show k+1<=n from a);rw[fV,xB] at this;omega
theorem sg {f cb:FuncId} {sz:Nat} {enc:α->List Value} {av:α->List AV} {lt:α->α->Bool} (L:Lies sz enc av) {cs:List AV} (h:Y9 P f cb sz enc lt cs) (c0:AV.lts 0 cs=true) {kt:TypeId} (ks:List α) (get:Nat->List AV) (b0: ∀i,i<ks.length->get i=av (ks.getD i default)) (hb:ks.length<4611686018427387904):
  tC P f false [.row kt sz ks.length get] [.so 0,.fn cb cs] (λc:List α=>c.Perm ks/\c.Pairwise λx y=>lt y x=false) (λc=>[.row kt sz c.length λi=>av (c.getD i default)]) (λ_=>[]) (λ_=> .tup []):=by
 refine Ci.m ⟨h.1,λF w A vs b8 a5 d1 b5 d0 hl hr=> ?_⟩;obtain⟨N,O,rfl⟩: ∃N O,vs=[N,O]:=by
  match vs,hl with
  |[N,O],_=>exact⟨N,O,rfl⟩
 have a7:=hr 0 jS jS;have a8:=hr 1 jS jS;simp only[fE] at a7;simp only[tG,fE] at a8;obtain⟨_,rfl⟩:=a7.so_inv;obtain⟨Y,rfl,c9,bF⟩:=a8.fn_inv;obtain⟨G,hx,b4,hc⟩:=b5 0 _ rfl;have bb: ∀{α:Type} (a:Array α) [Inhabited α] (t:Nat) (h:t<a.size),a[t]! =a[t]:=λa _ t h=>gL a t h;have done: ∀(c:List α) (z:World),c.length=ks.length->kT z kt sz (A.val 0) ks.length (flatK enc sz c.toArray).toList->Frame (sG A [.row kt sz ks.length get]) w z->
   GivesS false F w [.row kt sz ks.length get] A [.row kt sz c.length λi=>av (c.getD i default)] [] (.tup []) (.tuple #[]) z A:=by
  intro c z D b7 c3;refine⟨λ_ _=>nT,c3,rfl,?_,?_,?_,.tup [] [] rfl λj h1=>jl⟩
  ·intro j o hj
   match j with
   |0=>
    simp at hj;subst hj;refine⟨_,by rw[D];exact b7,λk _=>L.alen _,λk i bd h1 h2=> ?_⟩;have hi:i<sz:=by rw[L.alen] at h1;exact h1
    have a6:=WP (sz:=sz) bd hi;have S:=get_flatK enc sz c.toArray (k*sz+i) (by simpa using a6);rw[(Io hi).1,(Io hi).2] at S;have b3:k*sz+i<(flatK enc sz c.toArray).size:=by simpa using a6
    rw[gL (flatK enc sz c.toArray) (k*sz+i) b3] at S;have E:(flatK enc sz c.toArray).toList[k*sz+i]=(flatK enc sz c.toArray)[k*sz+i]:=jS
    have U:c.toArray[k]! =c.getD k default:=(by simp[List.getD,bd,gL]);have C:i<(enc (c.getD k default)).length:=by rw[L.len];exact hi
    have e3:(enc (c.getD k default))[i]! =(enc (c.getD k default))[i]:=gL (enc (c.getD k default)) i C;rw[E,S,U,e3];exact⟨L.to _ _ _ _ _ C,L.one _ _ (fN C)⟩
   |j+1=>simp at hj
  ·exact mW
  ·exact mY
 have H: ∀c:List α,(flatK enc sz c.toArray).toList.length=c.length*sz:=λc=>jS
 rcases hx.2 with ⟨hv,hn⟩|⟨ad,hv,hn⟩|⟨g,q,a2,a3,hv,K,c7,c1,c2,a9⟩
 ·have R:ks=[]:=fA hn;rw[hv];refine(h.2.2 Y none 0 w).mono ?_;rintro e z ⟨rfl,rfl⟩;refine⟨_,A,ks,rfl,⟨rH _,by rw[R];exact .nil⟩,done ks _ rfl ?_ (Frame.refl _ _)⟩;rw[hv];exact⟨H ks,.inl ⟨rfl,hn⟩⟩
 ·have R:ks=[]:=fA hn;rw[hv];refine(h.2.2 Y (some ad) 0 w).mono ?_;rintro e z ⟨rfl,rfl⟩;refine⟨_,A,ks,rfl,⟨rH _,by rw[R];exact .nil⟩,done ks _ rfl ?_ (Frame.refl _ _)⟩;rw[hv];exact⟨H ks,.inr (.inl ⟨ad,rfl,hn⟩)⟩
 ·have b1:=(cN.1 K).1;have Q:G.length=ks.length*sz:=hx.1;have b6:=L.pos;have bW: ∀t,t<ks.length*sz->G[t]? =some ((flatK enc sz ks.toArray)[t]!):=by
   intro t n;have M:t/sz<ks.length:=Pf (by rw[iR];exact n);have hj:t % sz<sz:=tZ _ b6;have et:t/sz*sz+t % sz=t:=by rw[iR];exact vG t sz
   have c4:=b0 _ M;have h1:t % sz<(get (t/sz)).length:=by rw[b4 _ M];exact hj
   have h2:t/sz*sz+t % sz<G.length:=by rw[et,Q];exact n
   have a1:=(hc (t/sz) (t % sz) M h1 h2).1;have C:t % sz<(enc (ks.getD (t/sz) default)).length:=by rw[L.len];exact hj
   have c5:t % sz<(av (ks.getD (t/sz) default)).length:=by rw[L.alen];exact hj
   simp only[c4] at a1;have e:=L.of _ _ _ _ _ c5 C a1;have E:G[t/sz*sz+t % sz]=G[t]'(by rw[Q];exact n):=by congr 1
   rw[E] at e;rw[bL (by rw[Q];exact n),e,get_flatK enc sz ks.toArray t (by simpa using n)];have U:ks.toArray[t/sz]! =ks.getD (t/sz) default:=by simp[List.getD,M,gL]
   rw[U,gL (enc (ks.getD (t/sz) default)) (t % sz) C]
  have a0: ∀t,t<ks.length*sz->a3[q+t]? =some ((flatK enc sz ks.toArray)[t]!):=by intro t n;have:=bW t n;rw[<-a9,dZ,aE n,eE] at this;simpa using this
  have hH:HoldsK enc sz w g q ks.toArray:=by
   intro t n;have c8:t<ks.length*sz:=by simpa using n
   refine⟨?_,?_⟩
   ·rw[cell_of_row w _ _ _ _ _ K];exact a0 t c8
   ·simp[World.frozen?,K]
  rw[hv];have a4:F g:=b8 g ⟨0,_,rfl,by rw[dG,hv];rfl⟩;refine(h.2.1 Y g q (a2+1) ks w c9 (λj h1 h2=>((bF j h1 h2).less (AV.lts_get c0 j h1)).zero.stable (λb _ hn e=>hn (e▸a4)) (λ_ _ _=>rfl) (aG _)) hH ⟨b1,a5.2.1,λe=>a5.2.2 (e▸a4)⟩ hb).mono ?_;rintro e z ⟨rfl,l,k,os,hp,hs,rfl⟩;obtain⟨h1,h2,h3⟩:=sf (k:=k) (os:=os) (off:=q) (d:=flatK enc sz l) K;have W:l.size=ks.length:=by have:=hp.1;simpa using this
  have eB: ∀a:Array α,a.size=ks.length->(a.extract 0 ks.length).toList=a.toList:=λa ha=>by rw[<-ha];simp
  have cr:l.toList.Perm ks:=by have:=hp.2.2;rw[eB l W,eB ks.toArray jS] at this;simpa using this
  have D:l.toList.length=ks.length:=by simpa using W
  refine⟨_,A,l.toList,rfl,⟨cr,?_⟩,done l.toList _ D ?_ qV⟩
  ·rw[gN];intro i j hi hj c6;have dK:i<l.size:=jI
   have hj':j<l.size:=jT;have:=hs i j (bI _) c6 J;rw[gL l i dK,gL l j hj'] at this;simpa using this
  ·rw[hv];refine⟨(H _).trans (by rw[D]),.inr (.inr ⟨g,q,a2,_,rfl,h1,c7,c1,by simpa [putCells] using c2,?_⟩)⟩;refine lB λt=> ?_;rw[dZ];by_cases n:t<ks.length*sz
   ·rw[aE n,eE];have b9:=a0 t n;simp only[putCells,sB,mi];have di:a3.toList[q+t]? =some ((flatK enc sz ks.toArray)[t]!):=by simpa using b9
    rw[di];have E:q+t-q=t:=J
    have d2:(flatK enc sz l).size=ks.length*sz:=(by simp[W]);simp only[lR,E];rw[aE ⟨J,J⟩];have:(flatK enc sz l.toList.toArray).toList[t]? =some ((flatK enc sz l)[t]!):=by simp only[Array.toArray_toList];rw[gL (flatK enc sz l) t J];simp
    rw[this];rfl
   ·rw[aB n,eY (by rw[H,D];omega)]
end
end Go.Eng
