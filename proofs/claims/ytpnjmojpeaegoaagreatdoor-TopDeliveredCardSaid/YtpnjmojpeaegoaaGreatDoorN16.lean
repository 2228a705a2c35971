/-
  TopDelivered returns true whatever the input, and the input reads behind the call as it read before, where the three listed tables of Go's library hold what the program's text lays: a part of the proof.
-/
import Derived.WalkSpells
import Derived.StillTactics
import Derived.OwnWalk
import Derived.Laws.Pointers
import Derived.Deep.RegionHeld3
import Derived.Deep.AppendLies
import Derived.Deep.DrawnRows
import Derived.Test.YtpnjmojpeaegoaaGreatDoorN15
set_option linter.unusedSimpArgs false
set_option linter.unusedVariables false
set_option maxRecDepth 100000
set_option maxHeartbeats 0
namespace Go.Proofs.YtpnjmojpeaegoaaGreatDoor.Sb
open Go.Eng Go.RowKit
def aCu:Value->Int
 | .int _ q=>q
 |_=>0
theorem WW (w:World):(zeroValue 25).run Tryz.prog w= .ok (.slice none 0 0) w:=V
theorem UN:(Tryz.prog.info? 3).map (λi=>(i.zero,i.size,i.bytes))=some (some (.int .i64 0),1,8):=V
section
variable {w : World} {b : Nat} {L : List (Int × List Int)} {X : Array MapEntry} {d : Nat}
theorem GM.look_run (h:GM w b 3 L X d) (z:Int): ∃v,(∀w2:World,w2.heap[b]? =w.heap[b]? ->(Instr.lookup 387 (.map (some b)) (.int .i64 z) false).run Tryz.prog w2= .ok v w2)/\ta w b 3 L X z v:=by
 obtain⟨v,K,H,n⟩:=h.look Tryz.underlying3 Tryz.underlying387 (WW w) z;refine⟨v,λw2 G=> ?_,H,n⟩;have A:w2.heap[b]? =some (.map X d):=G.trans h.hp;rcases rF (P:=Tryz.prog) (w:=w2) (s9 Tryz.underlying3 z) X.toList (h.kv Tryz.underlying3) with ⟨c,l⟩|⟨j,e,c,D,x⟩
 ·rcases n with ⟨rfl,_⟩|⟨i,q,a,_⟩
  ·simp[Instr.lookup,run_underlying Tryz.underlying387,Go.MapKept.run_getObj_map A,kY X.isEmpty (s9 Tryz.underlying3 z),c]
  ·exact absurd a (l _ jS)
 ·have t:j<X.size:=by simpa using(bM.1 D).1
  have f:X[j]=e:=by have:=(bM.1 D).2;simpa using this
  rcases n with ⟨rfl,_,l⟩|⟨i,q,a,rfl,_⟩
  ·exact absurd (by rw[f];exact x) (l j t)
  ·have F:i=j:=by
    have C:X[j].key= .int .i64 z:=by rw[f];exact x
    rcases kL i j with g|E|g
    ·exact absurd (a.trans C.symm) (h.ok.one i j g q t)
    ·exact E
    ·exact absurd (C.trans a.symm) (h.ok.one j i g t q)
   subst F;simp[Instr.lookup,run_underlying Tryz.underlying387,Go.MapKept.run_getObj_map A,kY X.isEmpty (s9 Tryz.underlying3 z),c,f]
end
theorem tD {x y:World} {r:Option Nat} (h:x.grownBy y r):x.grownBy y.drew r:=⟨h.os,h.tape,h.output,h.size,h.block⟩
theorem tE {x y:World} {r:Option Nat} (h:x.drew.grownBy y r):x.grownBy y r:=⟨h.os,h.tape,h.output,h.size,h.block⟩
theorem FD {x:World} {base n:Nat} {v:Value} {xs:List Value} {q:Nat} {cs:Array Value} {fr:Nat×Nat} (h:x.ownsRow base 3 1 v n xs) (a:x.heap[q]? =some (.cells cs 326 fr)):some q≠v.ownBlock:=by
 intro e;rcases h.2 with ⟨rfl,_⟩|⟨g,f,j,rfl,_,c,_⟩
 ·cases e
 ·obtain rfl:q=g:=by simpa [Value.ownBlock] using e
  rw[c] at a;simp at a
theorem Iy (l:List Cl_q1) (k:Nat) (a:l.length<=4000) (z:Int):((hU (pW (l.take k)) z).getD []).length<=100000:=by
 rw[U1];have:=N3 (l.take k) z;have:(l.take k).length<=l.length:=by rw[cT];omega
 omega
theorem Pm (l:List Cl_q1) (k:Nat) (a:l.length<=4000) (x y z:Int):((hU (Pg (pW (l.take k)) x y) z).getD []).length<=100000:=by
 rw[tc,U1,bD];have:=N3 (l.take k) z;have:(l.take k).length<=l.length:=by rw[cT];omega
 split<;>simp<;>omega
theorem x4 {B:Nat} {w x y:World} {r:Option Nat} (h:Go.RowKit.Below B w x) (f:B<=x.heap.size) (a:x.grownBy y r) (j: ∀g,r=some g->B<=g):Go.RowKit.Below B w y:=
 ⟨a.os.trans h.os,a.tape.trans h.tape,a.output.trans h.output,cO h.size a.size,λk c=>(a.block k (eS c f) (λe=>by have:=j k e.symm;omega)).trans (h.block k c)⟩
theorem Iz {x:World} {base n:Nat} {v:Value} {xs:List Value} (h:x.ownsRow (base+1) 3 1 v n xs): ∀g,v.ownBlock=some g->base<=g:=λg a=>by have:=(h.lt g a).1;omega
theorem kw {f:Array Oper} {o:Oper} {a:Act} {K:Act->World->Prop} {Q:Exit->Act->World->Prop} {E:Prop} {W:World} {B:Nat} {v:Value} {zs:List Int} (l:o.guard=none) (s x:Operand)
  (N:o.op= .call {callee:= .builtin .append,args:= #[s,x],argTypes:= #[25,25]}) (S:a.eval s=v) (j:W.ownsRow (B+1) 3 1 v zs.length (vI zs)) (q:Nat) (y:Int)
  (Y:a.eval x= .slice (some ⟨q,0,none⟩) 1 1) (O:W.heap[q]? =some (.cells #[.int .i64 y] 3 (0,0))) (a0:zs.length<=100000) (H:B+1<=W.heap.size)
  (L: ∀c e,e.ownsRow (B+1) 3 1 c (zs++[y]).length (vI (zs++[y]))->W.grownBy e v.ownBlock->(c.ownBlock=v.ownBlock\/ ∃g,c.ownBlock=some g/\W.heap.size<=g)->K (a.put o.dst c) e):
  if Region.wanted o (yielded f a.tmps)=true then Oper.wp Tryz.prog o a W K Q else E:=by
 obtain⟨i0,M,n,w,z⟩:=info_parts UN;have U:Region.wanted o (yielded f a.tmps)=true:=by simp[Region.wanted,l]
 rw[aE U];obtain⟨c,e,R,D,F,h4,G⟩:=run_append_own_at (P:=Tryz.prog) W (B+1) 25 o.type 3 i0 (.int .i64 0) 1 8 Tryz.underlying25 M n w z rfl jD v zs.length (vI zs) j ⟨q,0,none⟩ 1 1 [.int .i64 y] rfl
  (World.news_of_block (cs:= #[.int .i64 y]) (t:=3) (fr:=(0,0)) O) (by simp[Value.oneCell']) (by unfold maxLen;omega) J H
 unfold Oper.wp;simp[execOp,N,resolve,invoke,builtin,S,Y,R,Result.andThen];refine L c e ?_ F (G.imp id λh=>⟨_,h,aG _⟩);have A:(zs++[y]).length=zs.length+1:=jS
 have C:vI (zs++[y])=vI zs++[.int .i64 y]:=by simp[vI]
 rw[A,C];exact D
theorem Ja (g off cap:Nat) (l:List Cl_q1) (w:World) (hr:lN 400 l) (hl:l.length<=4000) (hg:g<w.heap.size)
  (hc: ∀k,k<l.length->w.cell? ⟨g,off+k*2,none⟩=some (.int .i64 (l.getD k dC).a)/\w.cell? ⟨g,off+k*2+1,none⟩=some (.int .i64 (l.getD k dC).b)):
  Calls Tryz.prog 275 #[.slice (some ⟨g,off,none⟩) l.length cap] w λe w'=>e= .returned (.map (some w.heap.size))/\ ∃X d,GM w' w.heap.size 3 (pW l) X d/\Go.RowKit.Below w.heap.size w w':=by
 have hmm:= @run_makeMap Tryz.prog;obtain⟨i0,hi,hz0,hz1,hz2⟩:=info_parts UN
 go_enter Tryz.func275,Tryz.ntmps275
 go_wp2
 go_loopw [9] (λi wr=> ∃k:Nat,k<=l.length/\i= .int .i64 k/\ ∃X d,GM wr w.heap.size 3 (pW (l.take k)) X d/\Go.RowKit.Below w.heap.size w wr)
  (λi _=>l.length-(aCu i).toNat)
 case atStart=>exact⟨0,bI _,rfl,#[],0,Ul w 3,(Go.RowKit.Below.refl _ _).alloc (aG _) _⟩
 case round=>
  obtain⟨k,hk,rfl,X,d,hgm,hnx⟩:=hrel;have hca:k<l.length->wr.cell? ⟨g,off+k*2,none⟩=some (.int .i64 (l.getD k dC).a):=λh=>(hnx.cell (by exact hg)).trans (hc k h).1;have hcb:k<l.length->wr.cell? ⟨g,off+k*2+1,none⟩=some (.int .i64 (l.getD k dC).b):=λh=>(hnx.cell (by exact hg)).trans (hc k h).2;have hrk:k<l.length->(0<=(l.getD k dC).a/\(l.getD k dC).a<800)/\(0<=(l.getD k dC).b/\(l.getD k dC).b<800):=λh=>hr _ (yA dC h);obtain⟨c,hcl⟩: ∃c,l.getD k dC=c:=⟨_,rfl⟩;rw[hcl] at hca hcb hrk
  go_wp2_with fail
  ·have hlt:k<l.length:=jA;obtain⟨hra,hrb⟩:=hrk hlt;have hgm0:=hgm.alloc (.cells #[.int .i64 c.a,.int .i64 c.b] 326);obtain⟨v,hlook,hat⟩:=hgm0.look_run (bits BinOp.xor IntKind.i64 c.a 1);have hB1:w.heap.size<(wr.alloc (.cells #[.int .i64 c.a,.int .i64 c.b] 326)).heap.size:=hgm0.lt;have hB2:w.heap.size<wr.heap.size:=hgm.lt;have hn1:=Iy l k hl (bits BinOp.xor IntKind.i64 c.a 1);have hbA:(wr.alloc (.cells #[.int .i64 c.a,.int .i64 c.b] 326)).heap[wr.heap.size]? =some (.cells #[.int .i64 c.a,.int .i64 c.b] 326 (0,0)):=heap_alloc_new wr _;have hgrw: ∀(x y:World),(wr.alloc (.cells #[.int .i64 c.a,.int .i64 c.b] 326)).grownBy x v.ownBlock->x.grownBy y v.ownBlock->(wr.alloc (.cells #[.int .i64 c.a,.int .i64 c.b] 326)).grownBy y v.ownBlock:=λx y h1 h2=>h1.trans h2;have hlocw: ∀(x:World) (u:Value),x.heap.size=wr.heap.size+2->(u.ownBlock=v.ownBlock\/ ∃g,u.ownBlock=some g/\x.heap.size<=g)->(u.ownBlock=v.ownBlock\/ ∃g,u.ownBlock=some g/\(wr.alloc (.cells #[.int .i64 c.a,.int .i64 c.b] 326)).heap.size<=g):=λx u hx h=>h.imp id λ⟨g,h1,h2⟩=>⟨g,h1,jO⟩;have hsz: ∀(x y:World),x.heap.size=wr.heap.size+2->x.grownBy y v.ownBlock->wr.heap.size<y.heap.size:=λx y h1 h2=>by have:=h2.size;omega
   have hnewb: ∀x:World,x.heap.size=wr.heap.size+1->(x.alloc (.cells #[.int .i64 c.b] 3)).heap[wr.heap.size+1]? =some (.cells #[.int .i64 c.b] 3 (0,0)):=λx hx=>by rw[<-hx];exact heap_alloc_new x _
   have hbase: ∀x:World,x.heap.size=wr.heap.size+2->w.heap.size+1<=x.heap.size:=λx hx=>J
   have hfar:some wr.heap.size≠v.ownBlock:=FD hat.1 hbA;have hfar2:some wr.heap.size≠some w.heap.size:=λe=>by have:=cK e;omega
   have hlk1:=hlook (wr.alloc (.cells #[.int .i64 c.a,.int .i64 c.b] 326)).drew rfl;have hlk2:=hlook ((wr.alloc (.cells #[.int .i64 c.a,.int .i64 c.b] 326)).alloc (.cells #[.int .i64 c.b] 3)).drew (Go.RowKit.Below.heap_alloc _ _ _ hB1)
   go_region_held3 (λw' => w'.cell? ⟨wr.heap.size, 0, none⟩ = some (.int .i64 c.a) /\ w'.cell? ⟨wr.heap.size, 1, none⟩ = some (.int .i64 c.b)) (first
    |go_keep
    |(go_split_ands;exact⟨by rw[hgrow.cell_far _ jO hfar];assumption,by rw[hgrow.cell_far _ jO hfar];assumption⟩)
    |(go_split_ands;exact⟨by rw[hgr2.cell_far _ jA hfar2];assumption,by rw[hgr2.cell_far _ jA hfar2];assumption⟩))
    ((refine kw (B:=w.heap.size) (v:=v) (zs:=(hU (pW (l.take k)) (bits BinOp.xor IntKind.i64 c.a 1)).getD []) jr _ _ jr jr (by first|exact(hat.1.alloc _).drew|exact((hat.1.drew).alloc _).drew|exact(hat.1.drew).alloc _) (wr.heap.size+1) c.b jr (hnewb _ jS) hn1 (hbase _ jS) ?_;intro v1 w1 hown1 hgrow hloc;have hsz1:=hsz _ _ jS hgrow;obtain⟨w2,es2,cl2,hset,hgm2,hgr2⟩:=hgm0.set Tryz.underlying3 Tryz.underlying387 hat.2 (hgrw _ _ (by first|exact tD (World.grownBy_alloc _ _ _)|exact tD (tE (World.grownBy_alloc _ _ _))|exact tE (World.grownBy_alloc _ _ _)) hgrow) hown1 (hlocw _ _ jS hloc)))
   all_goals (
    have hbA2:w2.heap[wr.heap.size]? =some (.cells #[.int .i64 c.a,.int .i64 c.b] 326 (0,0)):=
     (hgr2.block _ hsz1 hfar2).trans ((hgrow.block _ jO hfar).trans ((Go.RowKit.Below.heap_alloc _ _ _ jS).trans hbA))
    have hsz2:wr.heap.size<w2.heap.size:=eS hsz1 hgr2.size;have hall:=hgrw _ _ (by first|exact tD (World.grownBy_alloc _ _ _)|exact tD (tE (World.grownBy_alloc _ _ _))|exact tE (World.grownBy_alloc _ _ _)) hgrow
    clear hlk1 hlk2 hlook hset hnewb hbase hlocw hgrw hsz;have hcA:w2.cell? ⟨wr.heap.size,0,none⟩=some (.int .i64 c.a):=by rw[cell_of_row w2 _ 0 _ _ _ hbA2];rfl
    have hcB:w2.cell? ⟨wr.heap.size,1,none⟩=some (.int .i64 c.b):=by rw[cell_of_row w2 _ 1 _ _ _ hbA2];rfl
    have hltB:w.heap.size<w2.heap.size:=hgm2.lt;change GM w2 w.heap.size 3 (Pg (pW (l.take k)) (bits BinOp.xor IntKind.i64 c.a 1) c.b) es2 cl2 at hgm2;have hbel2:Go.RowKit.Below w.heap.size w w2:=x4 (x4 (hnx.alloc hnx.size _) J hall (Iz hat.1)) J hgr2 (λg e=>by cases e;exact aG _);obtain⟨u,hlook4,hat4⟩:=hgm2.look_run (bits BinOp.xor IntKind.i64 c.b 1);have hn4:=Pm l k hl (bits BinOp.xor IntKind.i64 c.a 1) c.b (bits BinOp.xor IntKind.i64 c.b 1);have hfar4:some wr.heap.size≠u.ownBlock:=FD hat4.1 hbA2;have hlk3:=hlook4 w2.drew rfl;have hlk4:=hlook4 (w2.alloc (.cells #[.int .i64 c.a] 3)).drew (Go.RowKit.Below.heap_alloc _ _ _ hltB);have hgrw4: ∀(x y:World),w2.grownBy x u.ownBlock->x.grownBy y u.ownBlock->w2.grownBy y u.ownBlock:=λx y h1 h2=>h1.trans h2;have hlocw4: ∀(x:World) (t:Value),x.heap.size=w2.heap.size+1->(t.ownBlock=u.ownBlock\/ ∃g,t.ownBlock=some g/\x.heap.size<=g)->(t.ownBlock=u.ownBlock\/ ∃g,t.ownBlock=some g/\w2.heap.size<=g):=λx t hx h=>h.imp id λ⟨g,h1,h2⟩=>⟨g,h1,J⟩;have hsz4: ∀(x y:World),x.heap.size=w2.heap.size+1->x.grownBy y u.ownBlock->wr.heap.size<y.heap.size:=λx y h1 h2=>by have:=h2.size;omega
    have hnewb4: ∀x:World,x.heap.size=w2.heap.size->(x.alloc (.cells #[.int .i64 c.a] 3)).heap[w2.heap.size]? =some (.cells #[.int .i64 c.a] 3 (0,0)):=λx hx=>by rw[<-hx];exact heap_alloc_new x _
    have hbase4: ∀x:World,x.heap.size=w2.heap.size+1->w.heap.size+1<=x.heap.size:=λx hx=>J
    clear hgm0 hlt hca hcb hrk hc
    go_wp2_with fail
    go_region_held3 (λw' => w'.cell? ⟨wr.heap.size, 0, none⟩ = some (.int .i64 c.a) /\ w'.cell? ⟨wr.heap.size, 1, none⟩ = some (.int .i64 c.b)) (first
     |go_keep
     |(go_split_ands;exact⟨by rw[hgrow3.cell_far _ jO hfar4];assumption,by rw[hgrow3.cell_far _ jO hfar4];assumption⟩)
     |(go_split_ands;exact⟨by rw[hgr4.cell_far _ jA hfar2];assumption,by rw[hgr4.cell_far _ jA hfar2];assumption⟩))
     ((refine kw (B:=w.heap.size) (v:=u) (zs:=(hU (Pg (pW (l.take k)) (bits BinOp.xor IntKind.i64 c.a 1) c.b) (bits BinOp.xor IntKind.i64 c.b 1)).getD []) jr _ _ jr jr (by first|exact(hat4.1.alloc _).drew|exact((hat4.1.drew).alloc _).drew|exact(hat4.1.drew).alloc _) w2.heap.size c.a jr (hnewb4 _ jS) hn4 (hbase4 _ jS) ?_;intro v3 w3 hown3 hgrow3 hloc3;have hsz3:=hsz4 _ _ jS hgrow3;obtain⟨w4,es4,cl4,hset4,hgm4,hgr4⟩:=hgm2.set Tryz.underlying3 Tryz.underlying387 hat4.2 (hgrw4 _ _ (by first|exact tD (World.grownBy_alloc _ _ _)|exact tD (tE (World.grownBy_alloc _ _ _))|exact tE (World.grownBy_alloc _ _ _)) hgrow3) hown3 (hlocw4 _ _ jS hloc3)))
    all_goals (
     have hall3:=hgrw4 _ _ (by first|exact tD (World.grownBy_alloc _ _ _)|exact tD (tE (World.grownBy_alloc _ _ _))|exact tE (World.grownBy_alloc _ _ _)) hgrow3
     have hsz5:wr.heap.size<w4.heap.size:=eS hsz3 hgr4.size;have hbel4:Go.RowKit.Below w.heap.size w w4:=x4 (x4 hbel2 J hall3 (Iz hat4.1)) J hgr4 (λg e=>by cases e;exact aG _);clear hlk3 hlk4 hlook4 hset4 hnewb4 hbase4 hlocw4 hgrw4 hsz4
     go_wp2
     go_roundw
     case rel=>refine⟨k+1,J,by go_num,es4,cl4,?_,hbel4⟩;have e1:bits BinOp.xor IntKind.i64 c.a 1=wZ c.a:=Z3 hra.1 J;have e2:bits BinOp.xor IntKind.i64 c.b 1=wZ c.b:=Z3 hrb.1 J;rw[e1,e2] at hgm4;rw[Iv l k J,hcl];exact hgm4
     case measure=>simp[aCu];omega))
  ·have hk2:k=l.length:=J;subst hk2
   go_ret
   rw[eJ] at hgm;exact⟨rfl,X,d,hgm,hnx⟩
theorem th (p:Option Addr) (cap:Nat) (w:World):Calls Tryz.prog 275 #[.slice p 0 cap] w λe w'=>e= .returned (.map (some w.heap.size))/\ ∃es clock,GM w' w.heap.size 3 [] es clock/\Go.RowKit.Below w.heap.size w w':=by
 have hmm:= @run_makeMap Tryz.prog
 go_enter Tryz.func275,Tryz.ntmps275
 go_wp2
 refine wp_loop_rounds 1 ?_;rw[rounds_succ]
 go_wp2
 go_ret
 exact⟨rfl,#[],0,Ul w 3,(Go.RowKit.Below.refl _ _).alloc (aG _) _⟩
theorem Jc (l:List Cl_q1) (hr:lN 400 l) (hl:l.length<=4000):cC 275 [.rs 2 l.length (lL l)] [] (gM l):=by
 refine⟨⟨_,Tryz.func275,V,rfl⟩,λw f O P _=> ?_⟩;obtain⟨v,rfl⟩: ∃v,f=[v]:=by
  match f,O with
  |[v],_=>exact⟨v,rfl⟩
 have C:=P 0 jS jS;simp only[fE] at C;have done: ∀(e:Ending) (c:World),((e= .returned (.map (some w.heap.size))/\ ∃H D,GM c w.heap.size 3 (pW l) H D/\Go.RowKit.Below w.heap.size w c)/\w.drawn<=c.drawn)->
   ∃(v:Value) (t:Bd),e= .returned v/\Go.Eng.Below w.heap.size w c/\DG t ([]:List AO).length (FX (λg=>g<w.heap.size) t 0 []) w.heap.size c 0 []/\Rep t ([]:List AO).length (FX (λg=>g<w.heap.size) t 0 []) c (gM l) v:=by
  rintro e c ⟨⟨rfl,H,D,R,A⟩,hd⟩;refine⟨_,⟨λ_=>0,λ_=>undef⟩,rfl,⟨A,hd⟩,⟨λj o h=>jh,λj o g h=>jh,λj j' o o' g h=>jh⟩,.pure _ _ (R.rm λg M K=> ?_)⟩;have:=DH K;omega
 generalize z:l.length=n at C;cases C with
 |rsnil=>obtain rfl:l=[]:=fA z;exact(W4 (th none 0 w) λ_ _ h=>by rw[h.1];exact λh=>jC).mono λe c h=>done e c h
 |rsz _ _ a=>obtain rfl:l=[]:=fA z;exact(W4 (th (some a) 0 w) λ_ _ h=>by rw[h.1];exact λh=>jC).mono λe c h=>done e c h
 |rs _ _ _ g S Q f hn hm K M a0 L h1 N=>
  subst z;refine(W4 (Ja g S Q l w hr hl M λk q=> ?_) λ_ _ h=>by rw[h.1];exact λh=>jC).mono λe c h=>done e c h;have Y:=N k 0 q (by show 0<2;decide);have A:=N k 1 q (by show 1<2;decide);have F:=L k 0 q jD;have G:=L k 1 q jD;have E: ∀(x:Int) (u:Value),Rep0 (λ_=>False) w (.I x) u->u= .int .i64 x:=λx u h=>by cases h;rfl
  have U:f k 0= .int .i64 (l.getD k dC).a:=E _ _ Y;have W:f k 1= .int .i64 (l.getD k dC).b:=E _ _ A;rw[U] at F;rw[W] at G;exact⟨F,G⟩
end Go.Proofs.YtpnjmojpeaegoaaGreatDoor.Sb
namespace Go.Proofs.YtpnjmojpeaegoaaGreatDoor.Sb
open Go.Eng
def UO (l:List Cl_q1) (S:List Int) (a:Bool):List AO:=[.cells 152 [.mo 4],.cells 4 [.b a],.cells 387 [gM l],.cells 252 [.fn 352 [.p 0 0,.p 1 0,.p 2 0,.p 3 0]],aH5 S]
structure AddS (l:List Cl_q1) (S:List Int) (fine:Bool) (lits:List Int) (y:List Int×Bool):Prop where
 ad:Adds l S y.1 lits
 nd:y.1.Nodup
 rg: ∀x∈y.1,0<=x/\x<800
 fl:y.2=true↔fine=true/\ ¬rX S y.1
theorem Adds.none {l:List Cl_q1} {S:List Int} {x:Int} (h:x∈S):Adds l S S [x]:=
 ⟨λ_ h=>h,λy a=>by rw[bV.1 a];exact h,λy a c=>absurd a c,λy a c=>absurd a c⟩
theorem Adds.node {l:List Cl_q1} {S T:List Int} {x:Int} (n:x∉S) (h:Adds l (S++[x]) T (lA l x)):Adds l S T [x]:=by
 refine⟨λy a=>h.sub y (iE _ a),λy a=> ?_,λy a f z e=> ?_,λy a f=> ?_⟩
 ·rw[bV.1 a];exact h.sub x jS
 ·by_cases c:y=x
  ·subst c;exact h.root z e
  ·exact h.cl y a (by simp[f,c]) z e
 ·by_cases c:y=x
  ·subst c;exact⟨y,jS,.refl _⟩
  ·obtain⟨r,j,g⟩:=h.fr y a (by simp[f,c]);exact⟨x,jS,(Rc.step (.refl _) j).trans g⟩
theorem Xz {S:List Int} {x:Int} (f:x∉S):rX S (S++[x])↔wZ x∈S++[x]:=by
 constructor
 ·rintro⟨y,a,e,c⟩;rcases cR.1 a with a|a
  ·exact absurd a e
  ·rw[bV.1 a] at c;exact c
 ·intro c;exact⟨x,jS,f,c⟩
theorem ik {S:List Int} (a:S.Nodup) (c: ∀x∈S,0<=x/\x<800):S.length<=800:=vZ (m:=800) a λx e=>c x e
theorem FE {S:List Int} {x:Int} (e:S.Nodup) (f: ∀x∈S,0<=x/\x<800) (g:0<=x/\x<800) (c:x∉S):(S++[x]).Nodup/\(∀y∈S++[x],0<=y/\y<800):=by
 have:=Xw (k:=x) e;rw[pj c] at this;refine⟨this,λy a=> ?_⟩;rcases cR.1 a with a|a
 ·exact f y a
 ·rw[bV.1 a];exact g
theorem Ya {l:List Cl_q1} {S T U:List Int} {k:Nat} {o:List Int} (a:k<o.length) (c:Adds l S T (o.take k)) (f:Adds l T U [o.getD k 0]):Adds l S U (o.take (k+1)):=by
 have:=c.trans f;have e:o.take (k+1)=o.take k++[o.getD k 0]:=by rw[bS a];simp[List.getD,a]
 rw[e];exact this
structure AddL (l:List Cl_q1) (S:List Int) (fine:Bool) (lits:List Int) (y:List Int×Bool):Prop where
 ad:Adds l S y.1 lits
 nd:y.1.Nodup
 rg: ∀x∈y.1,0<=x/\x<800
 fl:y.2=true↔fine=true/\ ¬rX S y.1
theorem AddL.snoc {l:List Cl_q1} {S:List Int} {e:Bool} {k:Nat} {o T:List Int} {fn:Bool} {y:List Int×Bool} (f:k<o.length) (c:AddL l S e (o.take k) (T,fn)) (a:AddS l T fn [o.getD k 0] y):AddL l S e (o.take (k+1)) y:=
 ⟨Ya f c.ad a.ad,a.nd,a.rg,by rw[a.fl,c.fl,kr c.ad.sub a.ad.sub];constructor<;>intro h<;>simp_all⟩
theorem AddL.node {l:List Cl_q1} {S:List Int} {e:Bool} {x:Int} (f:x∉S) {y:List Int×Bool} (h:AddL l (S++[x]) (e&& !decide (wZ x∈S++[x])) (lA l x) y):AddS l S e [x] y:=
 ⟨Adds.node f h.ad,h.nd,h.rg,by
  rw[h.fl,kr (λa g=>iE _ g) h.ad.sub,Xz f];rw[aW,dQ,bH];constructor
  ·rintro⟨⟨a,b⟩,c⟩;exact⟨a,λh=>h.elim b c⟩
  ·rintro⟨a,b⟩;exact⟨⟨a,λh=>b (.inl h)⟩,λh=>b (.inr h)⟩⟩
theorem Uo: ∀{l m:List Int},l.Nodup->(∀x∈l,x∈m)->l.length<=m.length
 |[],m,_,_=>jS
 |a::r,m,h,c=>by rw[jQ] at h;have:=Uo (m:=m.erase a) h.2 λx f=>(List.mem_erase_of_ne (λe:x=a=>h.1 (by rw[<-e];exact f))).2 (c x (by simp[f]));rw[vP (c a jS)] at this;have g:0<m.length:=List.length_pos_of_mem (c a jS);rw[gR];omega
theorem tj {n:Int} {l:List Cl_q1} (e:lN n l) (x:Int): ∀y∈lA l x,0<=y/\y<2*n:=by
 intro y f;obtain⟨c,a,h⟩:=T9.1 (show Ed l x y from f);have:=e c a;rcases h with ⟨_,rfl⟩|⟨_,rfl⟩
 ·exact this.2
 ·exact this.1
theorem AddL.none {l:List Cl_q1} {S:List Int} {a:Bool} (c:S.Nodup) (e: ∀x∈S,0<=x/\x<800):AddL l S a [] (S,a):=
 ⟨Adds.refl l S,c,e,by simp[yU]⟩
theorem aJ6 (l:List Cl_q1) (K:lN 400 l) (R:l.length<=4000): ∀(m:Nat) (S:List Int) (j:Bool) (f:Int),S.Nodup->(∀x∈S,0<=x/\x<800)->0<=f/\f<800->800-S.length=m->
  cM 352 true (UO l S j) [.I f,.p 0 0,.p 1 0,.p 2 0,.p 3 0] (AddS l S j [f]) (λy=>UO l y.1 y.2) (λ_=>[]) (λ_=> .tup []):=by
 intro m
 induction m using Nat.strongRecOn with
 |_ m L=>
 intro S j f z t D U;have P:=ik z t;refine sE Tryz.func352 [] [] ?_
 repeat apply jL
 refine⟨_,_,⟨λ_ _=>rfl,rfl,E3 S f⟩,?_⟩;refine jB (decide (f∈S)) (λh=> ?_) λh=> ?_
 ·rw[aM] at h;exact⟨⟨(S,j),[],⟨Adds.none h,z,t,by simp[yU]⟩,⟨nU,⟨qF,qF,qF,qF,⟨rfl,rfl,trivial,nr⟩,trivial⟩,rfl⟩,rfl,λh=>jC⟩⟩
 rw[bH] at h;obtain⟨q,C⟩:=FE z t D h;have n:=ik q C;rw[bD] at n;have n:S.length+1<=800:=n;refine⟨_,_,_,_,_,⟨λ_ _=>rfl,rfl,zm S f⟩,?_⟩;rw[pj h];have H:k4 (S++[f]).length (λi=> .I ((S++[f]).getD i 0)) (λ_=> .b true) (.I (o3 BinOp.xor IntKind.i64 f 1)) (.b (decide (wZ f∈S++[f]))) (.b false) (decide (wZ f∈S++[f])):=by rw[Z3 D.1 J];exact E3 (S++[f]) (wZ f)
 refine⟨_,_,⟨λ_=>⟨λ_ _=>rfl,rfl,H⟩,?_⟩⟩;refine⟨_,_,⟨λ_ _=>rfl,rfl,Iw l f⟩,?_⟩;have O:=N3 l f;refine⟨[],Nat×(List Int×Bool),λx=>x.1<=(lA l f).length/\AddL l (S++[f]) (j&& !decide (wZ f∈S++[f])) ((lA l f).take x.1) x.2,λx=>[⟨25,[],.I x.1⟩],λx=>[⟨1,[],.cells 4 [.b x.2.2]⟩,⟨4,[],aH5 x.2.1⟩],λx=>(lA l f).length-x.1,
  ⟨(0,(S++[f],j&& !decide (wZ f∈S++[f]))),[],⟨bI _,AddL.none q C⟩,rfl,rfl,rfl,rfl,rfl,nT,⟨⟨rfl,eV.refl _⟩,nr⟩⟩,?_⟩
 rintro⟨k,T,fn⟩ ⟨Q,g⟩;have N:S.length+1<=T.length:=by have:=Uo q g.ad.sub;rw[bD] at this;exact this
 have M:=ik g.nd g.rg;refine .inl ⟨λw=> ?_,λw=> ?_⟩
 ·have w:=pH w;have G:=tj K f ((lA l f).getD k 0) (tQ J);refine .inl ⟨⟨jM,jM⟩,?_⟩;refine .inr (.inr ⟨true,[0,1,2,3,4],rfl,_,_,_,_,_,L (800-T.length) J T fn ((lA l f).getD (k:Int).toNat 0) g.nd g.rg (by rw[aQ];exact G) rfl,λy E=> ?_⟩);rw[aQ] at E;refine⟨(k+1,y),[],⟨jM,AddL.snoc J g E⟩,jM,rfl,rfl,rfl,rfl,rfl,nV,⟨⟨rfl,eV.refl _⟩,nr⟩⟩
 ·have w:=iT w;have F:(lA l f).take k=lA l f:=fR J;have g:AddL l (S++[f]) (j&& !decide (wZ f∈S++[f])) ((lA l f).take k) (T,fn):=g;rw[F] at g;exact⟨⟨(T,fn),[],AddL.node h g,⟨nU,⟨qF,qF,qF,qF,⟨rfl,rfl,trivial,nr⟩,trivial⟩,rfl⟩,rfl,λh=>jC⟩⟩
theorem zo (l:List Cl_q1) (C:lN 400 l) (z:l.length<=4000) (S a:List Int) (f val:Nat->AV) (born:Nat->Nat) (n: ∀k,k<S.length->f k= .I (S.getD k 0)/\val k= .b true/\born k=k) (A:S.Nodup) (t: ∀x∈S,0<=x/\x<800) (w: ∀x∈a,0<=x/\x<800) (nl:a.length<2^62):
  cM 320 false [.mp S.length f val born S.length] [gM l,.mo 0,.rs 1 a.length (nB a)] (AddL l S true a) (λy=>[aH5 y.1]) (λ_=>[]) (λy=> .b y.2):=by
 refine sE Tryz.func320 [.tmp 6] [] ?_;refine .inl ⟨[],Nat×(List Int×Bool),λx=>x.1<=a.length/\AddL l S true (a.take x.1) x.2,λx=>[⟨14,[],.I x.1⟩],λx=>[⟨3,[],.cells 4 [.b x.2.2]⟩,⟨0,[],aH5 x.2.1⟩],λx=>a.length-x.1,
  ⟨(0,(S,true)),[],⟨bI _,AddL.none A t⟩,rfl,rfl,rfl,rfl,rfl,nT,⟨⟨rfl,eV.refl _⟩,⟨rfl,rfl,λk g=>n k g⟩⟩⟩,?_⟩
 rintro⟨k,T,fn⟩ ⟨g,c⟩;refine .inl ⟨λe=> ?_,λe=> ?_⟩
 ·have e:=pH e;have q:=w (a.getD k 0) (tQ J);refine .inl ⟨⟨jM,jM⟩,?_⟩;refine .inr (.inr ⟨true,[2,3,1,4,0],rfl,_,_,_,_,_,aJ6 l C z (800-T.length) T fn (a.getD (k:Int).toNat 0) c.nd c.rg (by rw[aQ];exact q) rfl,λy h=> ?_⟩);rw[aQ] at h;refine⟨(k+1,y),[],⟨jM,AddL.snoc J c h⟩,jM,rfl,rfl,rfl,rfl,rfl,nV,⟨⟨rfl,eV.refl _⟩,nr⟩⟩
 ·have e:=iT e;have j:a.take k=a:=fR J;have c:AddL l S true (a.take k) (T,fn):=c;rw[j] at c;exact⟨⟨(T,fn),[],c,⟨nU,⟨⟨rfl,rfl,trivial,nr⟩,trivial⟩,rfl⟩,rfl,λ_=>⟨rfl,λ_ _=>nT⟩⟩⟩
theorem FF (l:List Cl_q1) (h:lN 400 l) (f:l.length<=4000) (S a:List Int) (g:S.Nodup) (c: ∀x∈S,0<=x/\x<800) (e: ∀x∈a,0<=x/\x<800) (nl:a.length<2^62):
  cM 320 false [aH5 S] [gM l,.mo 0,.rs 1 a.length (nB a)] (AddL l S true a) (λy=>[aH5 y.1]) (λ_=>[]) (λy=> .b y.2):=
 zo l h f S a _ _ _ (λ_ _=>⟨rfl,rfl,rfl⟩) g c e nl
theorem Yb (l:List Cl_q1) (g:lN 400 l) (f:l.length<=4000) (a:List Int) (c: ∀x∈a,0<=x/\x<800) (nl:a.length<2^62):
  cM 320 false [.mp 0 (λ_=> .u) (λ_=> .u) (λ_=>0) 0] [gM l,.mo 0,.rs 1 a.length (nB a)] (AddL l [] true a) (λy=>[aH5 y.1]) (λ_=>[]) (λy=> .b y.2):=
 zo l g f [] a _ _ _ (λk e=>absurd e jS) jS jS c nl
theorem Adds.congr {l:List Cl_q1} {S g T r:List Int} (f: ∀x,x∈S↔x∈g) (h:Adds l S T r):Adds l g T r:=
 ⟨λx a=>h.sub x ((f x).2 a),h.root,λx a c y e=>h.cl x a (λj=>c ((f x).1 j)) y e,λx a c=>h.fr x a λj=>c ((f x).1 j)⟩
theorem Jd {S a T:List Int} (c: ∀x,x∈S↔x∈a):rX S T↔rX a T:=by unfold rX;simp only[c]
theorem aCv {n:Int} {l:List Cl_q1} (a:lN n l) {x y:Int} (h:Rc l x y) (c:0<=x/\x<2*n):0<=y/\y<2*n:=by
 induction h with
 |refl=>exact c
 |step _ e _=>exact tj a _ _ e
theorem Adds.rg {n:Int} {l:List Cl_q1} (k:lN n l) {S T r:List Int} (h:Adds l S T r) (g: ∀x∈S,0<=x/\x<2*n) (e: ∀x∈r,0<=x/\x<2*n): ∀x∈T,0<=x/\x<2*n:=by
 intro x q;by_cases c:x∈S
 ·exact g x c
 ·obtain⟨a,j,f⟩:=h.fr x q c;exact aCv k f (e a j)
theorem RetIs.sob {c d:Bool} {e sz n n':Nat} {get a:Nat->List AV} {id nid:Nat} {O:List OE} (hg:fK id O=some ([],.row e sz n' a)) (h:n'=n) (hget: ∀k,k<n->a k=get k) (g: ∀k,k<n->AV.freshs (get k)=true) (f:d=c):
  RetIs [.row e sz n get] (.tup [.so 0,.b c]) (.tup [.so id,.b d]) O nid:=by
 subst h;subst f;refine⟨[(0,id)],⟨⟨⟨rfl,rfl,?_⟩,trivial⟩,⟨⟨rfl,rfl,trivial,?_⟩,trivial⟩,rfl⟩,rfl,g⟩
 ·exact rfl
 ·exact mH
theorem WX {a:List Bool} {b:Bool} (h:a.length<400):IntKind.i64.wrap ((a.length:Int)+1)=((a++[b]).length:Nat):=by rw[bD];exact wr J J
theorem upB (a:List Bool) (b:Bool) (n:Nat): ∀k,k<n->(if k=((a.length:Nat):Int).toNat then Go.Eng.over_q0 0 [AV.b b] [AV.b (a.getD k false)] else [AV.b (a.getD k false)])=[AV.b ((a++[b]).getD k false)]:=by
 intro k _;rw[aQ,xP];by_cases h:k=a.length
 ·rw[aE h,aB J,aE h];rfl
 ·rw[aB h];by_cases c:k<a.length
  ·rw[aE c]
  ·rw[aB c,aB h];simp[List.getD,eY (by omega:a.length<=k)]
theorem tC.of_eqs {P:Program} {f:FuncId} {al:Bool} {aHd:List AO} {args k:List AV} {Y:Type} {g:Y->Prop} {e os:Y->List AO} {r:Y->AV} (a:vX args k)
  (h:tC P f al aHd args g e os r):tC P f al aHd k g e os r:=
 ⟨h.1,λF w E D n q t x z A C=>h.2 F w E D n q t x z (a.get.1.trans A) λj c l=>(a.get.2 j c (by rw[<-a.get.1];exact c)).rep (C j (by rw[<-a.get.1];exact c) l)⟩
theorem zp (l:List Cl_q1) (j:lN 400 l) (g:l.length<=4000) (S:List Int) (x a:Int) (e:a=x) (h:S.Nodup) (c: ∀x∈S,0<=x/\x<800) (n:0<=x/\x<800):
  cM 320 false [aH5 S] [gM l,.mo 0,.rs 1 1 (kJ 1 [.I a])] (AddL l S true [x]) (λy=>[aH5 y.1]) (λ_=>[]) (λy=> .b y.2):=by
 subst e;refine tC.of_eqs (args:=[gM l,.mo 0,.rs 1 1 (nB [a])]) ⟨eV.refl _,rfl,⟨rfl,rfl,λk f=> ?_⟩⟩ (FF l j g S [a] h c (λy q=>by rw[bV.1 q];exact n) jS);obtain rfl:k=0:=by have:k<1:=f;omega
 rfl
theorem aJc (a:List Bool) (k:Nat):[AV.b (a.getD k false)]=[AV.b ((a++[false]).getD k false)]:=by
 rw[xP];by_cases h:k<a.length
 ·rw[aE h]
 ·rw[aB h];simp[List.getD,eY (by omega:a.length<=k)]
theorem OY: ∀{m:Nat} {l:List Nat},l.Nodup->(∀x∈l,x<m)->l.length<=m:=by
 intro m l h f;have a:((l.map λi:Nat=>(i:Int))).Nodup:=by rw[List.Nodup,gQ];exact h.imp λh e=>h J
 have:=vZ (m:=m) a λx g=>by obtain⟨i,c,rfl⟩:=fL.1 g;have:=f i c;omega
 rw[fC] at this;exact this
theorem Yc {S:List Int} {c:List Nat} {i:Nat} (z:S.Nodup) (A:c.Nodup) (q: ∀i∈c,i<S.length) (hi:i<S.length) (h:i∉c):
  (c++[i]).Nodup/\(∀j∈c++[i],j<S.length)/\S.length-(c++[i]).length<S.length-c.length/\aHd (c.map λi=>S.getD i 0) (S.getD i 0)=(c++[i]).map λi=>S.getD i 0:=by
 have l:(c++[i]).Nodup:=by rw[iI];refine⟨A,jS,λa t b w=> ?_⟩;rw[bV.1 w];rintro rfl;exact h t
 have n: ∀j∈c++[i],j<S.length:=λj f=>by
  rcases cR.1 f with f|f
  ·exact q j f
  ·rw[bV.1 f];exact hi
 have g:=OY l n;rw[bD] at g|-;have g:c.length+1<=S.length:=g;refine⟨l,n,by show S.length-(c.length+1)<_;omega,?_⟩;rw[pj,fJ]
 ·rfl
 ·intro x;obtain⟨j,f,e⟩:=fL.1 x;exact h (N1 z (q j f) hi e▸f)
theorem N4 {S:List Int} {a:List Nat} (k:S.Nodup) (l:a.Nodup) (f: ∀i∈a,i<S.length) (g: ∀i,i<S.length->i∈a):
  (a.map λi=>S.getD i 0).Nodup/\ ∀x,x∈(a.map λi=>S.getD i 0)↔x∈S:=by
 refine⟨?_,λx=>⟨λh=> ?_,λh=> ?_⟩⟩
 ·rw[List.Nodup,gQ];exact vO (λn j h e=>h (N1 k (f _ n) (f _ j) e)) l
 ·obtain⟨i,c,rfl⟩:=fL.1 h;exact tQ (f i c)
 ·obtain⟨i,c,e⟩:=tR h;exact fL.2 ⟨i,g i c,e⟩
def FH:Option (List Bool)->List AO
 |some a=>[.row 4 1 a.length λk=>[.b (a.getD k false)]]
 |none=>[]
def FI:Option (List Bool)->AV
 |some _=> .tup [.so 0,.b true]
 |none=> .tup [.val (.slice none 0 0),.b false]
theorem aI0 (l:List Cl_q1) (n:Nat) (F:lN n l) (hn:n<=400) (hl:l.length<=4000) (g:List Int) (R: ∀x∈g,0<=x/\x<2*(n:Int)) (nl:g.length<2^62):
  cC 276 [gM l,.I n,.rs 1 g.length (nB g)] (FH (pM l n g)) (FI (pM l n g)):=by
 have U:lN 400 l:=λc j=>by have:=F c j;omega
 refine hZ Tryz.func276 [.tmp 6,.tmp 7] [(5,[.sl 13 .u,.sl 15 .u])] ?_;refine .inl (.inr (.inr ⟨false,[0],rfl,_,_,_,_,_,Yb l U hl g (λx w=>by have:=R x w;omega) nl,λy G=> ?_⟩));refine jB (!y.2) (λY=> ?_) λY=> ?_
 ·have Q:rX [] y.1:=oH λh=>by have:=G.fl.2 ⟨rfl,h⟩;rw[this] at Y;cases Y
  have e:pM l n g=none:=x3.2 (Iq G.ad Q);rw[e];exact⟨ng⟩
 have Q: ¬rX [] y.1:=(G.fl.1 (by simpa using Y)).2;have a5:FirstInv l n g y.1 []:=FirstInv.start G.ad Q;refine⟨⟨rfl,J,by rw[aQ];show 1*n<=_;omega⟩,?_⟩;have a4: ∀x∈y.1,0<=x/\x<2*(n:Int):=G.ad.rg F jS R;refine .inl ⟨trivial,trivial,?_⟩;refine⟨[],List Int×List Bool,λx=>x.2.length<=n/\FirstInv l n g x.1 x.2/\x.1.Nodup/\(∀a∈x.1,0<=a/\a<2*(n:Int)),λx=>[⟨22,[],.I x.2.length⟩,⟨8,[],.mo 0⟩],λx=>[⟨0,[],aH5 x.1⟩,⟨1,[],.row 4 1 n λk=>[.b (x.2.getD k false)]⟩],λx=>n-x.2.length,
  ⟨(y.1,[]),[],⟨bI _,a5,G.nd,a4⟩,rfl,rfl,rfl,rfl,rfl,⟨nT,rfl⟩,⟨nr,⟨rfl,rfl,rfl,λ_ _=>rfl⟩⟩⟩,?_⟩
 rintro⟨S,f⟩ ⟨O,L,D,E⟩;refine .inl ⟨λj=> ?_,λj=> ?_⟩
 ·have j:=pH j;have j:(f.length:Int)<n:=j;have w2:IntKind.i64.wrap (2*(f.length:Int))=2*f.length:=wr J J;have w3:IntKind.i64.wrap (IntKind.i64.wrap (2*(f.length:Int))+1)=2*f.length+1:=by rw[w2];exact wr J J
  have a3:k4 S.length (λi=> .I (S.getD i 0)) (λ_=> .b true) (.I (IntKind.i64.wrap (2*(f.length:Int)))) (.b (decide (2*(f.length:Int)∈S))) (.b false) (decide (2*(f.length:Int)∈S)):=by rw[w2];exact E3 S _
  have a8:k4 S.length (λi=> .I (S.getD i 0)) (λ_=> .b true) (.I (IntKind.i64.wrap (IntKind.i64.wrap (2*(f.length:Int))+1))) (.b (decide (2*(f.length:Int)+1∈S))) (.b false) (decide (2*(f.length:Int)+1∈S)):=by rw[w3];exact E3 S _
  refine .inl (.inl ⟨_,_,⟨λ_ _=>rfl,rfl,a3⟩,?_⟩);refine⟨_,_,⟨λ_=>⟨λ_ _=>rfl,rfl,a8⟩,?_⟩⟩;refine jB (decide (2*(f.length:Int)∈S)||decide (2*(f.length:Int)+1∈S)) (λY=> ?_) λY=> ?_
  ·have a6:2*(f.length:Int)∈S\/2*(f.length:Int)+1∈S:=by simpa using Y
   refine⟨_,_,⟨λ_ _=>rfl,rfl,a3⟩,?_⟩;refine⟨⟨jM,jM⟩,?_⟩;refine⟨jM,?_⟩;refine⟨(S,f++[decide (2*(f.length:Int)∈S)]),[],⟨jO,L.known a6,D,E⟩,jO,rfl,rfl,rfl,rfl,rfl,⟨⟨rfl,?_⟩,rfl⟩,⟨nr,⟨rfl,rfl,rfl,?_⟩⟩⟩
   ·exact WX J
   ·exact upB f _ n
  ·refine .inl ⟨[],List Nat,λt=>t.Nodup/\ ∀i∈t,i<S.length,λ_=>[],λt=>[⟨2,[],aH5 (t.map λi=>S.getD i 0)⟩,⟨3,[],.it 0 S.length t⟩],λt=>S.length-t.length,
    ⟨[],[],⟨jS,jS⟩,rfl,rfl,rfl,rfl,rfl,trivial,⟨⟨rfl,rfl,λk O=>absurd O jS⟩,⟨rfl,rfl,rfl⟩⟩⟩,?_⟩
   rintro t ⟨H,K⟩;refine⟨rfl,λi hi cq=> ?_,λP=> ?_⟩
   ·refine .inl ⟨λ_=> ?_,λh=>jC⟩;refine⟨i,⟨hi,jS,rfl⟩,?_⟩;refine⟨_,_,_,_,_,⟨λ_ _=>rfl,rfl,zm (t.map λi=>S.getD i 0) (S.getD i 0)⟩,?_⟩;obtain⟨g1,g2,g3,g4⟩:=Yc D H K hi (by simpa using cq);rw[g4];exact⟨t++[i],[],⟨g1,g2⟩,g3,rfl,rfl,rfl,rfl,rfl,trivial,⟨nr,⟨rfl,rfl,rfl⟩⟩⟩
   ·refine .inl ⟨λh=>jC,λ_=> ?_⟩;refine .inl (.inr (.inr ⟨false,[2],rfl,_,_,_,_,_,zp l U hl (t.map λi=>S.getD i 0) (2*(f.length:Int)+1) _ w3 ?_ ?_ ?_,λz M=> ?_⟩))
    ·exact(N4 D H K P).1
    ·exact λx w=>by have:=E x (((N4 D H K P).2 x).1 w);omega
    ·omega
    have M:AddL l (t.map λi=>S.getD i 0) true [2*(f.length:Int)+1] z:=M;have N:Adds l S z.1 [2*(f.length:Int)+1]:=M.ad.congr (N4 D H K P).2;have a1:z.2=true↔ ¬rX S z.1:=by rw[M.fl,Jd (N4 D H K P).2];simp
    have a7: ∀a∈z.1,0<=a/\a<2*(n:Int):=N.rg F E (λx w=>by rw[bV.1 w];omega);refine jB (z.2) (λh=> ?_) λh=> ?_
    ·exact⟨(z.1,f++[false]),[(0,2)],⟨jO,L.no N (a1.1 h),M.nd,a7⟩,jO,rfl,rfl,rfl,rfl,rfl,⟨⟨rfl,WX J⟩,rfl⟩,⟨nr,⟨rfl,rfl,rfl,λk _=>aJc f k⟩⟩⟩
    have a2:rX S z.1:=oH λj=>by have:=a1.2 j;rw[h] at this;cases this
    refine .inl (.inr (.inr ⟨false,[0],rfl,_,_,_,_,_,zp l U hl S (2*(f.length:Int)) _ w2 D (λx w=>by have:=E x w;omega) J,λq C=> ?_⟩));have C:AddL l S true [2*(f.length:Int)] q:=C;have dM: ∀a∈q.1,0<=a/\a<2*(n:Int):=C.ad.rg F E (λx w=>by rw[bV.1 w];omega);refine jB (!q.2) (λh2=> ?_) λh2=> ?_
    ·have W:rX S q.1:=oH λh=>by have:=C.fl.2 ⟨rfl,h⟩;rw[this] at h2;cases h2
     have e:pM l n g=none:=x3.2 (L.fail F E N a2 C.ad W);rw[e];exact⟨ng⟩
    have W: ¬rX S q.1:=(C.fl.1 j2).2;refine⟨⟨jM,jM⟩,jM,?_⟩;exact⟨(q.1,f++[true]),[],⟨jO,L.yes N a2 C.ad W,C.nd,dM⟩,jO,rfl,rfl,rfl,rfl,rfl,⟨⟨rfl,WX J⟩,rfl⟩,⟨nr,⟨rfl,rfl,rfl,upB f true n⟩⟩⟩
 ·have j:=iT j;have j:(n:Int)<=f.length:=j;have O:f.length<=n:=O;have a0:f.length=n:=J
  have e:pM l n g=some f:=K1.2 (L.isFirst F a0 R);rw[e];subst a0;exact RetIs.sob rfl rfl (λ_ _=>rfl) (λ_ _=>rfl) rfl
end Go.Proofs.YtpnjmojpeaegoaaGreatDoor.Sb
