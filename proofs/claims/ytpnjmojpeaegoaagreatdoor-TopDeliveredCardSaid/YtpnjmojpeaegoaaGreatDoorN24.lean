/-
  TopDelivered returns true whatever the input, and the input reads behind the call as it read before, where the three listed tables of Go's library hold what the program's text lays: a part of the proof.
-/
import Derived.Lib.AppendZerosOnto
import Derived.Lib.Overlaps
import Derived.Lib.JoinLaws
import Derived.Laws.NewBlocks
import Derived.Laws.IdiomCopy
import Derived.WalkKit
import Derived.Shelf.RegionOpenPlain
import Derived.Test.YtpnjmojpeaegoaaGreatDoorN23
set_option linter.unusedSimpArgs false
set_option linter.unusedVariables false
set_option maxRecDepth 100000
set_option maxHeartbeats 0
namespace Go.Proofs.YtpnjmojpeaegoaaGreatDoor
open Go.Eng Go.RowKit Go.Lib
theorem O5 {P:Program} (w:World) (h sT K c:TypeId) (b o f n:Nat) (a:Addr) (g t k:Nat) (cs:List Value)
  (H:P.underlying h=some (.slice c)) (l:(P.info? c).map (·.size)=some 2) (G:k=Nat.min g f) (E:cs.length=k*2)
  (q: ∀j v,cs[j]? =some v->w.cell? (a.add j)=some v) (A: ∀j,j<cs.length->(w.cell? ⟨b,o+j,none⟩).isSome=true) (C: ∀j,j<cs.length->w.frozen? ⟨b,o+j,none⟩=false) (z: ∀v∈cs,v.oneCell'=true):
  (Builtin.copy_ #[h,sT] K #[.slice (some ⟨b,o,none⟩) f n,.slice (some a) g t]).run P w= .ok (goInt k) (w.setCells b o cs):=by
 have F:=run_loadCells_list (P:=P) w a cs q;have x:=run_storeCells_cells (P:=P) b o cs 0 w (by simpa using A) (by simpa using C) z;cases e:P.info? c with
 |none=>simp[e] at l
 |some i=>
  have D:i.size=2:=by simpa [e] using l
  simp[Builtin.copy_,run_underlying H,Builtin.lenOf,Builtin.firstCells,sizeOf,typeInfo,e,D,<-G,<-E,F,x]
section
variable {P : Program}
theorem Lu {w:World} {o:Oper} {a:Act} {K:Act->World->Prop} {Q:Exit->Act->World->Prop} (x y:Operand) (t:TypeId) (e:o.op= .call {callee:= .builtin .copy,args:= #[x,y],argTypes:= #[t,t]})
  {r:Value} {c:World} (f:(Builtin.copy_ #[t,t] o.type #[a.eval x,a.eval y]).run P w= .ok r c) (h:K (a.put o.dst r) c):o.wp P a w K Q:=by
 unfold Oper.wp execOp;simp only[e,resolve,invoke,builtin,Sem.run_bind,Sem.run_pure,Result.andThen_ok,List.map_toArray,gP,p4,f];exact h
theorem Sg {w:World} {e:Array Oper} {c:List Oper} {o:Oper} {a:Act} {Q:Exit->Act->World->Prop} (j:o.guard=none) (x y:Operand) (t:TypeId) (k:o.op= .call {callee:= .builtin .copy,args:= #[x,y],argTypes:= #[t,t]})
  {u v r:Value} {f:World} (n:a.eval x=u) (q:a.eval y=v) (l:(Builtin.copy_ #[t,t] o.type #[u,v]).run P w= .ok r f) (h:wpList P e Q c (a.put o.dst r) f):wpList P e Q (o::c) a w:=
 wpList_plain j λ_ g=>Lu x y t k (by rw[n,q];exact l) (g _ _ h)
theorem Wj {e:Array Oper} {o:Oper} {a:Act} {w:World} {K:Act->World->Prop} {Q:Exit->Act->World->Prop} {E:Prop} (g:o.guard=none) (x y:Operand) (t:TypeId) (h:o.op= .call {callee:= .builtin .copy,args:= #[x,y],argTypes:= #[t,t]})
  (u v:Value) {r:Value} {c:World} (k:a.eval x=u) (l:a.eval y=v) (j:(Builtin.copy_ #[t,t] o.type #[u,v]).run P w= .ok r c) (f:K (a.put o.dst r) c):
  if Region.wanted o (yielded e a.tmps)=true then Oper.wp P o a w K Q else E:=by
 rw[aE (by simp[Region.wanted,g])];exact Lu x y t h (by rw[k,l];exact j) f
end
theorem g7 (b:Nat) (a:List Value) (o:Nat) (w:World) (h: ∀j,j<a.length->(w.cell? ⟨b,o+j,none⟩).isSome=true) (k:Nat) (f:(w.cell? ⟨b,k,none⟩).isSome=true):((w.setCells b o a).cell? ⟨b,k,none⟩).isSome=true:=by
 rcases kM k o with c|c
 ·rw[World.cell?_setCells_out b a o w ⟨b,k,none⟩ (λ_ _=> .inl c)];exact f
 ·rcases kM k (o+a.length) with e|e
  ·have:=World.cell?_setCells_in b a o w h (k-o) J;rw[show o+(k-o)=k by omega] at this;rw[this];rfl
  ·rw[World.cell?_setCells_out b a o w ⟨b,k,none⟩ (λ_ _=> .inr e)];exact f
theorem JW (b off n i vb voff vc:Nat) (cs vs:List Value) (w:World) (hi:i<n) (hbig:(n+1)*16<=140737488355328) (hcl:cs.length=n*2) (hvl:vs.length=2)
  (hcs: ∀j v,cs[j]? =some v->w.cell? ⟨b,off+j,none⟩=some v) (hvs: ∀j v,vs[j]? =some v->w.cell? ⟨vb,voff+j,none⟩=some v) (h1c: ∀v∈cs,v.oneCell'=true) (h1v: ∀v∈vs,v.oneCell'=true):
  Calls Tryz.prog 267 #[.slice (some ⟨b,off,none⟩) n n,.int .i64 i,.slice (some ⟨vb,voff,none⟩) 1 vc] w λe w'=> ∃(c:Nat) (row:Array Value),n+1<=c/\c<=maxLen/\row.size=c*2/\
   e= .returned (.slice (some ⟨w.heap.size,0,none⟩) (n+1) c)/\
   w'=(((w.alloc (.cells row 66)).drew.setCells w.heap.size (i*2) vs).drew).setCells w.heap.size ((i+1)*2) (cs.drop (i*2))/\row.toList.take (i*2)=cs.take (i*2):=by
 have u34:=run_underlying (Tryz.underlying34);obtain⟨i0,hi0,hz0,hzs,hzb⟩: ∃i0,Tryz.prog.info? 66=some i0/\i0.zero=some (.agg #[.int .i64 0,.int .i64 0])/\i0.size=2/\i0.bytes=16:=by refine⟨_,rfl,rfl,rfl,rfl⟩
 have hsz:(Tryz.prog.info? 66).map (·.size)=some 2:=by rw[hi0];simp[hzs]
 have hz2: ¬((i:Int)=(n:Int)):=J
 have hz3:(n:Int)<(n:Int)+(1:Int):=J
 have hbw:b<w.heap.size:=block_lt_of_cell (hcs 0 _ (bL J));have hvw:vb<w.heap.size:=block_lt_of_cell (hvs 0 _ (bL J));have hik:i+(n+1-i)=n+1:=J
 have hkk:(n:Int)+1-(i:Int)=((n+1-i:Nat):Int):=J
 have hold:(Builtin.firstCells i0.size i (.slice (some ⟨b,off,none⟩) i n)).run Tryz.prog w.drew= .ok (cs.take (i*2)).toArray w.drew:=by
  rw[hzs];exact run_firstCells_some w.drew 2 i ⟨b,off,none⟩ i n (cs.take (i*2)) (by rw[cT];omega) (λj v hj=>by
   rw[Addr.add_lit];rw[dZ] at hj;split at hj
   ·exact hcs j v hj
   ·cases hj)
 have hrz: ∀ty,(Builtin.append_ #[34,3] ty #[.slice (some ⟨b,off,none⟩) i n,.int .i64 ((n:Int)+1-(i:Int))]).run Tryz.prog w=
   .ok (.slice (some ⟨w.heap.size,0,none⟩) (n+1) (grownCap w (n+1) n 66)) (w.drew.alloc (.cells ((cs.take (i*2)).toArray++Builtin.zeroCells (Value.agg #[.int .i64 0,.int .i64 0]).cells (n+1-i)++Builtin.zeroCells (Value.agg #[.int .i64 0,.int .i64 0]).cells (grownCap w (n+1) n 66-(n+1))) 66)):=λty=>by
  have h:=Lib.run_append_grow_zeros w 34 3 ty 66 i0 _ .i64 .i64 Tryz.underlying34 Tryz.underlying3 hi0 hz0 (some ⟨b,off,none⟩) i n (cs.take (i*2)) hold (n+1-i) J J J J (by rw[hzb];omega) (by rw[hzb,hik];exact growslice_fits (gA n) hbig);rw[hik] at h;rw[hkk];exact h
 have hGn:n+1<=grownCap w (n+1) n 66:=grownCap_ge w _ _ _;have hG63:grownCap w (n+1) n 66<=maxLen:=grownCap_le_maxLen w (n+1) n 66 (by unfold maxLen;omega);have hzc:(Value.agg #[.int .i64 0,.int .i64 0]).cells= #[.int .i64 0,.int .i64 0]:=rfl;obtain⟨G,hG⟩: ∃G,G=grownCap w (n+1) n 66:=⟨_,rfl⟩;obtain⟨ROW,hROW⟩: ∃ROW:Array Value,ROW=(cs.take (i*2)).toArray++Builtin.zeroCells (Value.agg #[.int .i64 0,.int .i64 0]).cells (n+1-i)++Builtin.zeroCells (Value.agg #[.int .i64 0,.int .i64 0]).cells (G-(n+1)):=⟨_,rfl⟩;rw[<-hG] at hrz hGn hG63;rw[<-hROW] at hrz;have hRl:ROW.size=G*2:=by rw[hROW];simp[Builtin.zeroCells,hzc,Nat.min_eq_left (show i*2<=cs.length by omega)];omega
 have hRt:ROW.toList.take (i*2)=cs.take (i*2):=by rw[hROW,zJ,zJ,gD,kG jO,List.take_take,Nat.min_self]
 have hG2:G<=9223372036854775807:=hG63;obtain⟨W1,hW1⟩: ∃W1,W1=w.drew.alloc (.cells ROW 66):=⟨_,rfl⟩;rw[<-hW1] at hrz;have hN: ∀j,j<(n+1)*2->(W1.cell? ⟨w.heap.size,j,none⟩).isSome=true:=λj hj=>by rw[hW1,World.cell?_alloc_at (w:=w.drew) ROW _ w.heap.size j rfl,fS J];rfl
 have hNf: ∀j,W1.frozen? ⟨w.heap.size,j,none⟩=false:=λj=>by rw[hW1];exact World.frozen?_alloc_at (w:=w.drew) ROW _ w.heap.size j rfl
 have hOb: ∀j v,w.cell? ⟨b,j,none⟩=some v->W1.cell? ⟨b,j,none⟩=some v:=λj v h=>by rw[hW1,World.cell?_alloc_past (w:=w.drew) _ b j hbw];exact h
 have hOv: ∀j v,w.cell? ⟨vb,j,none⟩=some v->W1.cell? ⟨vb,j,none⟩=some v:=λj v h=>by rw[hW1,World.cell?_alloc_past (w:=w.drew) _ vb j hvw];exact h
 have hcpA: ∀(W:World),(∀x,W.cell? x=W1.cell? x)->(∀x,W.frozen? x=W1.frozen? x)-> ∀ty dc,(Builtin.copy_ #[34,34] ty #[.slice (some ⟨w.heap.size,i*2,none⟩) (n+1-i) dc,.slice (some ⟨vb,voff,none⟩) 1 vc]).run Tryz.prog W= .ok (goInt 1) (W.setCells w.heap.size (i*2) vs):=λW hWc hWf ty dc=>
  O5 W _ _ ty 66 w.heap.size (i*2) (n+1-i) dc ⟨vb,voff,none⟩ 1 vc 1 vs Tryz.underlying34 hsz (by simp only[uT];split<;>omega) hvl
   (λj v hj=>by rw[Addr.add_lit,hWc];exact hOv _ v (hvs j v hj))
   (λj hj=>by rw[hWc];exact hN _ J) (λj hj=>by rw[hWf];exact hNf _) h1v
 have hdl:(cs.drop (i*2)).length=(n-i)*2:=by rw[iB,hcl];omega
 have hbN:b≠w.heap.size:=J
 have hcpB: ∀(W:World),(∀x,W.cell? x=(W1.setCells w.heap.size (i*2) vs).cell? x)->(∀x,W.frozen? x=(W1.setCells w.heap.size (i*2) vs).frozen? x)-> ∀ty dc sc,(Builtin.copy_ #[34,34] ty #[.slice (some ⟨w.heap.size,(i+1)*2,none⟩) (n+1-(i+1)) dc,.slice (some ⟨b,off+i*2,none⟩) (n-i) sc]).run Tryz.prog W= .ok (goInt (n-i:Nat)) (W.setCells w.heap.size ((i+1)*2) (cs.drop (i*2))):=λW hWc hWf ty dc sc=>
  O5 W _ _ ty 66 w.heap.size ((i+1)*2) (n+1-(i+1)) dc ⟨b,off+i*2,none⟩ (n-i) sc (n-i) (cs.drop (i*2)) Tryz.underlying34 hsz (by simp only[uT];split<;>omega) hdl
   (λj v hj=>by
    rw[Addr.add_lit,hWc,World.cell?_setCells_out _ _ _ _ _ (λh _=>absurd h hbN),fT];exact hOb _ v (hcs (i*2+j) v (by rwa [eE] at hj)))
   (λj hj=>by rw[hWc];exact g7 _ _ _ _ (λt ht=>hN _ J) _ (hN _ J))
   (λj hj=>by rw[hWf,World.frozen?_setCells];exact hNf _) (λv hv=>h1c v (uE hv))
 subst hW1;have hE1: ∀x,((w.alloc (.cells ROW 66)).drew).cell? x=(w.drew.alloc (.cells ROW 66)).cell? x:=λx=>rfl;have hE2: ∀x,((w.alloc (.cells ROW 66)).drew).frozen? x=(w.drew.alloc (.cells ROW 66)).frozen? x:=λx=>rfl;have hF1: ∀x,(((w.alloc (.cells ROW 66)).drew.setCells w.heap.size (i*2) vs).drew).cell? x=((w.drew.alloc (.cells ROW 66)).setCells w.heap.size (i*2) vs).cell? x:=λx=>rfl;have hF2: ∀x,(((w.alloc (.cells ROW 66)).drew.setCells w.heap.size (i*2) vs).drew).frozen? x=((w.drew.alloc (.cells ROW 66)).setCells w.heap.size (i*2) vs).frozen? x:=λx=>rfl;have hw1:IntKind.i64.wrap ((i:Int)+1)=(i:Int)+1:=by rw[IntKind.wrap_i64];omega
 have hb1:(0:Int)<=(i:Int)+1:=J
 have hin:i<=n:=J
 have htn:((i:Int)+1).toNat=i+1:=J
 have hb3:(i:Int)<=(n:Int):=J
 have hGi: ¬(G=i):=J
 have hGim: ¬(G=i+1):=J
 have hci: ¬(n=i):=J
 have mixed:Tryz.prog.follows .mixedOrders=true:=jD
 have z66:=Tryz.sizeOf66;clear hkk hik hold hROW hG
 go_enter Tryz.func267,Tryz.ntmps267
 go_wp2_with (first
  |(at_builtin;refine Lib.wpList_append_run _ rfl _ _ _ _ rfl _ _ rfl rfl _ _ (hrz _) ?_)
  |(at_builtin;refine Sg rfl _ _ 34 rfl rfl rfl (hcpA _ hE1 hE2 _ _) ?_)
  |(at_builtin;refine Sg rfl _ _ 34 rfl rfl rfl (hcpB _ (λ_=>rfl) (λ_=>rfl) _ _ _) ?_))
 go_region_law_o (refine Wj rfl _ _ 34 rfl (.slice (some ⟨w.heap.size,(i+1)*2,none⟩) (n+1-(i+1)) (G-(i+1))) (.slice (some ⟨b,off+i*2,none⟩) (n-i) (n-i)) (by simp[Act.eval,Act.put]) (by simp[Act.eval,Act.put]) (hcpB _ hF1 hF2 3 (G-(i+1)) (n-i)) ?_)
 go_wp2
 go_ret
 exact⟨G,ROW,hGn,hG63,hRl,rfl,rfl,hRt⟩
theorem BS (b off n c i vb voff vc:Nat) (cs vs:List Value) (w:World) (hi:i<n) (hroom:n+1<=c) (hc63:c<=9223372036854775807) (hvb:vb≠b) (hcl:cs.length=n*2) (hvl:vs.length=2)
  (hcs: ∀j v,cs[j]? =some v->w.cell? ⟨b,off+j,none⟩=some v) (hsp: ∀j,j<(n+1)*2->(w.cell? ⟨b,off+j,none⟩).isSome=true) (hfz: ∀j,j<(n+1)*2->w.frozen? ⟨b,off+j,none⟩=false)
  (hvs: ∀j v,vs[j]? =some v->w.cell? ⟨vb,voff+j,none⟩=some v) (h1c: ∀v∈cs,v.oneCell'=true) (h1v: ∀v∈vs,v.oneCell'=true)
  (tA tB:TypeId) (kA kB:Nat) (hsa:w.shape? vb=some (tA,kA)) (hsb:w.shape? b=some (tB,kB)) (hkB:kB≠0) (hfa:w.frozen? ⟨vb,voff,none⟩=false) (hfe:w.frozen? ⟨vb,kA,none⟩=false):
  Calls Tryz.prog 267 #[.slice (some ⟨b,off,none⟩) n c,.int .i64 i,.slice (some ⟨vb,voff,none⟩) 1 vc] w λe w'=>
   e= .returned (.slice (some ⟨b,off,none⟩) (n+1) c)/\w'=(w.drew.setCells b (off+(i+1)*2) (cs.drop (i*2))).setCells b (off+i*2) vs:=by
 have u34:=run_underlying (Tryz.underlying34);have z66:=Tryz.sizeOf66;have hsz:(Tryz.prog.info? 66).map (·.size)=some 2:=rfl;have hz2: ¬((i:Int)=(n:Int)):=J
 have hov: ∀lb cb,(callFunc 312 #[.slice (some ⟨vb,voff,none⟩) 1 vc,.slice (some ⟨b,off+(i+1)*2,none⟩) lb cb]).run Tryz.prog w= .ok (.value (.bool false)) w:=λlb cb=>by
  rw[run_callFunc_extern Tryz.func312 V V V (e:=Extern.SlicesOverlaps.overlaps #[34,34] #[4]) V,
   Lib.run_overlaps_apart w 34 4 66 Tryz.underlying34 2 z66 ⟨vb,voff,none⟩ ⟨b,off+(i+1)*2,none⟩ 1 vc lb cb hvb tA tB kA kB hsa hsb hkB hfa hfe]
  rfl
 have hdl:(cs.drop (i*2)).length=(n-i)*2:=by rw[iB,hcl];omega
 have mixed:Tryz.prog.follows .mixedOrders=true:=jD
 have hw1:IntKind.i64.wrap ((i:Int)+1)=(i:Int)+1:=by rw[IntKind.wrap_i64];omega
 have hw2:IntKind.i64.wrap ((n:Int)+1)=(n:Int)+1:=by rw[IntKind.wrap_i64];omega
 have hb1:(0:Int)<=(i:Int)+1:=J
 have hin:i<=n:=J
 have htn:((i:Int)+1).toNat=i+1:=J
 have htn2:((n:Int)+1).toNat=n+1:=J
 have hb2: ¬(c=i+1):=J
 have hb3:(i:Int)<=(n:Int)+1:=J
 have hb4: ¬(c=i):=J
 have hcp1: ∀ty dc sc,(Builtin.copy_ #[34,34] ty #[.slice (some ⟨b,off+(i+1)*2,none⟩) (n+1-(i+1)) dc,.slice (some ⟨b,off+i*2,none⟩) (n+1-i) sc]).run Tryz.prog w.drew= .ok (goInt (n-i:Nat)) (w.drew.setCells b (off+(i+1)*2) (cs.drop (i*2))):=λty dc sc=>
  O5 w.drew _ _ ty 66 b (off+(i+1)*2) (n+1-(i+1)) dc ⟨b,off+i*2,none⟩ (n+1-i) sc (n-i) (cs.drop (i*2)) Tryz.underlying34 hsz (by simp only[uT];split<;>omega) hdl
   (λj v hj=>by rw[Addr.add_lit,fT];exact hcs (i*2+j) v (by rwa [eE] at hj))
   (λj hj=>by rw[fT];exact hsp _ J) (λj hj=>by rw[fT];exact hfz _ J) (λv hv=>h1c v (uE hv))
 obtain⟨W1,hW1⟩: ∃W1,W1=w.drew.setCells b (off+(i+1)*2) (cs.drop (i*2)):=⟨_,rfl⟩;have hsp1: ∀k,k<(n+1)*2->(W1.cell? ⟨b,off+k,none⟩).isSome=true:=λk hk=>by rw[hW1];exact g7 b _ _ _ (λj hj=>by rw[fT];exact hsp _ J) _ (hsp k hk)
 have hcp2: ∀(W:World),(∀x,W.cell? x=W1.cell? x)->(∀x,W.frozen? x=W1.frozen? x)-> ∀ty dc,(Builtin.copy_ #[34,34] ty #[.slice (some ⟨b,off+i*2,none⟩) (n+1-i) dc,.slice (some ⟨vb,voff,none⟩) 1 vc]).run Tryz.prog W= .ok (goInt 1) (W.setCells b (off+i*2) vs):=λW hWc hWf ty dc=>
  O5 W _ _ ty 66 b (off+i*2) (n+1-i) dc ⟨vb,voff,none⟩ 1 vc 1 vs Tryz.underlying34 hsz (by simp only[uT];split<;>omega) hvl
   (λj v hj=>by
    rw[Addr.add_lit,hWc,hW1,World.cell?_setCells_out b _ _ _ _ (λh _=>absurd h hvb)];exact hvs j v hj)
   (λj hj=>by rw[hWc,fT];exact hsp1 _ J) (λj hj=>by rw[hWf,hW1,World.frozen?_setCells,fT];exact hfz _ J) h1v
 rw[<-hW1] at hcp1
 go_enter Tryz.func267,Tryz.ntmps267
 go_wp2_with (simp only[hov])
 go_region_law_o (refine Wj rfl _ _ 34 rfl (.slice (some ⟨b,off+(i+1)*2,none⟩) (n+1-(i+1)) (c-(i+1))) (.slice (some ⟨b,off+i*2,none⟩) (n+1-i) (c-i)) (by simp[Act.eval,Act.put]) (by simp[Act.eval,Act.put]) (hcp1 _ _ _) ?_)
 go_wp2_with (at_builtin;refine Sg rfl _ _ 34 rfl rfl rfl (hcp2 _ (λ_=>rfl) (λ_=>rfl) _ _) ?_)
 go_ret
 first|exact nT|exact⟨rfl,by rw[hW1]⟩
abbrev Lv (g:Nat->List AV):AO:= .row 66 2 1 g
abbrev V5 (l:List Dbt):AO:= .row 66 2 l.length (u7 l)
theorem Lw (l:List Dbt) (i:Nat) (hi:i<=l.length) (d:Dbt) (q:Nat):(l.take i++d::l.drop i).getD q pO=if q<i then l.getD q pO else if q=i then d else l.getD (q-1) pO:=by
 simp only[List.getD];by_cases h:q<i
 ·rw[aE h,fB (by rw[cT];omega),dZ,aE h]
 ·rw[aB h,gJ (by rw[cT];omega),cT,Nat.min_eq_left hi];by_cases a:q=i
  ·rw[aE a,a,iG];rfl
  ·rw[aB a,show q-i=(q-1-i)+1 by omega,kW,eE]
   congr 2
   omega
theorem py (l:List Dbt) (i:Nat) (hi:i<=l.length) (d:Dbt):(l.take i++d::l.drop i).length=l.length+1:=by rw[bD,cT,gR,iB];omega
theorem Bh (l:List Dbt) (g:l.length<=900000) (d:Dbt) (e:Nat->List AV) (f:e 0=d.av):cM 267 false [V5 l,Lv e] [.so 0,.I l.length,.so 1] (λ_:Unit=>True) (λ_=>[.dead,.dead]) (λ_=>[V5 (l.take l.length++d::l.drop l.length)]) (λ_=> .so 2):=by
 refine sE Tryz.func267 [.tmp 6] [] ?_
 repeat apply jL
 refine⟨⟨J,J,J⟩,?_⟩
 repeat apply jL
 refine⟨λh=>jC,λ_=> ?_⟩
 repeat apply jL
 refine⟨λ_=> ?_,λh=> ?_⟩
 ·repeat apply jL
  refine⟨oJ jO,?_⟩;refine⟨(),[(2,2)],trivial,⟨nU,⟨nS,nS,⟨rfl,rfl,trivial,⟨rfl,rfl,?_,λq c=> ?_⟩⟩,trivial⟩,rfl⟩,rfl,λ_=>⟨rfl,trivial,trivial,λ_ _=>rfl⟩⟩
  ·rw[py l _ (aG _)]
  ·have c:q<(l.take l.length++d::l.drop l.length).length:=c;rw[py l _ (aG _)] at c;unfold iJ u7;rw[Lw l _ (aG _)];by_cases h:q<l.length
   ·rw[aE h,aE h]
   ·obtain rfl:q=l.length:=J;rw[aB h,aB h,aE rfl,iG];exact f
 ·have h:((l.length:Int)==l.length)=false:=h;rw[uA] at h;cases h
def vB (l:List Dbt):List Value:=(List.range (l.length*2)).map λt=>if t % 2=0 then .int .i64 (l.getD (t/2) pO).e else .int .i64 (l.getD (t/2) pO).n
theorem j6 (l:List Dbt):(vB l).length=l.length*2:=by simp[vB]
theorem B5 (l:List Dbt) {t:Nat} (h:t<l.length*2):(vB l)[t]? =some (if t % 2=0 then .int .i64 (l.getD (t/2) pO).e else .int .i64 (l.getD (t/2) pO).n):=by unfold vB;rw[pY,List.getElem?_range h];rfl
theorem eh (l:List Dbt): ∀v∈vB l,v.oneCell'=true:=by intro v a;unfold vB at a;obtain⟨t,_,rfl⟩:=fL.1 a;split<;>rfl
theorem Lx {β:Bd} {m:Nat} {F:Nat->Prop} {w:World} {j:Nat} {l:List Dbt} (h:lV β m F w j (V5 l)):kT w 66 2 (β.val j) l.length (vB l):=by
 obtain⟨c,q,C,z⟩:=h;have D:c.length=l.length*2:=q.1;have:c=vB l:=by
  refine lB λt=> ?_;by_cases A:t<l.length*2
  ·rw[B5 l A,bL J];have x:t % 2<(u7 l (t/2)).length:=by show t % 2<2;omega
   have a:=z (t/2) (t % 2) J x J;have e:c[t/2*2+t % 2]'J=c[t]'J:=by congr 1;omega
   rw[e] at a;have a:=a.1;rcases Nat.mod_two_eq_zero_or_one t with f|f
   ·have g:(u7 l (t/2))[t % 2]= .I (l.getD (t/2) pO).e:=by simp only[f];rfl
    rw[g] at a;rw[aE f];generalize c[t]=u at a|-;cases a;rfl
   ·have g:(u7 l (t/2))[t % 2]= .I (l.getD (t/2) pO).n:=by simp only[f];rfl
    rw[g] at a;rw[aB J];generalize c[t]=u at a|-;cases a;rfl
  ·rw[eY J,eY (by rw[j6];omega)]
 rw[<-this];exact q
theorem JX {β:Bd} {m:Nat} {F:Nat->Prop} {w:World} {j:Nat} {l:List Dbt} (n:j<m) (h:kT w 66 2 (β.val j) l.length (vB l)):lV β m F w j (V5 l):=by
 refine⟨vB l,h,λk _=>rfl,λk i q c f=> ?_⟩;have g:i<2:=c;have e:=B5 l (t:=k*2+i) J;rw[bL (by rw[j6];omega)] at e;have e:=cK e;rw[e];have a:(k*2+i)/2=k:=J
 rw[a];rcases(by omega:i=0\/i=1) with rfl|rfl
 ·rw[aE J];exact⟨.i _ _,rfl⟩
 ·rw[aB J];exact⟨.i _ _,rfl⟩
theorem Wk (l:List Dbt) (i:Nat) (hi:i<=l.length) (d:Dbt) {t:Nat} (c:t<(l.length+1)*2):(vB (l.take i++d::l.drop i))[t]? =if t<i*2 then(vB l)[t]? else if t<(i+1)*2 then(vB [d])[t-i*2]? else(vB l)[t-2]? :=by
 rw[B5 _ (by rw[py l i hi];exact c),Lw l i hi];by_cases h:t<i*2
 ·rw[aE h,B5 l J,aE (show t/2<i by omega)]
 ·rw[aB h,aB (show¬t/2<i by omega)];by_cases a:t<(i+1)*2
  ·rw[aE a,B5 [d] jO,aE (show t/2=i by omega),show(t-i*2)% 2=t % 2 by omega,show(t-i*2)/2=0 by omega];rfl
  ·rw[aB a,B5 l J,aB (show¬t/2=i by omega),show(t-2)% 2=t % 2 by omega,show(t-2)/2=t/2-1 by omega]
theorem JY (b:Nat): ∀(a:List Value) (o:Nat) (w:World) {c:Array Value} {e:TypeId} {fr:Nat×Nat},w.heap[b]? =some (.cells c e fr)-> ∃f:Array Value,(w.setCells b o a).heap[b]? =some (.cells f e fr)/\f.size=c.size/\(w.setCells b o a).heap.size=w.heap.size/\
  (w.setCells b o a).tape=w.tape/\(w.setCells b o a).os=w.os/\(w.setCells b o a).output=w.output/\(w.setCells b o a).drawn=w.drawn/\ ∀k,k≠b->(w.setCells b o a).heap[k]? =w.heap[k]?
 |[],_,w,c,e,fr,h=>⟨c,h,rfl,rfl,rfl,rfl,rfl,rfl,λ_ _=>rfl⟩
 |v::r,o,w,c,e,fr,h=>by
  have C:(w.setCell ⟨b,o,none⟩ v).heap[b]? =some (.cells (c.setIfInBounds o v) e fr):=by simp only[World.setCell,tM,aE,h];rfl
  obtain⟨f,j,l,n,q,t,x,z,A⟩:=JY b r (o+1) (w.setCell ⟨b,o,none⟩ v) C;refine⟨f,j,by rw[l];simp,by rw[World.setCells,n];simp[World.setCell],q,t,x,z,λk g=>(A k g).trans (by simp[World.setCell,tM,iS g])⟩
theorem VL (b:Nat): ∀(a:List Value) (o:Nat) (w:World),(w.setCells b o a).drew=w.drew.setCells b o a
 |[],_,_=>rfl
 |v::r,o,w=>by rw[World.setCells,World.setCells,VL b r];rfl
theorem Bi {b off n i:Nat} {cs a:List Value} {w:World} (hi:i<=n) (z:cs.length=n*2) (G:a.length=2) (l: ∀j,j<i*2->w.cell? ⟨b,off+j,none⟩=cs[j]?) (c: ∀j,j<(n+1)*2->(w.cell? ⟨b,off+j,none⟩).isSome=true)
  {t:Nat} (H:t<(n+1)*2):(((w.setCells b (off+(i+1)*2) (cs.drop (i*2))).setCells b (off+i*2) a).cell? ⟨b,off+t,none⟩)=(if t<i*2 then cs[t]? else if t<(i+1)*2 then a[t-i*2]? else cs[t-2]?)/\
   (((w.setCells b (off+i*2) a).setCells b (off+(i+1)*2) (cs.drop (i*2))).cell? ⟨b,off+t,none⟩)=(if t<i*2 then cs[t]? else if t<(i+1)*2 then a[t-i*2]? else cs[t-2]?):=by
 have F:(cs.drop (i*2)).length=(n-i)*2:=by rw[iB,z];omega
 have D: ∀j,j<(n+1)*2->((w.setCells b (off+(i+1)*2) (cs.drop (i*2))).cell? ⟨b,off+j,none⟩).isSome=true:=λj g=>g7 b _ _ _ (λq f=>by rw[fT];exact c _ J) _ (c j g);have E: ∀j,j<(n+1)*2->((w.setCells b (off+i*2) a).cell? ⟨b,off+j,none⟩).isSome=true:=λj g=>g7 b _ _ _ (λq f=>by rw[fT];exact c _ J) _ (c j g);by_cases h:t<i*2
 ·rw[aE h,World.cell?_setCells_out b _ _ _ _ (λ_ _=> .inl (by show off+t<_;omega)),World.cell?_setCells_out b _ _ _ _ (λ_ _=> .inl (by show off+t<_;omega)),
   World.cell?_setCells_out b _ _ _ _ (λ_ _=> .inl (by show off+t<_;omega)),World.cell?_setCells_out b _ _ _ _ (λ_ _=> .inl (by show off+t<_;omega))]
  exact⟨l t h,l t h⟩
 ·rw[aB h];by_cases x:t<(i+1)*2
  ·rw[aE x];have e:off+t=off+i*2+(t-i*2):=J
   rw[e];constructor
   ·exact(World.cell?_setCells_in b a (off+i*2) _ (λq f=>by rw[fT];exact D _ J) (t-i*2) J).trans (by simp[show t-i*2<a.length by omega])
   ·rw[World.cell?_setCells_out b _ _ _ _ (λ_ _=> .inl (by show off+i*2+(t-i*2)<_;omega))];exact(World.cell?_setCells_in b a (off+i*2) _ (λq f=>by rw[fT];exact c _ J) (t-i*2) J).trans (by simp[show t-i*2<a.length by omega])
  ·rw[aB x];have e:off+t=off+(i+1)*2+(t-(i+1)*2):=J
   have C:i*2+(t-(i+1)*2)=t-2:=J;have A:(cs.drop (i*2))[t-(i+1)*2]? =cs[t-2]? :=by rw[eE,C]
   rw[e,<-A];constructor
   ·rw[World.cell?_setCells_out b _ _ _ _ (λ_ _=> .inr (by show off+i*2+a.length<=off+(i+1)*2+(t-(i+1)*2);omega))];exact(World.cell?_setCells_in b _ (off+(i+1)*2) _ (λq f=>by rw[fT];exact c _ J) (t-(i+1)*2) J).trans (by simp[show t-(i+1)*2<(cs.drop (i*2)).length by omega])
   ·exact(World.cell?_setCells_in b _ (off+(i+1)*2) _ (λq f=>by rw[fT];exact E _ J) (t-(i+1)*2) J).trans (by simp[show t-(i+1)*2<(cs.drop (i*2)).length by omega])
theorem BT (l:List Dbt) (hl:l.length<=900000) (i:Nat) (hi:i<l.length) (d:Dbt) (E:Nat->List AV) (A:E 0=d.av):cM 267 false [V5 l,Lv E] [.so 0,.I i,.so 1] (λ_:Unit=>True) (λ_=>[.dead,.dead]) (λ_=>[V5 (l.take i++d::l.drop i)]) (λ_=> .so 2):=by
 refine Ci.m ⟨(Bh l hl d E A).1,λF w D vs f5 f4 e9 c8 e0 e2 H=> ?_⟩;obtain⟨v0,v1,v2,rfl⟩: ∃v0 v1 v2,vs=[v0,v1,v2]:=by
  match vs,e2 with
  |[v0,v1,v2],_=>exact⟨v0,v1,v2,rfl⟩
 have d5:=H 0 jS jS;have d6:=H 1 jS jS;have d7:=H 2 jS jS;simp only[fE] at d5;simp only[tG,fE] at d6 d7;obtain⟨_,rfl⟩:=d5.so_inv;obtain rfl:=d6.i_inv;obtain⟨_,rfl⟩:=d7.so_inv;have R0:=Lx (c8 0 _ rfl);have R1:=Lx (l:=[d]) (eN.ok (y:=Lv E) (x:=V5 [d]) ⟨rfl,rfl,rfl,λq hq=>by
  have hq:q<1:=hq;obtain rfl:q=0:=J
  exact A⟩ (c8 1 _ rfl))
 have b0:=py l i (vR hi) d;have done: ∀(v:Value) (f:World),kT f 66 2 v (l.length+1) (vB (l.take i++d::l.drop i))->Go.Eng.Frame (sG D [V5 l,Lv E]) w f->(∀g,kI v=some g->sG D [V5 l,Lv E] g\/w.heap.size<=g)->
   GivesS false F w [V5 l,Lv E] D [.dead,.dead] [V5 (l.take i++d::l.drop i)] (.so 2) v f (D.valAt 2 v):=by
  intro v f c9 e6 e3;have Q:(D.valAt 2 v).val 2=v:=by simp[Bd.valAt]
  refine⟨lT _ _ _,e6,rfl,?_,?_,?_,?_⟩
  ·intro j o a
   match j with
   |0=>simp at a;subst a;trivial
   |1=>simp at a;subst a;trivial
   |2=>simp at a;subst a;exact JX jS (by rw[Q,b0];exact c9)
   |j+3=>simp at a
  ·rintro g ⟨j,o,a,A⟩
   match j with
   |0=>simp at a;subst a;cases A
   |1=>simp at a;subst a;cases A
   |2=>simp at a;subst a;simp only[dG,Q] at A;exact e3 g A
   |j+3=>simp at a
  ·intro j j' o o' g a N A d2
   match j,j' with
   |0,_=>simp at a;subst a;cases A
   |1,_=>simp at a;subst a;cases A
   |_,0=>simp at N;subst N;cases d2
   |_,1=>simp at N;subst N;cases d2
   |2,2=>rfl
   |j+3,_=>simp at a
   |_,j'+3=>simp at N
  ·have hp:=Rep.so (β:=D.valAt 2 v) (n:=3) (F:=J1 false F w (D.valAt 2 v) ([.dead,.dead]++[V5 (l.take i++d::l.drop i)])) (w:=f) 2 J (by rw[Q];exact c9.one);rw[Q] at hp;exact hp
 rcases R0.2 with ⟨_,G⟩|⟨_,_,G⟩|⟨g,z,a0,a9,hv,P,f7,d1,f6,e1⟩
 ·omega
 ·omega
 rcases R1.2 with ⟨_,G⟩|⟨_,_,G⟩|⟨O,M,c3,c4,hu,U,f3,f0,f1,d9⟩
 ·cases G
 ·cases G
 have f2:=(cN.1 P).1;have e8:O≠g:=λe=>by have:=e0 1 0 _ _ g rfl rfl (by subst e;simp[dG,hu,kI]) (by simp[dG,hv,kI]);cases this
 have c0: ∀j,w.cell? ⟨g,z+j,none⟩=a9[z+j]? :=λj=>cell_of_row w _ _ _ _ _ P;have d8: ∀j,w.cell? ⟨O,M+j,none⟩=c4[M+j]? :=λj=>cell_of_row w _ _ _ _ _ U;have c5: ∀j,j<l.length*2->w.cell? ⟨g,z+j,none⟩=(vB l)[j]? :=λj a=>by rw[c0,<-e1,dZ,aE a,eE];simp
 have c6: ∀j v,(vB l)[j]? =some v->w.cell? ⟨g,z+j,none⟩=some v:=λj v h=>by have a:=(bM.1 h).1;rw[j6] at a;rw[c5 j a,h]
 have d0: ∀j v,(vB [d])[j]? =some v->w.cell? ⟨O,M+j,none⟩=some v:=λj v h=>by have a:=(bM.1 h).1;rw[j6] at a;rw[d8,<-h,<-d9,dZ,aE a,eE];simp
 have d3:sG D [V5 l,Lv E] g:=⟨0,_,rfl,by simp[dG,hv,kI]⟩;have R:(vB l).length=l.length*2:=j6 l;have W:(vB [d]).length=2:=j6 [d];have b9: ∀{f:World} {b o c:Nat} {Y:Array Value},f.heap[b]? =some (.cells Y 66 (0,0))->l.length+1<=c->c<=maxLen->o+c*2<=Y.size->(∀t,t<(l.length+1)*2->f.cell? ⟨b,o+t,none⟩=(vB (l.take i++d::l.drop i))[t]?)->
   kT f 66 2 (.slice (some ⟨b,o,none⟩) (l.length+1) c) (l.length+1) (vB (l.take i++d::l.drop i)):=by
  intro f b o c Y h1 h2 h3 h4 h5;refine⟨by rw[j6,b0],.inr (.inr ⟨b,o,c-1,Y,by rw[show c-1+1=c by omega],h1,J,J,by rw[show c-1+1=c by omega];exact h4,?_⟩)⟩;refine lB λt=> ?_;rw[dZ];by_cases C:t<(l.length+1)*2
  ·rw[aE C,eE,<-h5 t C,cell_of_row f _ _ _ _ _ h1];simp
  ·rw[aB C,eY (by rw[j6,b0];omega)]
 rcases kM l.length (a0+1) with H|H
 ·have d4: ∀j,j<(l.length+1)*2->(w.cell? ⟨g,z+j,none⟩).isSome=true:=λj a=>by rw[c0,fS J];rfl
  have e7: ∀j,j<(l.length+1)*2->w.frozen? ⟨g,z+j,none⟩=false:=λj a=>by simp[World.frozen?,P]
  have:=BS g z l.length (a0+1) i O M (c3+1) (vB l) (vB [d]) w hi H d1 e8 R W c6 d4 e7 d0 (eh l) (eh [d]) 66 66 c4.size a9.size (by simp[World.shape?,U]) (by simp[World.shape?,P]) J (by simp[World.frozen?,U]) (by simp[World.frozen?,U]);rw[hv,hu];refine Calls.mono this ?_;rintro e f ⟨rfl,rfl⟩;have S:w.drew.heap[g]? =some (.cells a9 66 (0,0)):=P;obtain⟨c1,a1,a2,a3,a4,a5,a6,a7,a8⟩:=JY g ((vB l).drop (i*2)) (z+(i+1)*2) w.drew S;obtain⟨c2,b1,b2,b3,b4,b5,b6,b7,b8⟩:=JY g (vB [d]) (z+i*2) _ a1;refine⟨_,_,(),rfl,trivial,done _ _ (b9 b1 H d1 J λt C=> ?_) ⟨b5.trans a5,b4.trans a4,b6.trans a6,by rw[b3,a3];exact aG _,λk hk G=> ?_,?_⟩ (λb L=> ?_)⟩
  ·rw[Wk l i (vR hi) d C];exact(Bi (w:=w.drew) (vR hi) R W (λj a=>c5 j J) d4 C).1
  ·have K:k≠g:=λe=>G (e▸d3);rw[b8 k K,a8 k K];rfl
  ·unfold dz;rw[b7,a7];exact eP _
  ·simp only[kI,dT] at L;subst L;exact .inl d3
 ·have e5:a0+1=l.length:=J
  have:=JW g z l.length i O M (c3+1) (vB l) (vB [d]) w hi J R W c6 d0 (eh l) (eh [d]);rw[hv,hu,e5];refine Calls.mono this ?_;rintro e f ⟨c,row,h1,h2,h3,rfl,rfl,h4⟩;have S:(w.alloc (.cells row 66)).drew.heap[w.heap.size]? =some (.cells row 66 (0,0)):=by show(w.heap.push _)[w.heap.size]? =_;simp
  obtain⟨c1,a1,a2,a3,a4,a5,a6,a7,a8⟩:=JY w.heap.size (vB [d]) (i*2) _ S;have e4:((w.alloc (.cells row 66)).drew.setCells w.heap.size (i*2) (vB [d])).drew.heap[w.heap.size]? =some (.cells c1 66 (0,0)):=a1;obtain⟨c2,b1,b2,b3,b4,b5,b6,b7,b8⟩:=JY w.heap.size ((vB l).drop (i*2)) ((i+1)*2) _ e4;have c7: ∀j,((w.alloc (.cells row 66)).drew).cell? ⟨w.heap.size,0+j,none⟩=row[0+j]? :=λj=>by simp only[World.cell?,S];rfl
  refine⟨_,_,(),rfl,trivial,done _ _ (b9 b1 h1 h2 J λt C=> ?_) ⟨b5.trans a5,b4.trans a4,b6.trans a6,?_,λk hk G=> ?_,?_⟩ (λb L=> ?_)⟩
  ·rw[Wk l i (vR hi) d C];have:=(Bi (b:=w.heap.size) (off:=0) (w:=(w.alloc (.cells row 66)).drew) (vR hi) R W (λj a=> ?_) (λj a=> ?_) C).2
   ·rw[dR,dR,dR] at this;rw[dR,<-this];have e:((w.alloc (.cells row 66)).drew.setCells w.heap.size (i*2) (vB [d])).drew.setCells w.heap.size ((i+1)*2) ((vB l).drop (i*2))=(((w.alloc (.cells row 66)).drew.setCells w.heap.size (i*2) (vB [d])).setCells w.heap.size ((i+1)*2) ((vB l).drop (i*2))).drew:=(VL _ _ _ _).symm;rw[e];rfl
   ·rw[c7,dR];have e:=fW (λx:List Value=>x[j]?) h4;simp only[dZ,aE a] at e;simpa using e
   ·rw[c7,fS J];rfl
  ·rw[b3];show w.heap.size<=((w.alloc (.cells row 66)).drew.setCells w.heap.size (i*2) (vB [d])).heap.size;rw[a3];show w.heap.size<=(w.heap.push _).size;simp
  ·have K:k≠w.heap.size:=J;rw[b8 k K];refine(a8 k K).trans ?_;show(w.heap.push _)[k]? =_;rw[Array.getElem?_push,aB K]
  ·unfold dz;rw[b7];show w.drawn<=((w.alloc (.cells row 66)).drew.setCells w.heap.size (i*2) (vB [d])).drawn+1;rw[a7];show w.drawn<=w.drawn+1+1;omega
  ·rw[show c=c-1+1 by omega] at L;simp only[kI,dT] at L;subst L;exact .inr (aG _)
theorem JZ (l:List Dbt) (i:Nat) (d:Dbt) (e:l.length<=900000) (hi:i<=l.length) {a:Nat->List AV} (c:a 0=d.av):cM 267 false [V5 l,Lv a] [.so 0,.I i,.so 1] (λ_:Unit=>True) (λ_=>[.dead,.dead]) (λ_=>[V5 (l.take i++d::l.drop i)]) (λ_=> .so 2):=by
 rcases vQ hi with h|h
 ·exact BT l e i h d a c
 ·subst h;exact Bh l e d a c
end Go.Proofs.YtpnjmojpeaegoaaGreatDoor
namespace Go.Proofs.YtpnjmojpeaegoaaGreatDoor
open Go.Eng Go.Qu
def v4 (x d:Dbt):Bool:=ltP x.e x.n d.e d.n
def R3 (a b:Dbt):Int:=pS [xR a.e b.e,xR a.n b.n]
theorem em (a b:Dbt):decide (R3 a b<0)=v4 a b:=bm _ _ _ _
theorem KA (a b:Int):xR a b=0↔a=b:=by
 unfold xR;split
 ·simp;omega
 ·split<;>simp<;>omega
theorem KB (a b:Dbt):(R3 a b==0)=decide (a=b):=by
 obtain⟨e,n⟩:=a;obtain⟨f,m⟩:=b;have g:=KA e f;have j:=KA n m;unfold R3;by_cases h:xR e f=0
 ·have k:=g.1 h;have l:pS [xR e f,xR n m]=xR n m:=by
   unfold pS;rw[aE h];unfold pS;split
   ·rename_i c;rw[c];rfl
   ·rfl
  show(pS [xR e f,xR n m]==0)=_;rw[l];by_cases c:n=m
  ·rw[j.2 c];simp[k,c]
  ·have: ¬xR n m=0:=λe=>c (j.1 e);simp[this,c]
 ·have: ¬e=f:=λe=>h (g.2 e);simp[pS,h,this]
theorem vz (a b:Dbt):cC 232 [.ag a.av,.ag b.av] [] (.I (R3 a b)):=by
 refine hZ Tryz.func232 [.tmp 4] [(2000001,[.frz 0 [0,1]])] ?_
 exact mD
def KC (n:Int):Bool:=decide (n>=0)&&decide (n<12)
theorem V6 (n:Int):cC 281 [.I n] [] (.b (KC n)):=by refine hZ Tryz.func281 [.tmp 2] [] ?_;exact RetIs.b rfl
def oa (d:Dbt):Bool:=(decide (d.e>=0)&&decide (d.e<100000))&&KC d.n
theorem Wl {d:Dbt} (a:0<=d.e) (c:d.e<100000) (f:0<=d.n) (g:d.n<12):oa d=true:=by unfold oa KC;simp;omega
def R4 (l:List Dbt) (i:Nat):Bool:=((decide ((l.getD i pO).e<0)||decide ((l.getD i pO).e>=100000))|| !KC (l.getD i pO).n)||(decide ((i:Int)>0)&&decide (R3 (l.getD (i-1) pO) (l.getD i pO)>=0))
def zF (l:List Dbt) (d:Dbt):Bool:= !(List.range l.length).any (R4 l)&&oa d
theorem KG {a b c:Dbt} (h:v4 a b=true) (k:v4 b c=true):v4 a c=true:=by unfold v4 ltP at*;rw[aM] at*;omega
theorem Si {l:List Dbt} {d:Dbt} (c: ∀x∈l,oa x=true) (e:l.Pairwise λx y=>v4 x y=true) (f:oa d=true):zF l d=true:=by
 unfold zF;rw[f,j7,dQ,fH];intro i hi;have hi:i<l.length:=jI
 have a:=c _ (vM (d:=pO) hi);unfold R4;unfold oa at a;rw[aW,aW,aM,aM] at a;rw[a.2,gZ J,gZ J];by_cases h:0<i
 ·have g:=gN.1 e (i-1) i J hi J;rw[<-em,aM] at g;rw[xE hi,xE (show i-1<l.length by omega),gZ (by omega: ¬_>=_)];simp
 ·rw[gZ (by omega: ¬(i:Int)>0)];simp
theorem V7 {l:List Dbt} {d:Dbt} (h:zF l d=true):(∀x∈l,oa x=true)/\(l.Pairwise λx y=>v4 x y=true)/\oa d=true:=by
 unfold zF at h;rw[aW,dQ,fH] at h;have f: ∀i,i<l.length->R4 l i=false:=λi hi=>by simpa using h.1 i jI
 have g: ∀i,(hi:i<l.length)->oa l[i]=true:=λi hi=>by have:=f i hi;unfold R4 at this;rw[bT,bT,bT,bH,bH,xE hi] at this;unfold oa;rw[aW,aW,aM,aM];refine⟨⟨J,J⟩,by simpa using this.1.2⟩
 have c: ∀i,i+1<l.length->v4 (l.getD i pO) (l.getD (i+1) pO)=true:=λi hi=>by have:=f (i+1) hi;unfold R4 at this;rw[bT,gH (by omega:((i+1:Nat):Int)>0),oD,bH] at this;have n:=this.2;rw[sR] at n;rw[<-em,aM];omega
 refine⟨λx t=> ?_,?_,h.2⟩
 ·obtain⟨i,hi,rfl⟩:=cU t;exact g i hi
 ·rw[gN];intro i j hi A z;have: ∀k,(a:i+1+k<l.length)->v4 l[i] l[i+1+k]=true:=by
   intro k
   induction k with
   |zero=>
    intro a;have:=c i a
    rwa [xE hi,xE a] at this
   |succ k w=>intro a;have:=c (i+1+k) a;rw[xE (show i+1+k<l.length by omega),xE (show i+1+k+1<l.length by omega)] at this;exact KG (w J) this
  have q:=this (j-(i+1)) J;have e:i+1+(j-(i+1))=j:=J
  simpa [e] using q
theorem wa (l:List Dbt) (F:l.length<2^62) (d:Dbt):cC 230 [.rs 2 l.length (u7 l),.ag d.av] [] (.b (zF l d)):=by
 refine hZ Tryz.func230 [.tmp 4] [] ?_
 repeat apply jL
 refine⟨[],Nat,λk=>k<=l.length/\ ∀j,j<k->R4 l j=false,λk=>[⟨9,[],.I k⟩],λ_=>[],λk=>l.length-k,nc,?_⟩;rintro k ⟨E,t⟩;refine .inl ⟨λf=> ?_,λf=> ?_⟩
 ·have f:=pH f;have f:(k:Int)<l.length:=f;have x:(k:Int).toNat=k:=aQ k
  repeat apply jL
  refine⟨⟨J,J⟩,?_⟩
  refine jc (V6 _) ?_
  repeat apply jL
  refine⟨λh=> ?_,?_⟩
  ·have h:=h.1;have h:(decide ((k:Int)>0))=true:=jH
   rw[aM] at h;rw[wr J J];omega
  refine jc (vz _ _) ?_;have g:k=0\/IntKind.i64.wrap ((k:Int)-1)=((k-1:Nat):Int):=by
   by_cases D:k=0
   ·exact .inl D
   ·exact .inr ((wr J J).trans J)
  have w:(decide ((k:Int)>0)&&decide (R3 (l.getD (IntKind.i64.wrap ((k:Int)-1)).toNat pO) (l.getD (k:Int).toNat pO)>=0))=(decide ((k:Int)>0)&&decide (R3 (l.getD (k-1) pO) (l.getD k pO)>=0)):=by
   rcases g with g|g
   ·rw[g];rfl
   ·rw[g,aQ,aQ]
  repeat apply jL
  refine jB (((decide ((l.getD (k:Int).toNat pO).e<0)||decide ((l.getD (k:Int).toNat pO).e>=100000))|| !KC (l.getD (k:Int).toNat pO).n)||(decide ((k:Int)>0)&&decide (R3 (l.getD (IntKind.i64.wrap ((k:Int)-1)).toNat pO) (l.getD (k:Int).toNat pO)>=0))) (λh=> ?_) λh=> ?_
  ·rw[w,x] at h;refine RetIs.b ?_;unfold zF;rw[t5 (R4 l) 0 (List.range l.length) (j:=k) jO (by rw[Q6 J];exact h)];rfl
  ·rw[w,x] at h;have h:R4 l k=false:=h;refine⟨k+1,[],⟨J,λj hj=> ?_⟩,jM,rfl,rfl,rfl,rfl,rfl,nV,trivial⟩;by_cases C:j=k
   ·rw[C];exact h
   ·exact t j J
 ·have f:=iT f;have f:(l.length:Int)<=k:=f;have z:(List.range l.length).any (R4 l)=false:=t4 (R4 l) 0 _ λj hj=>by rw[oP] at hj;rw[Q6 hj];exact t j J
  refine jc (V6 _) ?_;refine RetIs.b ?_;unfold zF;rw[z,Bool.not_false,oD];rfl
def M2 (l:List Dbt) (d:Dbt):Nat:=(l.filter λx=>v4 x d).length
theorem wc {α:Type} {p:α->Bool}: ∀{l:List α} {i:Nat},(∀j,(h:j<l.length)->j<i->p l[j]=true)->(∀j,(h:j<l.length)->i<=j->p l[j]=false)->l.filter p=l.take i/\(l.filter λx=> !p x)=l.drop i
 |[],i,_,_=>jS
 |x::r,0,_,c=>by have:=wc (p:=p) (l:=r) (i:=0) (λj h e=>absurd e (dU j)) (λj h _=>c (j+1) jO (bI _));have a:=c 0 jS (aG _);have a:p x=false:=a;rw[iW,iW,a,this.1,this.2];simp
 |x::r,i+1,f,c=>by have:=wc (p:=p) (l:=r) (i:=i) (λj h e=>f (j+1) jO J) (λj h e=>c (j+1) jO J);have a:=f 0 jS J;have a:p x=true:=a;rw[iW,iW,a,this.1,this.2];simp
theorem Fq {l:List Dbt} {d:Dbt} {i:Nat} (hi:i<=l.length) (c: ∀j,j<i->v4 (l.getD j pO) d=true) (e: ∀j,i<=j->j<l.length->v4 (l.getD j pO) d=false):M2 l d=i/\(l.filter λx=>v4 x d)=l.take i/\(l.filter λx=> !v4 x d)=l.drop i:=by have:=wc (p:=λx=>v4 x d) (l:=l) (i:=i) (λj h a=>by have:=c j a;rwa [xE h] at this) (λj h a=>by have:=e j a h;rwa [xE h] at this);refine⟨?_,this⟩;unfold M2;rw[this.1,cT];omega
theorem jp {l:List Dbt} (h:l.Pairwise λx y=>v4 x y=true) {d:Dbt} {i j:Nat} (f:i<=j) (c:j<l.length) (a:v4 (l.getD j pO) d=true):v4 (l.getD i pO) d=true:=by
 by_cases e:i=j
 ·rw[e];exact a
 ·have:=gN.1 h i j J c J;rw[xE c] at a;rw[xE (show i<l.length by omega)];exact KG this a
def Fs (l:List Dbt) (d:Dbt):Bool:=decide ((M2 l d:Int)<l.length)&&decide (l.getD (M2 l d) pO=d)
theorem Bj (l:List Dbt) (H:l.length<=1000000) (z:l.Pairwise λx y=>v4 x y=true) (d:Dbt):cC 231 [.rs 2 l.length (u7 l),.ag d.av,.fn 232 []] [] (.tup [.I (M2 l d),.b (Fs l d)]):=by
 refine hZ Tryz.func231 [.tmp 6,.tmp 7] [] ?_
 repeat apply jL
 refine⟨[],Nat×Nat,λx=>x.1<=x.2/\x.2<=l.length/\(∀j,j<x.1->v4 (l.getD j pO) d=true)/\(∀j,x.2<=j->j<l.length->v4 (l.getD j pO) d=false),λx=>[⟨9,[],.I x.1⟩,⟨10,[],.I x.2⟩],λ_=>[],λx=>x.2-x.1,
  ⟨(0,l.length),[],⟨bI _,aG _,λj g=>absurd g (dU j),λj h1 h2=>absurd h2 J⟩,rfl,rfl,rfl,rfl,rfl,⟨nT,nT⟩,trivial⟩,?_⟩
 rintro⟨a,b⟩ ⟨E,t,h1,h2⟩;dsimp only at E t h1 h2;refine .inl ⟨λf=> ?_,λf=> ?_⟩
 ·have f:=pH f;have f:(a:Int)<b:=f;have w1:IntKind.i64.wrap ((IntKind.u64.wrap (IntKind.i64.wrap ((a:Int)+b))).fdiv (2^(min (1:Int).toNat IntKind.u64.bits)))=(((a+b)/2:Nat):Int):=by rw[wr (n:=(a:Int)+b) J J,show IntKind.u64.wrap ((a:Int)+b)=(a:Int)+b from(IntKind.wrap_u64 _).trans J];rw[show(2:Int)^(min (1:Int).toNat IntKind.u64.bits)=2 from rfl,Int.fdiv_eq_ediv_of_nonneg _ jD];exact(wr J J).trans J
  have F:(a+b)/2<l.length:=J
  refine⟨jD,⟨by rw[w1];omega,by rw[w1];omega⟩,?_⟩
  refine jb (vz _ _) ?_
  repeat apply jL
  refine jB (decide (R3 (l.getD (IntKind.i64.wrap ((IntKind.u64.wrap (IntKind.i64.wrap ((a:Int)+b))).fdiv (2^(min (1:Int).toNat IntKind.u64.bits)))).toNat pO) d<0)) (λh=> ?_) λh=> ?_
  ·rw[w1,aQ,em] at h;refine⟨((a+b)/2+1,b),[],⟨jM,t,λj g=>jp z (by dsimp only at g;omega) F h,h2⟩,jM,rfl,rfl,rfl,rfl,rfl,⟨⟨rfl,by rw[w1];exact(wr J J).trans jM⟩,nT⟩,trivial⟩
  ·rw[w1,aQ,em] at h;refine⟨(a,(a+b)/2),[],⟨jM,jM,h1,λj g C=> ?_⟩,jM,rfl,rfl,rfl,rfl,rfl,⟨nT,⟨rfl,w1⟩⟩,trivial⟩;cases D:v4 (l.getD j pO) d with
   |false=>rfl
   |true=>rw[jp z g C D] at h;cases h
 ·have f:=iT f;have f:(b:Int)<=a:=f;obtain rfl:a=b:=J
  have w:=Fq t h1 h2;rw[<-w.1];have G:M2 l d<=l.length:=by rw[w.1];exact t
  repeat apply jL
  refine⟨λh=> ?_,?_⟩
  ·have h:=h.1;have h:decide ((M2 l d:Int)<l.length)=true:=h;rw[aM] at h;exact⟨iK _,h⟩
  refine jc (vz _ _) ?_;have e:(decide ((M2 l d:Int)<l.length)&&(R3 (l.getD (M2 l d:Int).toNat pO) d==0))=Fs l d:=by rw[KB,aQ];rfl
  rw[<-e];exact RetIs.v rfl rfl rfl
def Sj (l:List Dbt) (d:Dbt):List Dbt:=(l.filter λx=>v4 x d)++d::l.filter λx=> !v4 x d
def l7 (l:List Dbt) (d:Dbt):List Dbt×Int:=if(!zF l d)=true then([],1) else if d∈l then([],5) else(Sj l d,0)
theorem Sk: ∀{l:List Dbt},(l.Pairwise λx y=>v4 x y=true)-> ∀d:Dbt,∃i,i<=l.length/\(∀j,j<i->v4 (l.getD j pO) d=true)/\(∀j,i<=j->j<l.length->v4 (l.getD j pO) d=false)
 |[],_,d=>⟨0,aG _,λj a=>absurd a (dU j),λj _ a=>absurd a (dU j)⟩
 |x::r,h,d=>by
  have q:=jP.1 h;by_cases c:v4 x d=true
  ·obtain⟨i,t,g,n⟩:=Sk q.2 d;refine⟨i+1,jO,λj a=> ?_,λj a e=> ?_⟩
   ·cases j with
    |zero=>exact c
    |succ j=>exact g j J
   ·cases j with
    |zero=>omega
    |succ j=>exact n j J (by simpa using e)
  ·refine⟨0,bI _,λj a=>absurd a (dU j),λj _ a=> ?_⟩;cases f:v4 ((x::r).getD j pO) d with
   |false=>rfl
   |true=>have:=jp h (i:=0) (bI j) a f;exact absurd this c
theorem SN {l:List Dbt} (f:l.Pairwise λx y=>v4 x y=true) (d:Dbt):M2 l d<=l.length/\Sj l d=l.take (M2 l d)++d::l.drop (M2 l d):=by obtain⟨i,a,c,e⟩:=Sk f d;have h:=Fq a c e;unfold Sj;rw[h.1,h.2.1,h.2.2];exact⟨a,rfl⟩
theorem Ft {l:List Dbt} (w:l.Pairwise λx y=>v4 x y=true) (d:Dbt):Fs l d=decide (d∈l):=by
 obtain⟨i,C,g,n⟩:=Sk w d;have h:=Fq C g n;have A: ∀x,v4 x x=false:=λx=>by simp[v4,ltP]
 unfold Fs;rw[h.1,hM,aW,aM,aM,aM];constructor
 ·rintro⟨a,b⟩;rw[<-b];exact vM J
 ·intro D;obtain⟨j,f,e⟩:=cU D;have E:i<=j:=by
   rcases kM j i with c|c
   ·have:=g j c;rw[xE f,e,A] at this;cases this
   ·exact c
  have z:i=j:=by
   rcases kM i j with c|c
   ·have q:=gN.1 w i j J f c;have t:=n i (aG _) J;rw[xE (show i<l.length by omega)] at t;rw[e,t] at q;cases q
   ·omega
  subst z;exact⟨J,by rw[xE f];exact e⟩
theorem Ly (l:List Dbt) (t:l.length<=900000) (d:Dbt):cM 201 false [] [.rs 2 l.length (u7 l),.ag d.av] (λ_:Unit=>True) (λ_=>[]) (λ_=>[.row 66 2 (l7 l d).1.length (u7 (l7 l d).1)]) (λ_=> .tup [.so 0,.I (l7 l d).2]):=by
 refine sE Tryz.func201 [.tmp 4,.tmp 5] [(2000006,[.frz 1 [0],.ex 0]),(999999,[.nl 4 66 2])] ?_
 repeat apply jL
 refine⟨[],_,wa l J d,?_⟩
 repeat apply jL
 refine jB (!zF l d) (λh=> ?_) λh=> ?_
 ·have e:l7 l d=([],1):=by unfold l7;rw[aE h]
  rw[e];exact⟨(),[(0,1)],trivial,nw,rfl,λ_=>q6⟩
 obtain⟨h1,f,w⟩:=V7 (l:=l) (d:=d) jH;obtain⟨n,j⟩:=SN f d
 repeat apply jL
 refine⟨[],_,Bj l J f d,?_⟩
 repeat apply jL
 refine jB (Fs l d) (λg=> ?_) λg=> ?_
 ·rw[Ft f,aM] at g;have e:l7 l d=([],5):=by unfold l7;rw[aB jR,aE g]
  rw[e];exact⟨(),[(0,1)],trivial,nw,rfl,λ_=>q6⟩
 rw[Ft f,bH] at g;have e:l7 l d=(Sj l d,0):=by unfold l7;rw[aB jR,aB g]
 rw[e,j];refine⟨.br 1 (.st 4 2 .leaf) 4 (.st 1 2 .leaf),V,Unit,λ_=>True,Function.const Unit ?_,?_,λ_ _=>⟨?_,?_⟩⟩
 rotate_left
 ·refine⟨?_,?_⟩
  ·refine eX ⟨_,_,j5 l J,?_⟩;refine⟨(),[],trivial,?_,xI ?_ ?_⟩
   rotate_left
   ·show _=id _;rfl
   ·exact mG
   ·rfl
  ·refine eX ⟨_,_,j5 l J,?_⟩;refine⟨(),[(1,2),(2,1)],trivial,rfl,?_,?_,rfl⟩<;>(repeat' first|exact rfl|exact trivial|refine⟨?_,?_⟩|intro _ _)
 ·rfl
 refine aN (aN ?_);refine⟨false,[1,2],rfl,Unit,_,_,_,_,JZ l (M2 l d) d t n rfl,λ_ _=> ?_⟩;refine⟨(),[(0,3)],trivial,qM,rfl,λ_=>q6⟩
theorem Lz (P:List Dbt) (i q:Nat):(P.eraseIdx i).getD q pO=if q<i then P.getD q pO else P.getD (q+1) pO:=by simp only[List.getD];rw[List.getElem?_eraseIdx];split<;>rfl
theorem Sl (P:List Dbt) (l:P.length<=1000000) (i:Nat) (hi:i<P.length) (j:Int) (g:j=(i:Int)+1):cM 233 false [.row 66 2 P.length (u7 P)] [.so 0,.I i,.I j] (λ_:Unit=>True) (λ_=>[.dead]) (λ_=>[.row 66 2 (P.eraseIdx i).length (u7 (P.eraseIdx i))]) (λ_=> .so 1):=by
 refine sE Tryz.func233 [.tmp 6] [(999999,[.own 6])] ?_;subst g
 repeat apply jL
 refine⟨⟨J,J,J,J⟩,?_⟩
 repeat apply jL
 refine⟨λh=> ?_,λ_=> ?_⟩
 ·have h:((i:Int)==(i:Int)+1)=true:=h;rw[cH] at h;omega
 repeat apply jL
 refine⟨⟨J,J,J⟩,?_⟩
 repeat apply jL
 refine⟨⟨J,J,J⟩,?_⟩
 repeat apply jL
 refine⟨J,?_⟩
 repeat apply jL
 refine⟨⟨J,J,J⟩,?_⟩;have e:(P.eraseIdx i).length=P.length-1:=by rw[List.length_eraseIdx,aE hi]
 refine⟨⟨(),[(1,2)],trivial,⟨nU,⟨nS,⟨rfl,rfl,trivial,⟨rfl,rfl,?_,λq c=> ?_⟩⟩,trivial⟩,rfl⟩,rfl,λ_=>⟨rfl,trivial,λ_ _=>rfl⟩⟩⟩
 ·rw[e];omega
 ·have c:q<(P.eraseIdx i).length:=c;have f:q+Int.toNat 0=q:=rfl;dsimp only;rw[f,aB (by rw[e] at c;omega)];unfold X9 u7;rw[Lz];by_cases h:q<i
  ·rw[aE h,aB J]
  ·rw[aB h,aE (by rw[e] at c;omega)]
   congr 2
   omega
def z5 (l:List Dbt) (d:Dbt):List Dbt×Int:=if(!zF l d)=true then([],1) else if(!Fs l d)=true then([],4) else(l.eraseIdx (M2 l d),0)
theorem Sm (l:List Dbt) (w:l.length<=900000) (d:Dbt):cM 132 false [] [.rs 2 l.length (u7 l),.ag d.av] (λ_:Unit=>True) (λ_=>[]) (λ_=>[.row 66 2 (z5 l d).1.length (u7 (z5 l d).1)]) (λ_=> .tup [.so 0,.I (z5 l d).2]):=by
 refine sE Tryz.func132 [.tmp 4,.tmp 5] [(999999,[.nl 4 66 2])] ?_
 repeat apply jL
 refine⟨[],_,wa l J d,?_⟩
 repeat apply jL
 refine jB (!zF l d) (λh=> ?_) λh=> ?_
 ·have e:z5 l d=([],1):=by unfold z5;rw[aE h]
  rw[e];exact⟨(),[(0,1)],trivial,nw,rfl,λ_=>q6⟩
 obtain⟨h1,n,t⟩:=V7 (l:=l) (d:=d) jH
 repeat apply jL
 refine⟨[],_,Bj l J n d,?_⟩
 repeat apply jL
 refine jB (!Fs l d) (λf=> ?_) λf=> ?_
 ·have e:z5 l d=([],4):=by unfold z5;rw[aB jR,aE f]
  rw[e];exact⟨(),[(0,1)],trivial,nw,rfl,λ_=>q6⟩
 have e:z5 l d=(l.eraseIdx (M2 l d),0):=by unfold z5;rw[aB jR,aB (by rw[f];decide)]
 rw[e];have j:M2 l d<l.length:=by
  have g:Fs l d=true:=by simpa using f
  unfold Fs at g;rw[aW,aM] at g;omega
 repeat apply jL
 refine⟨_,_,j5 l J,?_⟩;refine aN (aN ?_);refine⟨false,[1],rfl,Unit,_,_,_,_,Sl l J (M2 l d) j _ (wr J J),λ_ _=> ?_⟩;exact⟨(),[(0,2)],trivial,qM,rfl,λ_=>q6⟩
def ZY (E:List Ev) (e id:Int):Bool:=if(decide (e<0)||decide (e>=(E.length:Int)))=true then false else(e==id||(E.getD e.toNat dE).t==id||(E.getD e.toNat dE).q==id)
theorem KH (E:List Ev) (g:E.length<1000000) (e id:Int):cC 282 [.rs 12 E.length (rE E),.I e,.I id] [] (.b (ZY E e id)):=by
 refine hZ Tryz.func282 [.tmp 6] [] ?_
 repeat apply jL
 refine jB (decide (e<0)||decide (e>=(E.length:Int))) (λh=> ?_) λh=> ?_
 ·refine RetIs.b ?_;unfold ZY;rw[aE h]
 have f:=h;rw[bT,bH,bH] at f
 repeat apply jL
 refine⟨λ_=>⟨J,J⟩,?_⟩
 repeat apply jL
 refine⟨λ_=>⟨J,J⟩,?_⟩;refine RetIs.b ?_;unfold ZY;rw[aB jR]
def SO (st:Sta_q0) (p:Pr) (e:Int):Sta_q0:={st with pairs:=if e=0 then st.pairs++[p] else st.pairs}
theorem wd (s:Stp0) (P:List Pf_q0) (st:Sta_q0) (g:st.pairs.length<900000) (p:Pr):cM 108 true [aHs s P st kV] [.p 0 0,.ag p.av] (λ_:Int=>True) (λe=>[aHs s P (SO st p e) kV]) (λ_=>[]) (λe=> .I e):=by
 refine sE Tryz.func108 [.tmp 4] [(2000001,[.frz 0 [0,1]]),(999999,[.frc 0 15 [2]])] ?_;refine aN (aN ?_);refine⟨false,[],rfl,(List Pr×Int),_,_,_,_,BR st.pairs g p,λy f=> ?_⟩;obtain⟨l,e⟩:=y;have f:e=0->l=st.pairs++[p]:=f.1
 repeat apply jL
 refine jB (e==0) (λh=> ?_) λh=> ?_
 ·have h:e=0:=jH
  refine⟨e,[(0,0)],trivial,⟨nY,⟨⟨rfl,rfl,rfl,?_⟩,trivial⟩,rfl⟩,rfl,λh=>jC⟩;unfold SO;rw[aE h,<-f h];exact eN.refl _
 ·have h: ¬e=0:=jH
  refine⟨e,[(0,0)],trivial,⟨nY,⟨⟨rfl,rfl,rfl,?_⟩,trivial⟩,rfl⟩,rfl,λh=>jC⟩;unfold SO;rw[aB h];exact eN.refl _
theorem Ma (l:List Pr) (e:l.length<2^62) (a:FuncId) (c:List AV) (p:Pr->Bool) (hp: ∀x∈l,cC a [.ag x.av,.rp c] [] (.b (p x))):cC 180 [.rs 4 l.length (fb l),.fn a [.rp c]] [] (.I (fx l.length λk=>p (l.getD k l6))):=by
 refine hZ Tryz.func180 [.tmp 4] [] ?_
 let dq:=l6
 exact m3
theorem Mb (S:List Pr) (P:S.length<=1000000) (C:FuncId) (E:List AV) (p:Pr->Bool) (G: ∀x∈S,cC C [.ag x.av,.rp E] [] (.b (p x))) (N:S.any p=true):cM 133 false [.row 225 4 S.length (fb S)] [.so 0,.fn C [.rp E]] (λ_:Unit=>True) (λ_=>[.dead]) (λ_=>[.row 225 4 (kp p S).length (fb (kp p S))]) (λ_=> .so 1):=by
 refine sE Tryz.func133 [.tmp 4] [(999999,[.own 4])] ?_;obtain⟨H,w,z,t,M⟩:=tz ((rL S l6 p).trans N)
 repeat apply jL
 refine⟨[],_,Ma S J C E p G,?_⟩;rw[M]
 repeat apply jL
 refine⟨λh=>absurd (cH.1 h) J,λ_=> ?_⟩;have w1:=Ef p l6 S w;rw[aE z,pn p l6 S J t,cT] at w1
 repeat apply jL
 refine⟨[],Nat,λj=>H<j/\j<=S.length,λj=>[⟨6,[],.I j⟩,⟨5,[],.I (kp p (S.take j)).length⟩],λj=>[⟨0,[],.row 225 4 S.length λq=>(la p l6 S j q).av⟩],λj=>S.length-j,
  ⟨H+1,[],⟨J,J⟩,rfl,rfl,rfl,rfl,rfl,⟨nV,⟨rfl,by rw[w1];omega⟩⟩,⟨rfl,rfl,rfl,λq g=>fW Pr.av (Jt p l6 S w z t q)⟩⟩,?_⟩
 rintro j ⟨K,L⟩;have O:=UV p l6 S w z t K L;refine .inl ⟨λf=> ?_,λf=> ?_⟩
 ·have f:=pH f;have f:(j:Int)<S.length:=f;have n:la p l6 S j (j:Int).toNat=S.getD j l6:=UW p l6 S J;have F:=Ef p l6 S (j:=j) J
  repeat apply jL
  refine⟨⟨J,J⟩,J,?_⟩
  repeat apply jL
  refine⟨[],_,G _ (by rw[n];exact vM J),?_⟩
  repeat apply jL
  refine jB (!(p (la p l6 S j (j:Int).toNat))) (λl=> ?_) λl=> ?_
  ·rw[n,dQ] at l;rw[aB (by rw[l];decide)] at F;refine⟨⟨J,J⟩,J,j+1,[],⟨J,J⟩,jM,rfl,rfl,rfl,rfl,rfl,⟨nV,⟨rfl,(wr J J).trans J⟩⟩,⟨rfl,rfl,rfl,λq g=> ?_⟩⟩;show(if q=((kp p (S.take j)).length:Int).toNat then(la p l6 S j (j:Int).toNat).av else(la p l6 S j q).av)=(la p l6 S (j+1) q).av;rw[aQ,n,<-Ux p l6 S J l q];split<;>rfl
  ·rw[n,hV] at l;rw[aE l] at F;exact⟨j+1,[],⟨J,J⟩,jM,rfl,rfl,rfl,rfl,rfl,⟨nV,⟨rfl,J⟩⟩,⟨rfl,rfl,rfl,λq g=>fW Pr.av (Uy p l6 S J l q)⟩⟩
 ·have f:=iT f;have f:(S.length:Int)<=j:=f;obtain rfl:j=S.length:=J
  have D:S.take S.length=S:=eJ
  repeat apply jL
  refine⟨⟨J,J,J⟩,?_⟩
  repeat apply jL
  refine⟨⟨J,J,J⟩,(),[(1,1)],trivial,⟨nU,⟨nS,⟨rfl,rfl,trivial,⟨rfl,rfl,by rw[D];omega,λq g=> ?_⟩⟩,trivial⟩,rfl⟩,rfl,λ_=>⟨rfl,trivial,λ_ _=>rfl⟩⟩;have g:q<(kp p S).length:=g;show(if((kp p (S.take S.length)).length:Int).toNat<=q/\q<((kp p (S.take S.length)).length:Int).toNat+((S.length:Int)-(kp p (S.take S.length)).length).toNat then _ else(la p l6 S S.length q).av)=((kp p S).getD q l6).av;rw[aB (by rw[D];omega)];unfold la;rw[D,aE g]
theorem Sn (S:List Pr) (q:S.length<=1000000) (c:FuncId) (e:List AV) (p:Pr->Bool) (l: ∀x∈S,cC c [.ag x.av,.rp e] [] (.b (p x))) (n:S.any p=false):cM 133 false [.row 225 4 S.length (fb S)] [.so 0,.fn c [.rp e]] (λ_:Unit=>True) (λ_=>[.dead]) (λ_=>[.row 225 4 S.length (fb S)]) (λ_=> .so 1):=by
 refine sE Tryz.func133 [.tmp 4] [(999999,[.own 4])] ?_;have f:fx S.length (λk=>p (S.getD k l6))= -1:=GJ λj g=>by have:=fH.1 n _ (vM (d:=l6) g);simpa using this
 repeat apply jL
 refine⟨[],_,Ma S J c e p l,?_⟩;rw[f]
 repeat apply jL
 exact⟨λ_=>⟨(),[(1,1)],trivial,⟨nU,⟨nS,⟨rfl,rfl,trivial,⟨rfl,rfl,rfl,λ_ _=>rfl⟩⟩,trivial⟩,rfl⟩,rfl,λ_=>⟨rfl,trivial,λ_ _=>rfl⟩⟩,λh=>jC⟩
theorem Mc (S:List Pr) (f:S.length<=1000000) (c:FuncId) (e:List AV) (p:Pr->Bool) (g: ∀x∈S,cC c [.ag x.av,.rp e] [] (.b (p x))):cM 133 false [.row 225 4 S.length (fb S)] [.so 0,.fn c [.rp e]] (λ_:Unit=>True) (λ_=>[.dead]) (λ_=>[.row 225 4 (kp p S).length (fb (kp p S))]) (λ_=> .so 1):=by
 by_cases a:S.any p=true
 ·exact Mb S f c e p g a
 have a:S.any p=false:=by simpa using a
 have h:kp p S=S:=lC.2 λx j=>by simpa using fH.1 a x j
 rw[h];exact Sn S f c e p g a
def dnP (i:Inp) (p:Pr):Bool:=(p.n==i.net&&p.e==i.ev)&&decide (p.p<20)
theorem BU (i:Inp) (x:Pr):cC 134 [.ag x.av,.rp i.av] [] (.b (dnP i x)):=by refine hZ Tryz.func134 [.tmp 3] [] ?_;exact RetIs.b rfl
def CV (st:Sta_q0) (i:Inp):Sta_q0×Int:=
 if((z5 st.debts ⟨i.ev,i.net⟩).2 !=0)=true then(st,(z5 st.debts ⟨i.ev,i.net⟩).2) else
 ({st with debts:=(z5 st.debts ⟨i.ev,i.net⟩).1,pairs:=if(lQ (st.ev.getD i.ev.toNat dE).a !=i.net)=true then kp (dnP i) st.pairs else st.pairs},0)
theorem KI {l:List Dbt} {d:Dbt} (h:(z5 l d).2=0):d∈l:=by
 unfold z5 at h;split at h
 ·cases h
 ·rename_i h1;split at h
  ·cases h
  ·rename_i a;obtain⟨_,c,_⟩:=V7 (l:=l) (d:=d) j1;rw[uC,hV,Ft c,aM] at a;exact a
theorem KJ (s:Stp0) (P:List Pf_q0) (st:Sta_q0) (g:st.debts.length<=900000) (l:st.pairs.length<=900000) (j: ∀d∈st.debts,0<=d.e/\d.e<st.ev.length) (i:Inp):cM 69 true [gX s P st 15,.row 225 4 st.pairs.length (fb st.pairs)] [.p 0 0,.ag i.av] (λ_:Unit=>True) (λ_=>[gE s P (CV st i).1 [],.dead]) (λ_=>[]) (λ_=> .I (CV st i).2):=by
 refine sE Tryz.func69 [.tmp 4] [(2000001,[.frz 0 [0,2]]),(1000003,[.frc 0 15 [1]]),(1000004,[.frc 0 22 [3]]),(1000006,[.frc 0 15 [4]]),(1000007,[.frc 0 15 [1]]),(2000005,[.frz 0 [2]])] ?_;refine aN (aN ?_);refine⟨false,[],rfl,Unit,_,_,_,_,Sm st.debts g ⟨i.ev,i.net⟩,λ_ _=> ?_⟩
 repeat apply jL
 refine jB ((z5 st.debts ⟨i.ev,i.net⟩).2 !=0) (λh=> ?_) λh=> ?_
 ·have e:CV st i=(st,(z5 st.debts ⟨i.ev,i.net⟩).2):=by unfold CV;rw[aE h]
  rw[e];refine nk
 have f:=j _ (KI jH)
 repeat apply jL
 refine⟨⟨f.1,f.2⟩,?_⟩
 refine jb (uM _) ?_
 repeat apply jL
 refine jB (lQ (st.ev.getD i.ev.toNat dE).a !=i.net) (λh2=> ?_) λh2=> ?_
 ·refine aN (aN ?_);refine⟨false,[1],rfl,Unit,_,_,_,_,Mc st.pairs J 134 i.av (dnP i) (λx _=>BU i x),λ_ _=> ?_⟩;have e:CV st i=({st with debts:=(z5 st.debts ⟨i.ev,i.net⟩).1,pairs:=kp (dnP i) st.pairs},0):=by unfold CV;rw[aB jR,aE h2]
  rw[e];refine⟨(),[(0,0),(1,1)],trivial,⟨nY,⟨⟨rfl,rfl,rfl,xS s P _⟩,nS,trivial⟩,rfl⟩,rfl,λh=>jC⟩
 ·have e:CV st i=({st with debts:=(z5 st.debts ⟨i.ev,i.net⟩).1},0):=by unfold CV;rw[aB jR,aB jK]
  rw[e];refine⟨(),[(0,0),(1,1)],trivial,⟨nY,⟨⟨rfl,rfl,rfl,xS s P _⟩,nS,trivial⟩,rfl⟩,rfl,λh=>jC⟩
theorem KK (l:List Snt) (e:l.length<2^62) (a:FuncId) (c:List AV) (p:Snt->Bool) (hp: ∀x∈l,cC a [.ag x.av,.rp c] [] (.b (p x))):cC 203 [.rs 3 l.length (db l),.fn a [.rp c]] [] (.I (fx l.length λk=>p (l.getD k oK))):=by
 refine hZ Tryz.func203 [.tmp 4] [] ?_
 let dq:=oK
 exact m3
theorem BV (l:List Snt) (e:l.length<2^62) (a:FuncId) (c:List AV) (p:Snt->Bool) (f: ∀x∈l,cC a [.ag x.av,.rp c] [] (.b (p x))):cC 116 [.rs 3 l.length (db l),.fn a [.rp c]] [] (.b (l.any p)):=by refine hZ Tryz.func116 [.tmp 4] [] ?_;exact .inl ⟨[],_,KK l e a c p f,RetIs.b ((l3 _ _).trans (rL l oK p))⟩
theorem BW (i:Inp) (x:Snt):cC 117 [.ag x.av,.rp i.av] [] (.b (x.e==i.ev&&x.n==i.net)):=by refine hZ Tryz.func117 [.tmp 3] [] ?_;exact RetIs.b rfl
def tkF (st:Sta_q0) (i:Inp) (e:Int):Sta_q0:=SO st ⟨i.net,i.loc,i.ev,i.n⟩ e
theorem KL (s:Stp0) (P:List Pf_q0) (st:Sta_q0) (g:st.pairs.length<900000) (j:st.sent.length<2^62) (i:Inp) (c:0<=i.net) (f:i.net<P.length):cM 62 true [aHs s P st kV] [.p 0 0,.ag i.av] (λe:Int=>e=0->(st.sent.any λx=>x.e==i.ev&&x.n==i.net)=true) (λe=>[gE s P (tkF st i e) []]) (λ_=>[]) (λe=> .I e):=by
 refine sE Tryz.func62 [.tmp 4] [] ?_
 repeat apply jL
 refine⟨[],_,BV st.sent j 117 i.av _ (λx _=>BW i x),?_⟩
 repeat apply jL
 refine⟨λh=> ?_,λh=> ?_⟩
 ·have h:(!(st.sent.any λx=>x.e==i.ev&&x.n==i.net))=true:=h;refine⟨4,[(0,0)],λh=>absurd h jD,q9,rfl,λh=>jC⟩
 have h:(!(st.sent.any λx=>x.e==i.ev&&x.n==i.net))=false:=h
 repeat apply jL
 refine⟨⟨c,f⟩,?_⟩
 repeat apply jL
 refine⟨λl=> ?_,λl=> ?_⟩
 ·refine⟨3,[(0,0)],λh=>absurd h jD,q9,rfl,λh=>jC⟩
 refine aN (aN ?_);refine⟨true,[0],rfl,Int,_,_,_,_,wd s P st g ⟨i.net,i.loc,i.ev,i.n⟩,λe _=> ?_⟩;refine⟨e,[(0,0)],λ_=>jH,⟨nY,⟨⟨rfl,rfl,rfl,xS s P (tkF st i e)⟩,trivial⟩,rfl⟩,rfl,λh=>jC⟩
theorem ZZ (l:List Sb.Pf_q1) (x:Sb.Pf_q1): ∀k,k<(l++[x]).length->iJ l.length (Sb.rowsP l) (kJ 3 x.av) k=Sb.rowsP (l++[x]) k:=λq a=>by
 rw[bD,cD] at a;unfold iJ Sb.rowsP;rw[zv];by_cases hq2:q<l.length
 ·rw[aE hq2,aE hq2]
 ·exact mJ
def NB (s:Stp0) (st:Sta_q0) (i:Inp):Sta_q0×Int:=
 if((Sb.clausesY s.cl (st.pf++[i.pf])).2 !=0)=true then(st,(Sb.clausesY s.cl (st.pf++[i.pf])).2) else
 if 0<((Sb.conflictY s.cl (st.pf++[i.pf])).getD []).length then(st,17) else({st with pf:=st.pf++[i.pf]},0)
theorem BX (s:Stp0) (P:List Pf_q0) (st:Sta_q0) (w:st.pf.length<=900000) (n:s.cl.length<2^62) (i:Inp):cM 64 true [aHs s P st kV] [.p 0 0,.ag i.av] (λ_:Unit=>True) (λ_=>[gE s P (NB s st i).1 []]) (λ_=>[]) (λ_=> .I (NB s st i).2):=by
 refine sE Tryz.func64 [.tmp 4] [(2000001,[.frz 5 [0,1],.ex 0]),(2,[.ex 4]),(1000007,[.frc 0 16 [4]])] ?_;refine⟨.br 5 (.st 8 2 .leaf) 8 (.st 5 2 .leaf),V,Unit,λ_=>True,Function.const Unit ?_,?_,λ_ _=>⟨?_,?_⟩⟩
 rotate_left
 ·refine⟨?_,?_⟩
  ·refine eX ⟨_,_,V2 st.pf J,?_⟩;refine⟨(),[],trivial,?_,xI ?_ ?_⟩
   rotate_left
   ·show _=id _;rfl
   ·exact mG
   ·rfl
  ·refine eX ⟨_,_,V2 st.pf J,?_⟩;refine⟨(),[(2,3),(3,2)],trivial,rfl,?_,?_,rfl⟩<;>(repeat' first|exact rfl|exact trivial|refine⟨?_,?_⟩|intro _ _)
 ·rfl
 refine⟨oJ J,?_⟩;refine eX (kZ (.row 102 3 (st.pf++[i.pf]).length (Sb.rowsP (st.pf++[i.pf]))) (hY ⟨rfl,rfl,jS,λq t=>ZZ _ _ q t⟩ ?_));have g:=Sb.Clauses_fn s.cl (st.pf++[i.pf]) n jO;unfold Sb.okCO Sb.okCR at g;by_cases f:(Sb.clausesY s.cl (st.pf++[i.pf])).2=0
 ·rw[aE f,aE f] at g
  refine jb g ?_
  repeat apply jL
  refine jB ((Sb.clausesY s.cl (st.pf++[i.pf])).2 !=0) (λh=> ?_) λh=> ?_
  ·rw[f] at h;cases h
  have j:=Sb.Conflict_fn s.cl (st.pf++[i.pf]) n jO;have e:NB s st i=if 0<((Sb.conflictY s.cl (st.pf++[i.pf])).getD []).length then(st,17) else({st with pf:=st.pf++[i.pf]},0):=by unfold NB;rw[aB jR]
  rw[e];cases l:Sb.conflictY s.cl (st.pf++[i.pf]) with
  |none=>
   rw[l] at j
   refine jb j ?_
   repeat apply jL
   refine⟨λh3=> ?_,λh3=> ?_⟩
   ·cases h3
   rw[aB jD];refine⟨(),[(0,0)],trivial,q9,rfl,λh=>jC⟩
  |some p=>
   rw[l] at j
   refine jb j ?_
   repeat apply jL
   refine jB (decide ((p.length:Int)>0)) (λh3=> ?_) λh3=> ?_
   ·rw[aE j3];refine⟨(),[(0,0)],trivial,nv,rfl,λh=>jC⟩
   ·rw[aB j3];refine⟨(),[(0,0)],trivial,q9,rfl,λh=>jC⟩
 ·rw[aB f,aB f] at g
  refine jb g ?_
  repeat apply jL
  refine jB ((Sb.clausesY s.cl (st.pf++[i.pf])).2 !=0) (λh=> ?_) λh=> ?_
  ·have e:NB s st i=(st,(Sb.clausesY s.cl (st.pf++[i.pf])).2):=by unfold NB;rw[aE h]
   rw[e];refine⟨(),[(0,0)],trivial,nv,rfl,λh=>jC⟩
  ·exact absurd jH f
def ntN (st:Sta_q0) (i:Inp):Sc.Note:={i.note with s:=st.step}
def BY (P:List Pf_q0) (st:Sta_q0) (i:Inp):List Sc.Note×Int:=Sc.addY (st.notes.getD i.net.toNat []) (ntN st i) (P.getD i.net.toNat wV).batch
def Wm (P:List Pf_q0) (st:Sta_q0) (i:Inp):Sta_q0×Int:=
 if(lQ i.note.w !=i.net)=true then(st,1) else
 if(!V3 st.ev i.note.m|| !aHc st i.net i.note.m)=true then(st,4) else
 if decide (i.note.l>(P.getD i.net.toNat wV).level)=true then(st,3) else
 ({st with notes:=if(BY P st i).2=0 then st.notes.set i.net.toNat (BY P st i).1 else st.notes},(BY P st i).2)
theorem KM (s:Stp0) (P:List Pf_q0) (st:Sta_q0) (E:st.notes.length=P.length) (n: ∀x∈st.notes,x.length<2^62) (D:st.sent.length<2^62) (i:Inp) (j:0<=i.net) (h1:i.net<P.length):cM 63 true [gX s P st 17,.row 237 1 st.notes.length (Vw st.notes)] [.p 0 0,.ag i.av] (λ_:Unit=>True) (λ_=>[gE s P (Wm P st i).1 [],.dead]) (λ_=>[]) (λ_=> .I (Wm P st i).2):=by
 refine sE Tryz.func63 [.tmp 4] [(2000001,[.frz 10 [0,2],.ex 0]),(1000003,[.frc 0 17 [1]]),(1000005,[.frc 0 17 [1]]),(1000007,[.frc 0 17 [1]]),(1000009,[.frz 7 [5]]),(1000012,[.frc 0 17 [1]]),(2000002,[.frz 0 [2]])] ?_;refine hY ⟨j,h1⟩ ?_;refine⟨.br 10 (.st 11 2 .leaf) 11 (.st 10 2 .leaf),V,Unit,λ_=>True,Function.const Unit ?_,?_,λ_ _=>⟨?_,?_⟩⟩
 rotate_left
 ·refine⟨?_,?_⟩
  ·refine⟨(),[],trivial,?_,xI ?_ ?_⟩
   rotate_left
   ·show _=id _;rfl
   ·exact mG
   ·rfl
  ·exact nC
 ·rfl
 refine jb (uM _) ?_
 repeat apply jL
 refine⟨λh=> ?_,λh=> ?_⟩
 ·have h:(lQ i.note.w !=i.net)=true:=h;have e:Wm P st i=(st,1):=by unfold Wm;rw[aE h]
  rw[e];refine nk
 have h:(lQ i.note.w !=i.net)=false:=h
 refine jb (Fj s P st kV i.note.m) ?_
 repeat apply jL
 refine⟨[],_,λC=>Fi s P st kV i.net i.note.m (dk (by simpa using C.1)).1 (dk (by simpa using C.1)).2.1 D,?_⟩
 repeat apply jL
 refine⟨λh2=> ?_,λh2=> ?_⟩
 ·have h2:(!V3 st.ev i.note.m|| !aHc st i.net i.note.m)=true:=h2;have e:Wm P st i=(st,4):=by unfold Wm;rw[aB jR,aE h2]
  rw[e];refine nk
 have h2:(!V3 st.ev i.note.m|| !aHc st i.net i.note.m)=false:=h2
 repeat apply jL
 refine jB (decide (i.note.l>(P.getD i.net.toNat wV).level)) (λt=> ?_) λt=> ?_
 ·have e:Wm P st i=(st,3):=by unfold Wm;rw[aB jR,aB jK,aE t]
  rw[e];refine nk
 have e:Wm P st i=({st with notes:=if(BY P st i).2=0 then st.notes.set i.net.toNat (BY P st i).1 else st.notes},(BY P st i).2):=by unfold Wm;rw[aB jR,aB jK,aB (by rw[t];decide)]
 rw[e];have f:i.net.toNat<st.notes.length:=J
 repeat apply jL
 refine⟨⟨j,J⟩,f,?_⟩
 repeat apply jL
 refine⟨_,_,Sc.Add_fn (st.notes.getD i.net.toNat []) (n _ (vM (d:=[]) f)) (ntN st i) (P.getD i.net.toNat wV).batch,?_⟩
 repeat apply jL
 refine jB ((BY P st i).2==0) (λz=> ?_) λz=> ?_
 ·rw[aE (by simpa using z)]
  repeat apply jL
  refine⟨⟨j,J⟩,f,?_⟩;refine⟨(),[(0,0),(1,1)],trivial,⟨nY,⟨⟨rfl,rfl,rfl,⟨rfl,eV.refl _,eV.refl _,eV.refl _,eV.refl _,eV.refl _,eV.refl _,eV.refl _,eV.refl _,eV.refl _,eV.refl _,eV.refl _,eV.refl _,eV.refl _,eV.refl _,eV.refl _,eV.refl _,eV.refl _,?_,eV.refl _,eV.refl _,eV.refl _,eV.refl _,eV.refl _,nT⟩⟩,nS,trivial⟩,rfl⟩,rfl,λh=>jC⟩;refine⟨rfl,jS,λq F=> ?_⟩;show(if q=i.net.toNat then [AV.rs 5 (BY P st i).1.length (Sc.rowsN (BY P st i).1)] else Vw st.notes q)=Vw (st.notes.set i.net.toNat (BY P st i).1) q;unfold Vw;simp only[eR,tJ];by_cases g:q=i.net.toNat
  ·subst g;rw[aE rfl,aE rfl,aE f];rfl
  ·rw[aB g,aB (λe=>g e.symm)]
 ·rw[aB (by simpa using z)];refine nk
theorem Wn (a:Int):(Lit.int .i64 (lQ a)).wf=true:=by
 have: -1<=lQ a/\lQ a<=11:=by
  unfold lQ;split
  ·omega
  ·rename_i h;have h:0<=a:=by unfold bl at h;simp at h;omega
   rw[uO h];omega
 exact JO J J
abbrev aIv (L:List (Int×Bool)) (born:Nat->Nat) (a:Nat):AO:= .mp L.length (λi=> .I (L.getD i (0,false)).1) (λi=> .b (L.getD i (0,false)).2) born a
theorem KN (L:List (Int×Bool)) (born:Nat->Nat) (a:Nat):cM 284 false [aIv L born a] [.mo 0] (λ_:Unit=>True) (λ_=>[aIv L born a]) (λ_=>[.cells 152 [.mo 0]]) (λ_=> .fn 331 [.p 1 0]):=by refine sE Tryz.func284 [.tmp 2] [] ?_;exact⟨⟨(),[],trivial,⟨nU,⟨⟨rfl,rfl,trivial,nr⟩,⟨⟨rfl,rfl,rfl,nT⟩,trivial⟩⟩,rfl⟩,rfl,λ_=>⟨rfl,⟨λ_ _=>nT,rfl⟩⟩⟩⟩
theorem So (L:List (Int×Bool)) (born:Nat->Nat) (a:Nat) (e: ∀k∈iH L,(Lit.int .i64 k).wf=true) (f:L.length*8<=140737488355328):
  cM 283 false [.cells 152 [.mo 1],aIv L born a] [.fn 331 [.p 0 0]] (λ_:Unit=>True) (λ_=>[.cells 152 [.mo 1],aIv L born a]) (λ_=>[.row 3 1 L.length (rI (kO (iH L)))]) (λ_=> .so 2):=by
 have c:(iH L).length=L.length:=by simp[iH]
 have h:=yz (mt:=152) Sa.sortsKeys Tryz.underlying3 (iH L) (λi=> .I (L.getD i (0,false)).1) (λi=> .b (L.getD i (0,false)).2) born a (λi g=>by rw[Sa.keysRow L i g]) e (λ_ _=>rfl) (by rw[c];exact f);rw[c] at h;exact h
theorem we: ∀(L:List (Int×Bool)) (k:Int),(k8 L k).length<=L.length/\ ∀p∈k8 L k,p∈L
 |[],_=>⟨aG _,λ_ h=>h⟩
 |q::r,k=>by
  have c:=we r k;unfold k8;split
  ·exact⟨jS,λp a=>fZ _ a⟩
  ·refine⟨by simpa using c.1,λp a=> ?_⟩;rcases eF.1 a with rfl|a
   ·simp
   ·exact fZ _ (c.2 p a)
theorem SP (L:List (Int×Bool)) (k:Int):(k8 L k).length<=L.length:=(we L k).1
theorem SQ {L:List (Int×Bool)} {k x:Int} (h:x∈iH (k8 L k)):x∈iH L:=by obtain⟨p,a,rfl⟩:=fL.1 h;exact fL.2 ⟨p,(we L k).2 p a,rfl⟩
theorem SR (L:List (Int×Bool)) (k:Int): ∃(D:List (Int×Bool)) (c:Nat->Nat),DT L.length (λi=> .I (L.getD i (0,false)).1) (λi=> .b (L.getD i (0,false)).2) (λi=>i) (.I k) D.length (λi=> .I (D.getD i (0,false)).1) (λi=> .b (D.getD i (0,false)).2) c/\D.length<=L.length/\ ∀x∈iH D,x∈iH L:=by
 by_cases g:(hU L k).isSome=true
 ·obtain⟨c,h⟩:=D8 (kf:=λa:Int=>AV.I a) (vf:=λb:Bool=>AV.b b) (d:=(0,false)) (born:=λi=>i) g;exact⟨k8 L k,c,h,SP L k,λx f=>SQ f⟩
 ·have n:hU L k=none:=by simpa using g
  refine⟨L,λi=>i,?_,aG _,λx f=>f⟩;have:=xY n (0,false);refine .inr ⟨λi l e=>this i l (by simpa using e),rfl,λj q=>⟨rfl,rfl,rfl⟩⟩
def xw (k:Nat) (L:List (Int×Bool)):Prop:=L.length<=k/\ ∀x∈iH L,(Lit.int .i64 x).wf=true
theorem xw.set {k:Nat} {L:List (Int×Bool)} (h:xw k L) {x:Int} (a:(Lit.int .i64 x).wf=true):xw (k+1) (kE L x true):=
 ⟨cO (Sa.mset_len _ _ _) (by have:=h.1;omega),λy c=>(Fo c).elim (λe=>e▸a) (h.2 y)⟩
theorem xw.mono {k:Nat} {L:List (Int×Bool)} (h:xw k L):xw (k+1) L:=⟨by have:=h.1;omega,h.2⟩
theorem KO (E:List Ev) (G:E.length<1000000) (S:List Snt) (O:S.length<=1000000) (K: ∀x∈S,(Lit.int .i64 x.n).wf=true) (id F:Int):cM 223 false [] [.rs 12 E.length (rE E),.rs 3 S.length (db S),.I id,.I F] (λy:List Int=>y.length<=E.length+S.length+1) (λ_=>[]) (λy=>[.row 3 1 y.length (rI y)]) (λ_=> .so 0):=by
 refine sE Tryz.func223 [.tmp 8] [(999999,[.nl 8 3 1])] ?_
 repeat apply jL
 refine⟨λ_=> ?_,?_⟩
 ·rename_i z;have z:=z.1;rw[bT,bH,bH] at z;constructor<;>omega
 repeat apply jL
 refine⟨λh=> ?_,λh=> ?_⟩
 ·exact⟨[],[(0,0)],bI _,nw,rfl,λ_=>q6⟩
 rw[bT,bT,bH,bH] at h
 repeat apply jL
 refine⟨⟨J,J⟩,?_⟩
 refine jb (uM _) ?_;refine⟨1,λ_=> .I (lQ (E.getD id.toNat dE).a),λ_=> .b true,λ_=>0,1,ns,?_⟩
 repeat apply jL
 refine⟨[],Nat×List (Int×Bool),λp=>p.1<=E.length/\xw (p.1+1) p.2,λp=>[⟨40,[],.I p.1⟩],λp=>[⟨0,[],Sa.mpIB p.2⟩],λp=>E.length-p.1,
  ⟨(0,[(lQ (E.getD id.toNat dE).a,true)]),[],⟨bI _,⟨aG _,λx hx=>by obtain rfl:=bV.1 hx;exact Wn _⟩⟩,rfl,rfl,rfl,rfl,rfl,nT,⟨rfl,rfl,λq hq=>by
   have hq:q<1:=hq;obtain rfl:q=0:=J
   exact⟨rfl,rfl,rfl⟩⟩⟩,?_⟩
 rintro⟨k,L⟩ ⟨t,l⟩;have t:k<=E.length:=t;have l:xw (k+1) L:=l;refine .inl ⟨λe=> ?_,λe=> ?_⟩
 ·have e:=pH e;have e:(k:Int)<E.length:=e
  repeat apply jL
  refine⟨⟨J,J⟩,?_⟩
  repeat apply jL
  refine⟨λP=> ?_,λP=> ?_⟩
  ·refine jb (uM _) ?_;refine⟨_,_,_,_,_,⟨λ_ _=>rfl,rfl,lJ (L:=L) (d:=(0,false)) (vf:=λb=>AV.b b) N9 (lQ (E.getD (k:Int).toNat dE).a) true⟩,?_⟩;exact⟨(k+1,kE L (lQ (E.getD (k:Int).toNat dE).a) true),[],⟨jM,l.set (Wn _)⟩,jM,rfl,rfl,rfl,rfl,rfl,nV,eN.refl (Sa.mpIB (kE L (lQ (E.getD (k:Int).toNat dE).a) true))⟩
  ·exact⟨(k+1,L),[],⟨jM,l.mono⟩,jM,rfl,rfl,rfl,rfl,rfl,nV,eN.refl (Sa.mpIB L)⟩
 have e:=iT e;have e:(E.length:Int)<=k:=e;obtain rfl:k=E.length:=J
 repeat apply jL
 refine⟨[],Nat×List (Int×Bool),λp=>p.1<=S.length/\xw (E.length+1+p.1) p.2,λp=>[⟨60,[],.I p.1⟩],λp=>[⟨0,[],Sa.mpIB p.2⟩],λp=>S.length-p.1,
  ⟨(0,L),[],⟨bI _,l⟩,rfl,rfl,rfl,rfl,rfl,nT,eN.refl (Sa.mpIB L)⟩,?_⟩
 rintro⟨k,f⟩ ⟨t,g⟩;have t:k<=S.length:=t;have g:xw (E.length+1+k) f:=g;refine .inl ⟨λe=> ?_,λe=> ?_⟩
 ·have e:=pH e;have e:(k:Int)<S.length:=e
  repeat apply jL
  refine⟨⟨J,J⟩,?_⟩
  refine jc (V6 _) ?_
  refine jc (KH E G _ id) ?_
  repeat apply jL
  refine⟨λP=> ?_,λP=> ?_⟩
  ·refine⟨_,_,_,_,_,⟨λ_ _=>rfl,rfl,lJ (L:=f) (d:=(0,false)) (vf:=λb=>AV.b b) N9 (S.getD (k:Int).toNat oK).n true⟩,?_⟩;exact⟨(k+1,kE f (S.getD (k:Int).toNat oK).n true),[],⟨jM,g.set (K _ (vM J))⟩,jM,rfl,rfl,rfl,rfl,rfl,nV,eN.refl (Sa.mpIB (kE f (S.getD (k:Int).toNat oK).n true))⟩
  ·exact⟨(k+1,f),[],⟨jM,g.mono⟩,jM,rfl,rfl,rfl,rfl,rfl,nV,eN.refl (Sa.mpIB f)⟩
 have e:=iT e;have e:(S.length:Int)<=k:=e;obtain rfl:k=S.length:=J
 obtain⟨D,w,H,M,C⟩:=SR f (-1);refine kZ D.length ?_;refine kZ (λi=> .I (D.getD i (0,false)).1) ?_;refine kZ (λi=> .b (D.getD i (0,false)).2) ?_;refine kZ w ?_;refine hY ?hx ?_
 case hx=>exact⟨λ_ _=>rfl,rfl,H⟩
 have N:=g.1;have A:(kO (iH D)).length=D.length:=by rw[oO];simp[iH]
 refine aN (aN ?_);refine⟨false,[0],rfl,Unit,_,_,_,_,KN D w f.length,λ_ _=> ?_⟩;refine aN (aN ?_);refine⟨false,[1,0],rfl,Unit,_,_,_,_,So D w f.length (λx hx=>g.2 x (C x hx)) J,λ_ _=> ?_⟩;exact⟨kO (iH D),[(0,2)],by rw[A];omega,⟨nU,⟨⟨rfl,rfl,trivial,⟨rfl,rfl,A.symm,λq hq=>rfl⟩⟩,trivial⟩,rfl⟩,rfl,λ_=>q6⟩
theorem Fu (l:List Ot) (x:Ot):eN (.row 52 14 (l++[x]).length (Bg (l++[x]))) (.row 52 14 (l.length+1) (iJ l.length (Bg l) (kJ 14 x.av))):=⟨rfl,rfl,jS,λq a=>ZV l x q a⟩
abbrev gT (s:Stp0) (P:List Pf_q0) (st:Sta_q0) (j:Nat):AO:= .cells 166 (s4 23 (.so j) (gV s P st kV))
abbrev gU (s:Stp0) (P:List Pf_q0) (st:Sta_q0) (i j:Nat):AO:= .cells 166 (s4 21 (.so i) (s4 23 (.so j) (gV s P st kV)))
abbrev sA (l:List Ot):AO:= .row 52 14 l.length (Bg l)
abbrev B6 (st:Sta_q0):AO:= .row 275 3 st.sld.length (xt st.sld)
theorem Md (s:Stp0) (P:List Pf_q0) (st:Sta_q0) (l:List Ot) (c:l.length<=900000) (k n e:Int):cM 202 true [gT s P st 1,sA l] [.p 0 0,.I k,.I n,.I e] (λ_:Unit=>True) (λ_=>[gT s P st 2,.dead]) (λ_=>[sA (l++[⟨k,n,e,F6⟩])]) (λ_=> .tup []):=by
 refine sE Tryz.func202 [] [] ?_
 repeat apply jL
 refine⟨oJ J,?_⟩;exact⟨(),[(2,3)],trivial,⟨nU,⟨qL,nS,⟨rfl,rfl,trivial,Fu l _⟩,trivial⟩,rfl⟩,rfl,λh=>jC⟩
theorem Bl (s:Stp0) (P:List Pf_q0) (st:Sta_q0) (l:List Ot) (c:l.length<=900000) (k n e:Int):cM 202 true [gU s P st 1 2,B6 st,sA l] [.p 0 0,.I k,.I n,.I e] (λ_:Unit=>True) (λ_=>[gU s P st 1 3,B6 st,.dead]) (λ_=>[sA (l++[⟨k,n,e,F6⟩])]) (λ_=> .tup []):=by
 refine sE Tryz.func202 [] [] ?_
 repeat apply jL
 refine⟨oJ J,?_⟩;exact⟨(),[(3,4)],trivial,⟨nU,⟨qL,ni,nS,⟨rfl,rfl,trivial,Fu l _⟩,trivial⟩,rfl⟩,rfl,λh=>jC⟩
theorem KP (l:List Sa.Hld) (f:l.length<2^62) (a:FuncId) (c e:List AV) (p:Sa.Hld->Bool) (hp: ∀x∈l,cC a [.ag x.av,.rp c,.rp e] [] (.b (p x))):cC 215 [.rs 4 l.length (Sa.rowsH l),.fn a [.rp c,.rp e]] [] (.I (fx l.length λk=>p (l.getD k Sa.dH))):=by
 refine hZ Tryz.func215 [.tmp 4] [] ?_
 let dq:=Sa.dH
 exact m3
def erP (st:Sta_q0) (id:Int) (x:Sa.Hld):Bool:=(x.ev==id&&decide (x.fr<=st.step))&&(x.to== -1||decide (x.to>st.step))
theorem KQ (s:Stp0) (P:List Pf_q0) (st:Sta_q0) (o:AV) (id:Int) (x:Sa.Hld):cC 221 [.ag x.av,.rp [.I id],.rp [.rp (gV s P st o)]] [] (.b (erP st id x)):=by refine hZ Tryz.func221 [.tmp 4] [] ?_;exact RetIs.b rfl
structure ErsR (st:Sta_q0) (id:Int) (l:List Ot) (y:List Ev×List Sld×List Dbt×List Ot):Prop where
 ev:y.1=st.ev\/y.1=(rA st.ev id).1
 sl:y.2.1.length<=st.sld.length+1
 dl:y.2.2.1.length<=st.debts.length+(st.ev.length+st.sent.length+1)
 dm: ∀d∈y.2.2.1,d∈st.debts\/d.e=id
 ot: ∃o,y.2.2.2=l++o/\(∀x∈o,x.k≠1)/\o.length<=st.ev.length+st.sent.length+2
theorem KR {r:List Dbt} {d x:Dbt} (h:x∈(l7 r d).1):x∈r\/x=d:=by
 unfold l7 at h;split at h
 ·cases h
 ·split at h
  ·cases h
  ·unfold Sj at h;simp only[cR,eF,eC] at h;rcases h with h|h|h
   ·exact .inl h.1
   ·exact .inr h
   ·exact .inl h.1
theorem aGu (r:List Dbt) (d:Dbt):(l7 r d).1.length<=r.length+1:=by
 exact m9
def VM (st:Sta_q0) (y:List Ev×List Sld×List Dbt×List Ot):Sta_q0:={st with ev:=y.1,sld:=y.2.1,debts:=y.2.2.1}
theorem SS {st:Sta_q0} {id:Int} (h:Sa.Decide st.holds st.ords id st.step=2):st.holds.any (erP st id)=true:=by
 have a:Sa.Held st.holds id st.step=true:=by
  cases e:Sa.Held st.holds id st.step with
  |true=>rfl
  |false=>unfold Sa.Decide at h;rw[e,aE rfl] at h;split at h<;>cases h
 unfold Sa.Held at a;rw[kC] at a|-;obtain⟨x,f,c⟩:=a;refine⟨x,f,?_⟩;unfold Sa.heldBy at c;unfold erP;exact c
theorem aA0 (l:List Sld) (x:Sld):eN (.row 275 3 (l++[x]).length (xt (l++[x]))) (.row 275 3 (l.length+1) (iJ l.length (xt l) (kJ 3 x.av))):=⟨rfl,rfl,jS,λq c=>by
 have c:q<(l++[x]).length:=c;rw[bD,cD] at c;unfold iJ xt;rw[zv];by_cases a:q<l.length
 ·rw[aE a,aE a]
 ·obtain rfl:q=l.length:=J
  rw[aB a,aB a,aE rfl,iG];rfl⟩
theorem Bm (s:Stp0) (P:List Pf_q0) (st:Sta_q0) (H:GOk s P st) (t:Cok st.ev) (hn: ∀x∈st.sent,(Lit.int .i64 x.n).wf=true) (a5:st.sld.length<=900000) (a2:st.debts.length<=100000) (a6:st.sent.length<=100000) (R:st.holds.length<2^62) (U:st.ords.length<2^62) (l:List Ot) (a4:l.length<=100000) (id:Int):cM 129 true [gU s P st 1 2,B6 st,sA l] [.p 0 0,.I id] (ErsR st id l) (λy=>[gU s P (VM st y) 3 4,.dead,.dead]) (λy=>[B6 (VM st y),sA y.2.2.2]) (λ_=> .tup []):=by
 refine sE Tryz.func129 [] [(1000000,[.mvc 0 21,.mvc 0 23]),(2000007,[.frz 1 [3,4]]),(1000007,[.frc 0 11 [12]]),(2000008,[.frz 0 [0,3,4]]),(2000011,[.frz 0 [0,3,4]]),(1000013,[.frc 0 22 [8]]),(2000003,[.frz 1 [0,3]])] ?_;refine aN ⟨[],List Sld,λz=>z.length<=st.sld.length+1,λz=>[],λz=>[⟨0,[],gU s P {st with sld:=z} 5 6⟩,⟨5,[],.row 275 3 z.length (xt z)⟩],?_,λz O=> ?_⟩
 ·refine jb (Sa.Decide_fn st.holds R st.ords U id st.step) ?_
  repeat apply jL
  refine⟨λh=> ?_,λh=> ?_⟩
  ·have h:(Sa.Decide st.holds st.ords id st.step==2)=true:=h
   repeat apply jL
   refine⟨[],_,KP st.holds R 221 _ _ (erP st id) (λx _=>KQ s P st _ id x),?_⟩;obtain⟨Q,aY,aZ,a3,dx⟩:=tz ((rL st.holds Sa.dH (erP st id)).trans (SS jH));rw[dx]
   repeat apply jL
   refine⟨⟨J,J⟩,?_⟩
   repeat apply jL
   refine⟨oJ J,?_⟩;refine⟨st.sld++[⟨id,st.sld.length,(st.holds.getD (Q:Int).toNat Sa.dH).id⟩],[(5,8)],jS,rfl,rfl,rfl,rfl,rfl,trivial,⟨eN.refl (gU s P {st with sld:=st.sld++[⟨id,st.sld.length,(st.holds.getD (Q:Int).toNat Sa.dH).id⟩]} 8 6),?_⟩⟩;have w:=aA0 st.sld ⟨id,st.sld.length,(st.holds.getD (Q:Int).toNat Sa.dH).id⟩;exact⟨rfl,rfl,w.2.2.1,w.2.2.2⟩
  ·exact⟨st.sld,[],eP _,rfl,rfl,rfl,rfl,rfl,trivial,⟨eN.refl (gU s P st 5 6),eN.refl (B6 st)⟩⟩
 have O:z.length<=st.sld.length+1:=O;have A:okL st.ev:=λe he=>by have h1:=(t.ok.2 e he).cs.1;have h2:=(t.ok.2 e he).fs;omega
 have C:=En st.ev (by have:=H.E.1;omega) A;refine aN ⟨[],List Ev,λy=>y=st.ev\/y=(rA st.ev id).1,λy=>[],λy=>[⟨0,[],gU s P {st with ev:=y,sld:=z} 5 6⟩],?_,λy D=> ?_⟩
 ·by_cases M:G7 st.ev=0
  ·obtain⟨K,L⟩:=L3 M;rw[K,L] at C;refine aN (aN ?_);refine⟨true,[],rfl,Unit,_,_,_,_,C,λ_ _=> ?_⟩
   repeat apply jL
   refine⟨λh2=> ?_,λh2=> ?_⟩
   ·refine aN (aN ?_);refine⟨true,[7,8,9,10,11],rfl,Unit,_,_,_,_,HM st.ev t.ok id,λ_ _=> ?_⟩;refine aN (aN ?_);refine⟨true,[7,8,9,10,11],rfl,Unit,_,_,_,_,HN (rA st.ev id).1 (Af t.ok id),λ_ _=> ?_⟩;exact⟨(rA st.ev id).1,[],.inr rfl,rfl,rfl,rfl,rfl,rfl,trivial,eN.refl (gU s P {st with ev:=(rA st.ev id).1,sld:=z} 5 6)⟩
   ·cases h2
  ·obtain⟨K,L⟩:=cc rfl M;rw[K,L] at C;refine aN (aN ?_);refine⟨true,[],rfl,Unit,_,_,_,_,C,λ_ _=> ?_⟩
   repeat apply jL
   refine⟨λh2=> ?_,λh2=> ?_⟩
   ·exact absurd j2 M
   ·exact⟨st.ev,[],.inl rfl,rfl,rfl,rfl,rfl,rfl,trivial,eN.refl (gU s P {st with sld:=z} 5 6)⟩
 have D:y=st.ev\/y=(rA st.ev id).1:=D;have cz:y.length=st.ev.length:=by
  rcases D with e|e
  ·rw[e]
  ·rw[e];unfold rA;split
   ·rfl
   ·exact oR _ _ _
 refine eX ?_;have a0:=H.E.1;have a1:=t.ok.1;refine aN (aN ?_);refine⟨false,[],rfl,(List Int),_,_,_,_,KO y J st.sent J hn id st.step,λa Y=> ?_⟩;have Y:a.length<=y.length+st.sent.length+1:=Y;refine⟨[],Nat×List Dbt×List Ot,λx=>x.1<=a.length/\x.2.1.length<=st.debts.length+x.1/\(∀d∈x.2.1,d∈st.debts\/d.e=id)/\ ∃o,x.2.2=l++o/\(∀x∈o,x.k≠1)/\o.length<=x.1,λx=>[⟨102,[],.I x.1⟩],λx=>[⟨0,[],gU s P {st with ev:=y,sld:=z,debts:=x.2.1} 5 6⟩,⟨6,[],sA x.2.2⟩],λx=>a.length-x.1,
  ⟨(0,st.debts,l),[],⟨bI _,aG _,λd g=> .inl g,[],jS,jS,aG _⟩,rfl,rfl,rfl,rfl,rfl,nT,⟨eN.refl (gU s P {st with ev:=y,sld:=z} 5 6),eN.refl (sA l)⟩⟩,?_⟩
 rintro⟨k,r,j⟩ ⟨A,hr,hm,o,W,S,G⟩;have A:k<=a.length:=A;have hr:r.length<=st.debts.length+k:=hr;have F:j=l++o:=W;clear W;have U:j.length<=l.length+k:=by rw[F,bD];have:o.length<=k:=G;omega
 refine .inl ⟨λf=> ?_,λf=> ?_⟩
 ·have f:=pH f;have f:(k:Int)<a.length:=f
  repeat apply jL
  refine⟨⟨J,J⟩,J,?_⟩;refine aN ⟨[],List Dbt,λr'=>r'.length<=r.length+1/\ ∀d∈r',d∈r\/d.e=id,λ_=>[],λr'=>[⟨0,[],gU s P {st with ev:=y,sld:=z,debts:=r'} 5 6⟩],?_,λr' aP=> ?_⟩
  ·refine aN (aN ?_);refine⟨false,[],rfl,Unit,_,_,_,_,Ly r J ⟨id,a.getD (k:Int).toNat 0⟩,λ_ _=> ?_⟩
   repeat apply jL
   refine⟨λh3=> ?_,λh3=> ?_⟩
   ·exact⟨(l7 r ⟨id,a.getD (k:Int).toNat 0⟩).1,[],⟨aGu _ _,λd g=>(KR g).imp_right λe=>by rw[e]⟩,rfl,rfl,rfl,rfl,rfl,trivial,eN.refl (gU s P {st with ev:=y,sld:=z,debts:=(l7 r ⟨id,a.getD (k:Int).toNat 0⟩).1} 5 6)⟩
   ·exact⟨r,[],⟨eP _,λd g=> .inl g⟩,rfl,rfl,rfl,rfl,rfl,trivial,eN.refl (gU s P {st with ev:=y,sld:=z,debts:=r} 5 6)⟩
  obtain⟨h1,h2⟩:r'.length<=r.length+1/\ ∀d∈r',d∈r\/d.e=id:=aP;refine aN (aN ?_);refine⟨true,[0,5,6],rfl,Unit,_,_,_,_,Bl s P {st with ev:=y,sld:=z,debts:=r'} j J 2 (a.getD (k:Int).toNat 0) id,λ_ _=> ?_⟩;refine⟨(k+1,r',j++[⟨2,a.getD (k:Int).toNat 0,id,F6⟩]),[(6,8)],⟨jM,jM,λd g=>(h2 d g).elim (hm d) .inr,o++[⟨2,a.getD (k:Int).toNat 0,id,F6⟩],by dsimp only;rw[F,gD],λx N=>(cR.1 N).elim (S x) λh=>by rw[bV.1 h];show(2:Int)≠1;decide,by rw[bD,cD];have:o.length<=k:=G;dsimp only;omega⟩,jM,rfl,rfl,rfl,rfl,rfl,nV,⟨eN.refl (gU s P {st with ev:=y,sld:=z,debts:=r'} 5 8),by have w:=eN.refl (sA (j++[(⟨2,a.getD (k:Int).toNat 0,id,F6⟩:Ot)]));exact w⟩⟩
 ·have f:=iT f;have f:(a.length:Int)<=k:=f;obtain rfl:k=a.length:=J
  refine aN (aN ?_);refine⟨true,[0,5,6],rfl,Unit,_,_,_,_,Bl s P {st with ev:=y,sld:=z,debts:=r} j J 3 0 id,λ_ _=> ?_⟩;refine⟨(y,z,r,j++[⟨3,0,id,F6⟩]),[(3,5),(4,8)],⟨D,O,jM,hm,o++[⟨3,0,id,F6⟩],by dsimp only;rw[F,gD],λx N=>(cR.1 N).elim (S x) λh=>by rw[bV.1 h];show(3:Int)≠1;decide,by rw[bD,cD];have:o.length<=a.length:=G;omega⟩,⟨nU,⟨qL,nS,nS,ni,ni,trivial⟩,rfl⟩,rfl,λh=>jC⟩
def z2:ByteArray:=⟨#[114,101,58,32]⟩
def gtB:ByteArray:=⟨#[62,32]⟩
def atB:ByteArray:=⟨#[64]⟩
def spB:ByteArray:=⟨#[32]⟩
def CW (p:Pf_q0) (E:List Ev) (e:Ev) (id:Int):ByteArray:=if(mB E e.t id&& !L8 p 5)=true then gB++(z2++zB (E.getD e.t.toNat dE).x 20++ls) else gB
def CX (p:Pf_q0) (E:List Ev) (e:Ev) (id:Int):ByteArray:=if(mB E e.q id&& !L8 p 6)=true then CW p E e id++(gtB++zB (E.getD e.q.toNat dE).x 20++ls) else CW p E e id
def KS (p:Pf_q0) (E:List Ev) (e:Ev) (id:Int):ByteArray:=if(e.w != -1&& !L8 p 7)=true then CX p E e id++(atB++zM e.w++spB) else CX p E e id
def wg (p:Pf_q0) (E:List Ev) (bad:List Int) (id:Int) (x:ByteArray) (fs:List Int):ByteArray:=KS p E (E.getD id.toNat dE) id++x++V4 (u9 p bad fs) fs
theorem KT {p:Pf_q0} {E:List Ev} (c:wO E) (e:Ev) (id:Int):(CW p E e id).size<=4100:=by
 have f:z2.size=4:=rfl;have g:ls.size=1:=rfl;have j:gB.size=0:=rfl;unfold CW;split
 ·rename_i h;rw[aW] at h;have a:=lu h.1;have:=(c.at a.1 a.2.2.1).x;have:=L9 (E.getD e.t.toNat dE).x 20;rw[cI,cI,cI];omega
 ·omega
theorem KU {p:Pf_q0} {E:List Ev} (a:wO E) (e:Ev) (id:Int):(CX p E e id).size<=8200:=by
 have f:gtB.size=2:=rfl;have g:ls.size=1:=rfl;have:=KT (p:=p) a e id;unfold CX;split
 ·rename_i h;rw[aW] at h;have c:=lu h.1;have:=(a.at c.1 c.2.2.1).x;have:=L9 (E.getD e.q.toNat dE).x 20;rw[cI,cI,cI];omega
 ·omega
theorem KW {p:Pf_q0} {E:List Ev} (a:wO E) {e:Ev} (c:EvW e) (id:Int):(KS p E e id).size<=8300:=by
 have f:atB.size=1:=rfl;have g:spB.size=1:=rfl;have:=KU (p:=p) a e id;have:=c.w;have:=B4 (n:=e.w) J J;unfold KS;split
 ·rw[cI,cI,cI];omega
 ·omega
theorem Wo {p:Pf_q0} {E:List Ev} (a:wO E) {bad:List Int} {id:Int} (c:0<=id) (e:id<E.length) {x:ByteArray} (l:x.size<=4000) {fs:List Int} (k:fs.length<=4) (h: ∀f∈fs,0<=f/\f<=1073741824):(wg p E bad id x fs).size<=13000:=by have j:=KW (p:=p) a (a.at c e) id;have g:=pw (but:=u9 p bad fs) h fs.length (aG _);rw[eJ] at g;unfold wg;rw[cI,cI];omega
theorem Me (p:Pf_q0) (E:List Ev) (j:wO E) (bad:List Int) (M:bad.length<2^62) (id:Int) (K:0<=id) (h1:id<E.length) (x:ByteArray) (Q:x.size<=4000) (fs:List Int) (P:fs.length<=4) (C: ∀f∈fs,0<=f/\f<=1073741824):cC 335 [.ag (Rv p E bad),.I id,.s x,.rs 1 fs.length (rI fs)] [] (.s (wg p E bad id x fs)):=by
 refine hZ Tryz.func335 [.tmp 8] [] ?_;have D:=j.at K h1;have W:=KT (p:=p) j (E.getD id.toNat dE) id;have Y:=KU (p:=p) j (E.getD id.toNat dE) id;have z3:=KW (p:=p) j D id;have R:ls.size=1:=rfl;have S:gB.size=0:=rfl
 repeat apply jL
 refine⟨⟨J,J⟩,?_⟩;have N:wg p E bad id x fs=KS p E (E.getD id.toNat dE) id++x++V4 (u9 p bad fs) fs:=rfl;refine aN ⟨[],Unit,λ_=>True,λ_=>[⟨10,[],.s (CW p E (E.getD id.toNat dE) id)⟩],λ_=>[],?_,λ_ _=> ?_⟩
 ·refine jb (dr p E bad (E.getD id.toNat dE).t id) ?_
  repeat apply jL
  refine⟨[],_,λ_=>t9 p E bad 5 J J,?_⟩
  repeat apply jL
  refine jB (mB E (E.getD id.toNat dE).t id&& !L8 p 5) (λh=> ?_) λh=> ?_
  ·have l:=h;rw[aW] at l;have g:=lu l.1;have H:=(j.at g.1 g.2.2.1).x;have z:=L9 (E.getD (E.getD id.toNat dE).t.toNat dE).x 20;have F:z2.size=4:=rfl
   refine jb (vu p E j bad (E.getD id.toNat dE).t g.1 g.2.2.1) ?_;refine⟨by show z2.size+(zB (E.getD (E.getD id.toNat dE).t.toNat dE).x 20).size<=_;omega,?_⟩;refine⟨by show(z2++zB (E.getD (E.getD id.toNat dE).t.toNat dE).x 20).size+ls.size<=_;rw[cI];omega,?_⟩;refine⟨by show gB.size+(z2++zB (E.getD (E.getD id.toNat dE).t.toNat dE).x 20++ls).size<=_;rw[cI,cI];omega,?_⟩;have er:gB++(z2++zB (E.getD (E.getD id.toNat dE).t.toNat dE).x 20++ls)=CW p E (E.getD id.toNat dE) id:=by unfold CW;rw[aE h]
   exact qD
  ·have er:gB=CW p E (E.getD id.toNat dE) id:=by unfold CW;rw[aB jR]
   exact qD
 refine aN ⟨[],Unit,λ_=>True,λ_=>[⟨10,[],.s (CX p E (E.getD id.toNat dE) id)⟩],λ_=>[],?_,λ_ _=> ?_⟩
 ·refine jb (dr p E bad (E.getD id.toNat dE).q id) ?_
  repeat apply jL
  refine⟨[],_,λ_=>t9 p E bad 6 J J,?_⟩
  repeat apply jL
  refine jB (mB E (E.getD id.toNat dE).q id&& !L8 p 6) (λh=> ?_) λh=> ?_
  ·have l:=h;rw[aW] at l;have g:=lu l.1;have H:=(j.at g.1 g.2.2.1).x;have z:=L9 (E.getD (E.getD id.toNat dE).q.toNat dE).x 20;have F:gtB.size=2:=rfl
   refine jb (vu p E j bad (E.getD id.toNat dE).q g.1 g.2.2.1) ?_;refine⟨by show gtB.size+(zB (E.getD (E.getD id.toNat dE).q.toNat dE).x 20).size<=_;omega,?_⟩;refine⟨by show(gtB++zB (E.getD (E.getD id.toNat dE).q.toNat dE).x 20).size+ls.size<=_;rw[cI];omega,?_⟩;refine⟨by show(CW p E (E.getD id.toNat dE) id).size+(gtB++zB (E.getD (E.getD id.toNat dE).q.toNat dE).x 20++ls).size<=_;rw[cI,cI];omega,?_⟩;have er:CW p E (E.getD id.toNat dE) id++(gtB++zB (E.getD (E.getD id.toNat dE).q.toNat dE).x 20++ls)=CX p E (E.getD id.toNat dE) id:=by unfold CX;rw[aE h]
   exact qD
  ·have er:CW p E (E.getD id.toNat dE) id=CX p E (E.getD id.toNat dE) id:=by unfold CX;rw[aB jR]
   exact qD
 refine aN ⟨[],Unit,λ_=>True,λ_=>[⟨10,[],.s (KS p E (E.getD id.toNat dE) id)⟩],λ_=>[],?_,λ_ _=> ?_⟩
 ·repeat apply jL
  refine⟨[],_,λ_=>t9 p E bad 7 J J,?_⟩
  repeat apply jL
  refine jB ((E.getD id.toNat dE).w != -1&& !L8 p 7) (λh=> ?_) λh=> ?_
  ·have O:=D.w;have z:=B4 (n:=(E.getD id.toNat dE).w) J J;have F:atB.size=1:=rfl;have U:spB.size=1:=rfl
   repeat apply jL
   refine⟨[],_,Fh (E.getD id.toNat dE).w J J,?_⟩;refine⟨by show atB.size+(zM (E.getD id.toNat dE).w).size<=_;omega,?_⟩;refine⟨by show(atB++zM (E.getD id.toNat dE).w).size+spB.size<=_;rw[cI];omega,?_⟩;refine⟨by show(CX p E (E.getD id.toNat dE) id).size+(atB++zM (E.getD id.toNat dE).w++spB).size<=_;rw[cI,cI];omega,?_⟩;have er:CX p E (E.getD id.toNat dE) id++(atB++zM (E.getD id.toNat dE).w++spB)=KS p E (E.getD id.toNat dE) id:=by unfold KS;rw[aE h]
   exact qD
  ·have er:CX p E (E.getD id.toNat dE) id=KS p E (E.getD id.toNat dE) id:=by unfold KS;rw[aB jR]
   exact qD
 have G:=Lp p bad fs fs.length (aG _);rw[eJ] at G;have L:=pw (but:=u9 p bad fs) C fs.length (aG _);rw[eJ] at L
 repeat apply jL
 refine⟨by show(KS p E (E.getD id.toNat dE) id).size+x.size<=_;omega,?_⟩
 repeat apply jL
 refine⟨_,_,Ay p E bad fs M J,?_⟩
 repeat apply jL
 refine⟨[],_,Bb fs (u9 p bad fs) J J C,?_⟩;refine⟨by show(KS p E (E.getD id.toNat dE) id++x).size+(V4 (u9 p bad fs) fs).size<=_;rw[cI];omega,?_⟩;rw[N];exact RetIs.v rfl rfl rfl
def uN (id a:Int) (l:List ByteArray) (k:Nat):List Itm:=(List.range k).map λi:Nat=>⟨id,i,l.length,a, -1,0, -1, -1,0,l.getD i gB,none⟩
theorem wG (id a:Int) (l:List ByteArray) (k:Nat):(uN id a l k).length=k:=by simp[uN]
theorem aA1 (l:List Itm) (x:Itm): ∀k,k<(l++[x]).length->iJ l.length (H2 l) (kJ 11 x.av) k=H2 (l++[x]) k:=λq a=>by
 rw[bD,cD] at a;unfold iJ H2;rw[zv];by_cases hq2:q<l.length
 ·rw[aE hq2,aE hq2]
 ·exact mJ
theorem Mf (id a:Int) (l:List ByteArray) (k:Nat):uN id a l (k+1)=uN id a l k++[⟨id,k,l.length,a, -1,0, -1, -1,0,l.getD k gB,none⟩]:=by unfold uN;rw[iN,fJ];rfl
theorem jq (id a:Int) (l:List ByteArray) (k q:Nat):((uN id a l k).getD q F6).fl=none:=by
 by_cases h:q<(uN id a l k).length
 ·rw[xE h];simp[uN]
 ·rw[eR,eY J];rfl
theorem wh (id e:Int) (l:List ByteArray) (j:l.length<=1000):cM 343 false [] [.I id,.I e,.rs 1 l.length (CS l)] (λ_:Unit=>True) (λ_=>[]) (λ_=>[.row 50 11 l.length (H2 (uN id e l l.length))]) (λ_=> .so 0):=by
 refine sE Tryz.func343 [.tmp 6] [] ?_
 repeat apply jL
 refine⟨[(7,50,11)],Nat,λk=>k<=l.length,λk=>[⟨12,[],.I k⟩,⟨7,[],.so 0⟩],λk=>[⟨0,[],.row 50 11 k (H2 (uN id e l k))⟩],λk=>l.length-k,
  np,?_⟩
 intro k f;have f:k<=l.length:=f;refine .inl ⟨λc=> ?_,λc=> ?_⟩
 ·have c:=pH c;have c:(k:Int)<l.length:=c;have g:(k:Int).toNat=k:=aQ k
  repeat apply jL
  refine⟨⟨J,J⟩,oJ J,?_⟩;refine⟨k+1,[(0,2)],J,jM,rfl,rfl,rfl,rfl,rfl,⟨nV,rfl⟩,⟨rfl,rfl,rfl,λq hq=> ?_⟩⟩;have:=aA1 (uN id e l k) ⟨id,k,l.length,e, -1,0, -1, -1,0,l.getD k gB,none⟩ q (by rw[bD,wG];exact hq);rw[wG,<-Mf] at this;rw[<-this,<-g];rfl
 ·have c:=iT c;have c:(l.length:Int)<=k:=c;obtain rfl:k=l.length:=J
  exact⟨(),[(0,0)],trivial,nj,rfl,λ_=>⟨rfl,λq _=>by unfold H2 Itm.av;rw[jq];rfl⟩⟩
structure PfW (p:Pf_q0):Prop where
 sz:2<=p.size/\p.size<2^62
 pt:1<=p.parts/\p.parts<=1000
theorem u4 (x:ByteArray) (sz mo:Int):0<(oT x sz mo).length:=by unfold oT;simp
theorem Wp (l:List Itm) (x:Itm) (c:0<l.length) (k:Nat):(if k=0 then x.av else H2 l k)=H2 (l.set 0 x) k:=by
 unfold H2;rw[eR,eR,tJ];by_cases a:k=0
 ·subst a;rw[aE rfl,aE rfl,aE c];rfl
 ·rw[aB a,aB (λe=>a e.symm)]
theorem aA2 (l:List Itm) (x:Itm) (h: ∀q,(l.getD q F6).fl=none) (hx:x.fl=none) (q:Nat):((l.set 0 x).getD q F6).fl=none:=by
 exact mC
theorem Mg {l:List Itm} (h: ∀q,(l.getD q F6).fl=none) (q:Nat):AV.freshs (H2 l q)=true:=by unfold H2 Itm.av;rw[h q];rfl
theorem Wq (x:ByteArray) (sz mo:Int): ∀f j:Nat,(j:Int)<=max (mo-1) 0->((xu x sz mo f j:Nat):Int)<=max (mo-1) 0
 |0,j,h=>by unfold xu;exact h
 |f+1,j,h=>by
  unfold xu;split
  ·rename_i a;unfold Av at a;rw[aW,aM,aM] at a;exact Wq x sz mo f (j+1) J
  ·exact h
theorem B7 (x:ByteArray) (sz mo:Int) (a:1<=mo):((oT x sz mo).length:Int)<=mo:=by have:=Wq x sz mo mo.toNat 0 J;unfold oT;rw[bD,f9,cD];omega
def Mh (p:Pf_q0) (id:Int) (x:ByteArray):List Itm:=uN id 0 (oT x p.size p.parts) (oT x p.size p.parts).length
def SU (p:Pf_q0) (id:Int) (x:ByteArray) (on:Int):Itm:={(Mh p id x).getD 0 F6 with on:=on}
def Mi (p:Pf_q0) (id:Int) (x:ByteArray) (on:Int):List Itm:=(Mh p id x).set 0 (SU p id x on)
theorem BZ (p:Pf_q0) (id:Int) (x:ByteArray) (on:Int):(Mi p id x on).length=(oT x p.size p.parts).length:=by unfold Mi Mh;rw[iD,wG]
theorem Wr (p:Pf_q0) (id:Int) (x:ByteArray) (q:Nat):((Mh p id x).getD q F6).fl=none:=jq id 0 (oT x p.size p.parts) (oT x p.size p.parts).length q
theorem Mj (p:Pf_q0) (id:Int) (x:ByteArray) (on:Int) (q:Nat):((Mi p id x on).getD q F6).fl=none:=aA2 (Mh p id x) (SU p id x on) (Wr p id x) (Wr p id x 0) q
theorem CA (p:Pf_q0) (id:Int) (x:ByteArray) (on:Int) (k:Nat):(if k=0 then(SU p id x on).av else H2 (Mh p id x) k)=H2 (Mi p id x on) k:=Wp (Mh p id x) (SU p id x on) (by unfold Mh;rw[wG];exact u4 _ _ _) k
theorem pz (p:Pf_q0) (e:PfW p) (E:List Ev) (bad:List Int) (id:Int) (x:ByteArray) (l:x.size<9223372036854775807) (on:Int):cM 334 false [] [.ag (Rv p E bad),.I id,.s x,.I on] (λy:List Itm=>y.length=(oT x p.size p.parts).length/\ ∀q,(y.getD q F6).fl=none) (λ_=>[]) (λy=>[.row 50 11 y.length (H2 y)]) (λ_=> .so 0):=by
 refine sE Tryz.func334 [.tmp 8] [] ?_;have j:=u4 x p.size p.parts;have w:=B7 x p.size p.parts e.pt.1;have t:=e.pt.2
 refine jb (Lo x l p.size p.parts e.sz.1 e.sz.2 e.pt.1 e.pt.2) ?_;refine aN (aN ?_);refine⟨false,[],rfl,Unit,_,_,_,_,wh id 0 (oT x p.size p.parts) J,λ_ _=> ?_⟩
 repeat apply jL
 have n:(uN id 0 (oT x p.size p.parts) (oT x p.size p.parts).length).length=(oT x p.size p.parts).length:=wG _ _ _ _;refine⟨⟨J,J⟩,j,?_⟩;have g:=BZ p id x on;refine⟨Mi p id x on,[(0,2)],⟨g,Mj p id x on⟩,⟨nU,⟨⟨rfl,rfl,trivial,⟨rfl,rfl,g.symm,λq z=> ?_⟩⟩,trivial⟩,rfl⟩,rfl,λ_=>⟨rfl,λq _=>Mg (Mj p id x on) q⟩⟩;have h:=CA p id x on q;by_cases f:q=0
 ·subst f;rw[aE rfl] at h;exact h
 ·rw[aB f] at h;refine B9 ?_ h;exact aB f
def Mk (p:Pf_q0) (E:List Ev) (id:Int):Int:=if(p.thr==2)=true then id else if(p.thr==1)=true then Aw E id else-1
theorem en (p:Pf_q0) (E:List Ev) (e:wO E) (bad:List Int) (id:Int):cC 333 [.ag (Rv p E bad),.I id] [] (.I (Mk p E id)):=by
 refine hZ Tryz.func333 [.tmp 4] [] ?_
 repeat apply jL
 refine⟨λh=> ?_,λh=> ?_⟩
 ·have h:(p.thr==2)=true:=h;refine RetIs.i ?_;unfold Mk;rw[aE h]
 have h:(p.thr==2)=false:=h
 repeat apply jL
 refine⟨λh2=> ?_,λh2=> ?_⟩
 ·have h2:(p.thr==1)=true:=h2
  refine jb (SC E id) ?_;refine RetIs.i ?_;unfold Mk;rw[aB jR,aE h2]
 ·have h2:(p.thr==1)=false:=h2;refine RetIs.i ?_;unfold Mk;rw[aB jR,aB jK]
theorem aA3 (l:List Itm) (x:Itm) (f:0<l.length) (g:Nat->List AV) (c:g 0=x.av) (e: ∀q,q≠0->g q=H2 l q):eN (.row 50 11 l.length (H2 (l.set 0 x))) (.row 50 11 l.length g):=by
 refine⟨rfl,rfl,rfl,λq h=> ?_⟩;rw[<-Wp l x f q];by_cases a:q=0
 ·subst a;rw[aE rfl];exact c
 ·rw[aB a];exact e q a
theorem ew (l:List Itm) (x:Itm) (e:0<l.length) (g:Nat->List AV) (a:g 0=x.av) (c: ∀q,q≠0->g q=H2 l q):eN (.row 50 11 (l.set 0 x).length (H2 (l.set 0 x))) (.row 50 11 l.length g):=by rw[iD];exact aA3 l x e g a c
def o6 (p:Pf_q0) (E:List Ev) (bad:List Int) (id:Int):Nat:=(oT (wg p E bad id (E.getD id.toNat dE).x (E.getD id.toNat dE).fs) p.size p.parts).length
theorem js (p:Pf_q0) (G:PfW p) (E:List Ev) (n:wO E) (bad:List Int) (F:bad.length<2^62) (id:Int) (A:0<=id) (C:id<E.length):cM 288 true [] [.ag (Rv p E bad),.I id] (λy:List Itm=>y.length=o6 p E bad id) (λ_=>[]) (λy=>[.row 50 11 y.length (H2 y)]) (λ_=> .so 0):=by
 refine sE Tryz.func288 [.tmp 4] [(2000005,[.frz 0 [0,1]])] ?_;have e:=n.at A C
 repeat apply jL
 refine⟨⟨J,J⟩,?_⟩;refine aN ⟨[],Int,λ_=>True,λv=>[⟨6,[],.I v⟩],λ_=>[],?_,λv _=> ?_⟩
 ·refine jb (dr p E bad (E.getD id.toNat dE).t id) ?_
  repeat apply jL
  refine⟨λh=> ?_,λh=> ?_⟩
  ·refine jb (en p E n bad (E.getD id.toNat dE).t) ?_;exact⟨Mk p E (E.getD id.toNat dE).t,[],trivial,rfl,rfl,rfl,rfl,rfl,nT,trivial⟩
  ·exact⟨-1,[],trivial,rfl,rfl,rfl,rfl,rfl,nT,trivial⟩
 have j:=Wo (p:=p) n (bad:=bad) (id:=id) A C e.x e.fs e.f
 refine jb (Me p E n bad F id A C (E.getD id.toNat dE).x e.x (E.getD id.toNat dE).fs e.fs e.f) ?_;refine aN (aN ?_);refine⟨false,[],rfl,(List Itm),_,_,_,_,pz p G E bad id (wg p E bad id (E.getD id.toNat dE).x (E.getD id.toNat dE).fs) J v,λy H=> ?_⟩;obtain⟨l,_⟩:=H;have K:0<o6 p E bad id:=u4 _ _ _;have l:y.length=o6 p E bad id:=l;refine aN ⟨[],List Itm,λz=>z.length=o6 p E bad id,λz=>[],λz=>[⟨2,[],.row 50 11 z.length (H2 z)⟩],?_,λz j=> ?_⟩
 ·refine jb (dr p E bad (E.getD id.toNat dE).q id) ?_
  repeat apply jL
  refine⟨[],_,λ_=>t9 p E bad 6 J J,?_⟩
  repeat apply jL
  refine⟨λh=> ?_,λh=> ?_⟩
  ·repeat apply jL
   refine⟨⟨J,J⟩,J,?_⟩;exact⟨y.set 0 {y.getD 0 F6 with q:=(E.getD id.toNat dE).q},[],by dsimp only;rw[iD];exact l,rfl,rfl,rfl,rfl,rfl,trivial,ew y _ J _ rfl (λq g=>aB g)⟩
  ·exact⟨y,[],l,rfl,rfl,rfl,rfl,rfl,trivial,eN.refl (.row 50 11 y.length (H2 y))⟩
 have j:z.length=o6 p E bad id:=j;refine aN ⟨[],List Itm,λz=>z.length=o6 p E bad id,λz=>[],λz=>[⟨2,[],.row 50 11 z.length (H2 z)⟩],?_,λu D=> ?_⟩
 ·repeat apply jL
  refine⟨[],_,t9 p E bad 7 J J,?_⟩
  repeat apply jL
  refine⟨λh=> ?_,λh=> ?_⟩
  ·repeat apply jL
   refine⟨⟨J,J⟩,J,?_⟩;exact⟨z.set 0 {z.getD 0 F6 with w:=(E.getD id.toNat dE).w},[],by dsimp only;rw[iD];exact j,rfl,rfl,rfl,rfl,rfl,trivial,ew z _ J _ rfl (λq g=>aB g)⟩
  ·exact⟨z,[],j,rfl,rfl,rfl,rfl,rfl,trivial,eN.refl (.row 50 11 z.length (H2 z))⟩
 have D:u.length=o6 p E bad id:=D;refine aN (eX ?_);refine⟨_,Az p E bad (E.getD id.toNat dE).fs F (by have:=e.fs;omega),?_⟩;refine⟨⟨J,J⟩,J,?_⟩;exact⟨u.set 0 {u.getD 0 F6 with fl:=some (u9 p bad (E.getD id.toNat dE).fs)},[(0,2)],by rw[iD];exact D,⟨nU,⟨⟨rfl,rfl,trivial,ew u _ J _ rfl (λq g=>aB g)⟩,trivial⟩,rfl⟩,rfl,λh=>jC⟩
def jt (l:List ByteArray) (n:Nat):List ByteArray:=(List.range n).map λk=>l.getD k gB
theorem wj (l:List ByteArray) (n:Nat):(jt l n).length=n:=by simp[jt]
theorem KX (l:List ByteArray) (n q:Nat) (a:q<n):NY (Nat.min l.length n) (CS l) (λ_=>[.s gB]) q=CS (jt l n) q:=by
 have e:CS (jt l n) q=[.s (l.getD q gB)]:=by unfold CS jt;rw[xE (show q<((List.range n).map λk=>l.getD k gB).length by simpa using a),iO,oF]
 rw[e];unfold NY;by_cases h:q<Nat.min l.length n
 ·rw[aE h];rfl
 ·rw[aB h];have:l.length<=q:=by have:=uT (n:=l.length) (m:=n);simp only[uT] at h;split at h<;>omega
  rw[eR,eY this];rfl
theorem SV (l:List Itm) (x:Itm) (k:Nat) (h: ∀q,(l.getD q F6).fl=none) (hx:x.fl=none) (q:Nat):((l.set k x).getD q F6).fl=none:=by
 exact mC
theorem SX (l:List Itm) (x:Itm) (k:Nat) (h:k<l.length) (g:Nat->List AV) (c:g k=x.av) (f: ∀q,q≠k->g q=H2 l q):eN (.row 50 11 (l.set k x).length (H2 (l.set k x))) (.row 50 11 l.length g):=by
 refine⟨rfl,rfl,jS,λq j=> ?_⟩;unfold H2;rw[eR,tJ];by_cases a:q=k
 ·subst a;rw[aE rfl,aE h];exact c
 ·rw[aB (λe=>a e.symm),f q a];unfold H2;rw[eR]
theorem Fv (p:Pf_q0) (n:PfW p) (E:List Ev) (F:wO E) (bad:List Int) (H:bad.length<2^62) (id f:Int) (P:0<=id) (Q:id<E.length) (K:0<=(E.getD id.toNat dE).t) (L:(E.getD id.toNat dE).t<E.length) (l:List ByteArray) (R:l.length<2^62):cM 340 false [] [.ag (Rv p E bad),.I id,.I f,.rs 1 l.length (CS l)] (λy:List Itm=>y.length=o6 p E bad (E.getD id.toNat dE).t/\ ∀q,(y.getD q F6).fl=none) (λ_=>[]) (λy=>[.row 50 11 y.length (H2 y)]) (λ_=> .so 0):=by
 refine sE Tryz.func340 [.tmp 8] [(5,[.ex 2])] ?_;have G:=B7 (wg p E bad (E.getD id.toNat dE).t (E.getD (E.getD id.toNat dE).t.toNat dE).x (E.getD (E.getD id.toNat dE).t.toNat dE).fs) p.size p.parts n.pt.1;have N:(o6 p E bad (E.getD id.toNat dE).t:Int)<=p.parts:=G;have O:=n.pt.2
 repeat apply jL
 refine⟨⟨J,J⟩,?_⟩;refine aN (aN ?_);refine⟨true,[],rfl,(List Itm),_,_,_,_,js p n E F bad H (E.getD id.toNat dE).t K L,λz w=> ?_⟩;have w:z.length=o6 p E bad (E.getD id.toNat dE).t:=w;have M:0<o6 p E bad (E.getD id.toNat dE).t:=u4 _ _ _
 repeat apply jL
 refine⟨⟨rfl,J,by show 16*((z.length:Int)).toNat<=_;omega⟩,?_⟩
 repeat apply jL
 refine kZ (.row 9 1 (jt l z.length).length (CS (jt l z.length))) ?_;refine hY ?hx ?_
 case hx=>refine⟨rfl,rfl,by rw[wj];rfl,λq hq=> ?_⟩;rw[wj] at hq;exact KX l z.length q hq
 have A:=wj l z.length;refine aN (aN ?_);refine⟨false,[],rfl,Unit,_,_,_,_,wh id f (jt l z.length) J,λ_ _=> ?_⟩
 repeat apply jL
 refine⟨[],Nat×List Itm,λx=>x.1<=z.length/\x.2.length=z.length/\ ∀q,(x.2.getD q F6).fl=none,λx=>[⟨35,[],.I x.1⟩],λx=>[⟨3,[],.row 50 11 x.2.length (H2 x.2)⟩],λx=>z.length-x.1,
  ⟨(0,uN id f (jt l z.length) (jt l z.length).length),[],⟨bI _,by dsimp only;rw[wG,A],λq=>jq id f (jt l z.length) (jt l z.length).length q⟩,rfl,rfl,rfl,rfl,rfl,nT,⟨rfl,rfl,by dsimp only;rw[wG],λq hq=>rfl⟩⟩,?_⟩
 rintro⟨k,y⟩ ⟨D,j,c⟩;have D:k<=z.length:=D;have j:y.length=z.length:=j;have c: ∀q,(y.getD q F6).fl=none:=c;refine .inl ⟨λe=> ?_,λe=> ?_⟩
 ·have e:=pH e;have e:(k:Int)<(jt l z.length).length:=e;rw[A] at e;have g:(k:Int).toNat=k:=aQ k;have C:(k:Int).toNat<y.length:=J
  repeat apply jL
  refine⟨⟨J,jM⟩,C,?_⟩;refine⟨⟨J,jM⟩,C,?_⟩;exact⟨(k+1,y.set k {y.getD k F6 with on:=(E.getD id.toNat dE).t,onp:=k}),[],⟨jM,by dsimp only;rw[iD];exact j,SV y {y.getD k F6 with on:=(E.getD id.toNat dE).t,onp:=k} k c (c k)⟩,jM,rfl,rfl,rfl,rfl,rfl,nV,SX y {y.getD k F6 with on:=(E.getD id.toNat dE).t,onp:=k} k J _ (by dsimp only;rw[aE g.symm,aE g.symm];rfl) (λq hq=>by dsimp only;rw[aB (by rw[g];exact hq),aB (by rw[g];exact hq)])⟩
 ·have e:=iT e;exact⟨y,[(0,3)],⟨j.trans w,c⟩,nj,rfl,λ_=>⟨rfl,λq _=>Mg c q⟩⟩
def wyR (p:Pf_q0):Int:=((cp p).getD 3 (0,0)).1
def rmT:ByteArray:=⟨#[97,32,109,101,115,115,97,103,101,32,119,97,115,32,100,101,108,101,116,101,100]⟩
def aGa:ByteArray:=⟨#[40,100,101,108,101,116,101,100,41]⟩
def NC (p:Pf_q0) (E:List Ev) (bad:List Int) (id:Int):Nat:=if(wyR p==0)=true then o6 p E bad (E.getD id.toNat dE).t else if(wyR p==2)=true then o6 p E bad (E.getD id.toNat dE).t else(oT rmT p.size p.parts).length
theorem CB (p:Pf_q0) (l:PfW p) (E:List Ev) (j:wO E) (bad:List Int) (n:bad.length<2^62) (id:Int) (g:0<=id) (h1:id<E.length) (w:0<=(E.getD id.toNat dE).t) (x:(E.getD id.toNat dE).t<E.length):cM 291 true [] [.ag (Rv p E bad),.I id] (λy:List Itm=>y.length=NC p E bad id) (λ_=>[]) (λy=>[.row 50 11 y.length (H2 y)]) (λ_=> .so 0):=by
 refine sE Tryz.func291 [.tmp 4] [(2000006,[.frz 0 [0]])] ?_
 repeat apply jL
 refine⟨⟨jD,jD⟩,?_⟩
 repeat apply jL
 refine⟨λh=> ?_,λh=> ?_⟩
 ·have h:(wyR p==0)=true:=h;have e:NC p E bad id=o6 p E bad (E.getD id.toNat dE).t:=by unfold NC;rw[aE h]
  rw[e];refine aN (aN ?_);refine⟨false,[],rfl,List Itm,_,_,_,_,tC.of_eq ?h1 (Fv p l E j bad n id 2 g h1 w x [] jD),λy f=> ?_⟩
  case h1=>exact⟨eV.refl _,eV.refl _,eV.refl _,nT⟩
  exact⟨y,[(0,1)],f.1,nj,rfl,λh=>jC⟩
 have h:(wyR p==0)=false:=h
 repeat apply jL
 refine jB (wyR p==2) (λh2=> ?_) λh2=> ?_
 ·have e:NC p E bad id=o6 p E bad (E.getD id.toNat dE).t:=by unfold NC;rw[aB jR,aE h2]
  rw[e];refine aN (aN ?_);refine⟨false,[],rfl,List Itm,_,_,_,_,tC.of_eq ?h1 (Fv p l E j bad n id 1 g h1 w x [aGa] jD),λy f=> ?_⟩
  case h1=>
   refine⟨eV.refl _,eV.refl _,eV.refl _,⟨rfl,rfl,λq hq=> ?_⟩⟩;have hq:q<1:=hq;obtain rfl:q=0:=J
   rfl
  exact⟨y,[(0,2)],f.1,nj,rfl,λh=>jC⟩
 have e:NC p E bad id=(oT rmT p.size p.parts).length:=by unfold NC;rw[aB jR,aB jK]
 rw[e];refine hY ⟨g,h1⟩ ?_
 refine jb (en p E j bad (E.getD id.toNat dE).t) ?_;refine aN (aN ?_);refine⟨false,[],rfl,(List Itm),_,_,_,_,pz p l E bad id rmT jD (Mk p E (E.getD id.toNat dE).t),λy f=> ?_⟩;exact⟨y,[(0,1)],f.1,nj,rfl,λh=>jC⟩
def VN:ByteArray:=⟨#[114,101,97,99,116,105,111,110,32]⟩
def bkB:ByteArray:=⟨#[32,116,97,107,101,110,32,98,97,99,107]⟩
def ND (e:Ev):ByteArray:=if(e.k==4)=true then VN++zM e.n++bkB else VN++zM e.n
def KY (e:Ev):Int:=if(e.k==4)=true then 4 else 3
def VO (p:Pf_q0) (E:List Ev) (id:Int):Nat:=if(!L8 p 4)=true then(oT (ND (E.getD id.toNat dE)) p.size p.parts).length else 1
theorem aA4 {e:Ev} (h:EvW e):(ND e).size<=100:=by
 have a:=h.n;have c:=B4 (n:=e.n) J J;have f:VN.size=9:=rfl;have g:bkB.size=11:=rfl;unfold ND;split
 ·rw[cI,cI];omega
 ·rw[cI];omega
theorem KZ (p:Pf_q0) (z:PfW p) (E:List Ev) (j:wO E) (bad:List Int) (id:Int) (w:0<=id) (h1:id<E.length):cM 292 true [] [.ag (Rv p E bad),.I id] (λy:List Itm=>y.length=VO p E id) (λ_=>[]) (λy=>[.row 50 11 y.length (H2 y)]) (λ_=> .so 0):=by
 refine sE Tryz.func292 [.tmp 4] [(2000006,[.frz 0 [0,1]]),(2000008,[.frz 0 [0,1]])] ?_;have l:=j.at w h1;have D:=l.n;have G:=B4 (n:=(E.getD id.toNat dE).n) J J;have F:=aA4 l;have H:VN.size=9:=rfl;have K:bkB.size=11:=rfl
 repeat apply jL
 refine⟨⟨J,J⟩,?_⟩
 repeat apply jL
 refine⟨[],_,Fh (E.getD id.toNat dE).n J J,?_⟩;refine⟨by show VN.size+(zM (E.getD id.toNat dE).n).size<=_;omega,?_⟩;refine aN ⟨[],Unit,λ_=>True,λ_=>[⟨6,[],.I (KY (E.getD id.toNat dE))⟩,⟨7,[],.s (ND (E.getD id.toNat dE))⟩],λ_=>[],?_,λ_ _=> ?_⟩
 ·repeat apply jL
  refine jB ((E.getD id.toNat dE).k==4) (λh=> ?_) λh=> ?_
  ·have f:VN++zM (E.getD id.toNat dE).n++bkB=ND (E.getD id.toNat dE):=by unfold ND;rw[aE h]
   have g:4=KY (E.getD id.toNat dE):=by unfold KY;rw[aE h]
   repeat apply jL
   refine⟨by show(VN++zM (E.getD id.toNat dE).n).size+bkB.size<=_;rw[cI];omega,?_⟩;exact⟨(),[],trivial,rfl,rfl,rfl,rfl,rfl,⟨⟨rfl,g⟩,fW AV.s f⟩,trivial⟩
  ·have f:VN++zM (E.getD id.toNat dE).n=ND (E.getD id.toNat dE):=by unfold ND;rw[aB jR]
   have g:3=KY (E.getD id.toNat dE):=by unfold KY;rw[aB jR]
   exact⟨(),[],trivial,rfl,rfl,rfl,rfl,rfl,⟨⟨rfl,g⟩,fW AV.s f⟩,trivial⟩
 repeat apply jL
 refine⟨[],_,t9 p E bad 4 J J,?_⟩
 repeat apply jL
 refine jB (!L8 p 4) (λh=> ?_) λh=> ?_
 ·have e:VO p E id=(oT (ND (E.getD id.toNat dE)) p.size p.parts).length:=by unfold VO;rw[aE h]
  rw[e]
  refine jb (en p E j bad (E.getD id.toNat dE).t) ?_;refine aN (aN ?_);refine⟨false,[],rfl,(List Itm),_,_,_,_,pz p z E bad id (ND (E.getD id.toNat dE)) J (Mk p E (E.getD id.toNat dE).t),λy C=> ?_⟩;exact⟨y,[(0,2)],C.1,nj,rfl,λh=>jC⟩
 have e:VO p E id=1:=by unfold VO;rw[aB jR]
 rw[e];refine aN (aN ?_);refine⟨false,[],rfl,Unit,_,_,_,_,tC.of_eq ?h1 (wh id (KY (E.getD id.toNat dE)) [gB] jD),λ_ _=> ?_⟩
 case h1=>
  refine⟨eV.refl _,eV.refl _,⟨rfl,rfl,λq hq=> ?_⟩⟩;have hq:q<1:=hq;obtain rfl:q=0:=J
  rfl
 refine hY ⟨jD,jD⟩ (hY jD ?_);refine hY ⟨jD,jD⟩ (hY jD ?_);have x:(uN id (KY (E.getD id.toNat dE)) [gB] 1).length=1:=wG _ _ _ _;exact⟨(uN id (KY (E.getD id.toNat dE)) [gB] 1).set 0 {(uN id (KY (E.getD id.toNat dE)) [gB] 1).getD 0 F6 with on:=(E.getD id.toNat dE).t,n:=(E.getD id.toNat dE).n},[(0,3)],by rw[iD];exact x,⟨nU,⟨⟨rfl,rfl,trivial,ew (uN id (KY (E.getD id.toNat dE)) [gB] 1) {(uN id (KY (E.getD id.toNat dE)) [gB] 1).getD 0 F6 with on:=(E.getD id.toNat dE).t,n:=(E.getD id.toNat dE).n} J _ rfl (λq hq=>(aB hq).trans (aB hq))⟩,trivial⟩,rfl⟩,rfl,λh=>jC⟩
def edB:ByteArray:=⟨#[101,100,105,116,58,32]⟩
def edT (E:List Ev) (e:Ev):ByteArray:=edB++zB (E.getD e.t.toNat dE).x 20++ls++e.x++V4 [] e.fs
def VP (p:Pf_q0) (E:List Ev) (bad:List Int) (id:Int):Nat:=if(!L8 p 2)=true then(oT (edT E (E.getD id.toNat dE)) p.size p.parts).length else o6 p E bad (E.getD id.toNat dE).t
theorem SY (p:Pf_q0) (l:PfW p) (E:List Ev) (j:wO E) (bad:List Int) (C:bad.length<2^62) (id:Int) (G:0<=id) (h1:id<E.length) (n:0<=(E.getD id.toNat dE).t) (w:(E.getD id.toNat dE).t<E.length):cM 290 true [] [.ag (Rv p E bad),.I id] (λy:List Itm=>y.length=VP p E bad id) (λ_=>[]) (λy=>[.row 50 11 y.length (H2 y)]) (λ_=> .so 0):=by
 refine sE Tryz.func290 [.tmp 4] [(2000003,[.frz 0 [0,1]]),(2000005,[.frz 0 [0,1]])] ?_;have g:=j.at G h1;have K:=j.at n w;have Y:=g.x;have U:=L9 (E.getD (E.getD id.toNat dE).t.toNat dE).x 20;have W:=K.x;have Q:=g.fs;have H:=pw (but:=[]) g.f (E.getD id.toNat dE).fs.length (aG _);rw[eJ] at H;have q1:edB.size=6:=rfl;have q2:ls.size=1:=rfl;have R:=l.pt
 repeat apply jL
 refine⟨⟨J,J⟩,?_⟩
 repeat apply jL
 refine⟨[],_,t9 p E bad 2 J J,?_⟩
 repeat apply jL
 refine jB (!L8 p 2) (λh=> ?_) λh=> ?_
 ·have e:VP p E bad id=(oT (edT E (E.getD id.toNat dE)) p.size p.parts).length:=by unfold VP;rw[aE h]
  rw[e];have P:(edT E (E.getD id.toNat dE)).size<=9000:=by unfold edT;rw[cI,cI,cI,cI];omega
  refine jb (vu p E j bad (E.getD id.toNat dE).t n w) ?_;refine hY (by show edB.size+(zB (E.getD (E.getD id.toNat dE).t.toNat dE).x 20).size<=_;omega) ?_;refine hY (by show(edB++zB (E.getD (E.getD id.toNat dE).t.toNat dE).x 20).size+ls.size<=_;rw[cI];omega) ?_;refine hY (by show(edB++zB (E.getD (E.getD id.toNat dE).t.toNat dE).x 20++ls).size+(E.getD id.toNat dE).x.size<=_;rw[cI,cI];omega) ?_
  repeat apply jL
  refine⟨[],_,j8.of_eq (args:=[.rs 1 (E.getD id.toNat dE).fs.length (rI (E.getD id.toNat dE).fs),.rs 1 ([]:List Int).length (rI [])]) ⟨eV.refl _,nT⟩ (Bb (E.getD id.toNat dE).fs [] J jD g.f),?_⟩;refine hY (by show(edB++zB (E.getD (E.getD id.toNat dE).t.toNat dE).x 20++ls++(E.getD id.toNat dE).x).size+(V4 [] (E.getD id.toNat dE).fs).size<=_;rw[cI,cI,cI];omega) ?_
  refine jb (en p E j bad (E.getD id.toNat dE).t) ?_;refine aN (aN ?_);refine⟨false,[],rfl,(List Itm),_,_,_,_,pz p l E bad id (edT E (E.getD id.toNat dE)) J (Mk p E (E.getD id.toNat dE).t),λy M=> ?_⟩;exact⟨y,[(0,2)],M.1,nj,rfl,λh=>jC⟩
 have e:VP p E bad id=o6 p E bad (E.getD id.toNat dE).t:=by unfold VP;rw[aB jR]
 rw[e];have hz:=Wo (p:=p) j (bad:=bad) n w g.x g.fs g.f;have L:=B7 (wg p E bad (E.getD id.toNat dE).t (E.getD (E.getD id.toNat dE).t.toNat dE).x (E.getD (E.getD id.toNat dE).t.toNat dE).fs) p.size p.parts l.pt.1;have O:(o6 p E bad (E.getD id.toNat dE).t:Int)<=p.parts:=L;have N:0<o6 p E bad (E.getD id.toNat dE).t:=u4 _ _ _
 refine jb (Me p E j bad C (E.getD id.toNat dE).t n w (E.getD id.toNat dE).x g.x (E.getD id.toNat dE).fs g.fs g.f) ?_;refine aN (aN ?_);refine⟨true,[],rfl,(List Itm),_,_,_,_,js p l E j bad C (E.getD id.toNat dE).t n w,λz F=> ?_⟩;have F:z.length=o6 p E bad (E.getD id.toNat dE).t:=F
 repeat apply jL
 refine⟨_,_,Lo (wg p E bad (E.getD id.toNat dE).t (E.getD id.toNat dE).x (E.getD id.toNat dE).fs) J p.size z.length l.sz.1 l.sz.2 J J,?_⟩;have S:=B7 (wg p E bad (E.getD id.toNat dE).t (E.getD id.toNat dE).x (E.getD id.toNat dE).fs) p.size z.length J;refine aN (aN ?_);refine⟨false,[],rfl,(List Itm),_,_,_,_,Fv p l E j bad C id 1 G h1 n w (oT (wg p E bad (E.getD id.toNat dE).t (E.getD id.toNat dE).x (E.getD id.toNat dE).fs) p.size z.length) J,λu D=> ?_⟩;have D:u.length=o6 p E bad (E.getD id.toNat dE).t:=D.1;refine aN (eX ?_);refine⟨_,Az p E bad (E.getD id.toNat dE).fs C J,?_⟩;refine⟨⟨J,J⟩,J,?_⟩;exact⟨u.set 0 {u.getD 0 F6 with fl:=some (u9 p bad (E.getD id.toNat dE).fs)},[(0,4)],by rw[iD];exact D,⟨nU,⟨⟨rfl,rfl,trivial,ew u _ J _ rfl (λq hq=>aB hq)⟩,trivial⟩,rfl⟩,rfl,λh=>jC⟩
theorem Ws {E:List Ev} {e:Ev} {id:Int} (h:vt E e id=true):mB E e.t id=true:=by
 unfold vt at h;split at h
 ·cases h
 ·rename_i a;have:=(bT.1 (show ZO E e id=false by simpa using a)).1;simpa using this
def qa (p:Pf_q0) (E:List Ev) (bad:List Int) (id:Int):Nat:=
 if((E.getD id.toNat dE).k==0)=true then o6 p E bad id else
 if(!vt E (E.getD id.toNat dE) id)=true then 0 else
 if((E.getD id.toNat dE).k==1)=true then VP p E bad id else
 if((E.getD id.toNat dE).k==2)=true then NC p E bad id else
 if((E.getD id.toNat dE).k==3||(E.getD id.toNat dE).k==4)=true then VO p E id else 0
theorem SZ (p:Pf_q0) (w:PfW p) (E:List Ev) (n:wO E) (bad:List Int) (x:bad.length<2^62) (id:Int) (j:0<=id) (h1:id<E.length):cM 236 true [] [.ag (Rv p E bad),.I id] (λy:List Itm=>y.length=qa p E bad id) (λ_=>[]) (λy=>[.row 50 11 y.length (H2 y)]) (λ_=> .so 0):=by
 refine sE Tryz.func236 [.tmp 4] [(999999,[.nl 4 50 11])] ?_
 repeat apply jL
 refine⟨⟨J,J⟩,?_⟩
 repeat apply jL
 refine⟨λf=> ?_,λf=> ?_⟩
 ·have f:((E.getD id.toNat dE).k==0)=true:=f;have e:qa p E bad id=o6 p E bad id:=by unfold qa;rw[aE f]
  rw[e];refine aN (aN ?_);refine⟨true,[],rfl,(List Itm),_,_,_,_,js p w E n bad x id j h1,λy g=> ?_⟩;exact⟨y,[(0,1)],g,nj,rfl,λh=>jC⟩
 have f:((E.getD id.toNat dE).k==0)=false:=f
 refine jb (ZP p E bad id j h1) ?_
 repeat apply jL
 refine jB (!vt E (E.getD id.toNat dE) id) (λl=> ?_) λl=> ?_
 ·have e:qa p E bad id=0:=by unfold qa;rw[aB (by rw[f];decide),aE l]
  rw[e];exact⟨[],[(0,1)],rfl,nw,rfl,λh=>jC⟩
 have D:vt E (E.getD id.toNat dE) id=true:=by simpa using l
 have z:=lu (Ws D);have C:(E.getD id.toNat dE).t<E.length:=z.2.2.1
 repeat apply jL
 refine⟨λk2=> ?_,λk2=> ?_⟩
 ·have k2:((E.getD id.toNat dE).k==1)=true:=k2;have e:qa p E bad id=VP p E bad id:=by unfold qa;rw[aB (by rw[f];decide),aB (by rw[l];decide),aE k2]
  rw[e];refine aN (aN ?_);refine⟨true,[],rfl,(List Itm),_,_,_,_,SY p w E n bad x id j h1 z.1 C,λy g=> ?_⟩;exact⟨y,[(0,1)],g,nj,rfl,λh=>jC⟩
 have k2:((E.getD id.toNat dE).k==1)=false:=k2
 repeat apply jL
 refine⟨λk3=> ?_,λk3=> ?_⟩
 ·have k3:((E.getD id.toNat dE).k==2)=true:=k3;have e:qa p E bad id=NC p E bad id:=by unfold qa;rw[aB (by rw[f];decide),aB (by rw[l];decide),aB (by rw[k2];decide),aE k3]
  rw[e];refine aN (aN ?_);refine⟨true,[],rfl,(List Itm),_,_,_,_,CB p w E n bad x id j h1 z.1 C,λy g=> ?_⟩;exact⟨y,[(0,1)],g,nj,rfl,λh=>jC⟩
 have k3:((E.getD id.toNat dE).k==2)=false:=k3
 repeat apply jL
 refine jB ((E.getD id.toNat dE).k==3||(E.getD id.toNat dE).k==4) (λF=> ?_) λF=> ?_
 ·have e:qa p E bad id=VO p E id:=by unfold qa;rw[aB (by rw[f];decide),aB (by rw[l];decide),aB (by rw[k2];decide),aB (by rw[k3];decide),aE F]
  rw[e];refine aN (aN ?_);refine⟨true,[],rfl,(List Itm),_,_,_,_,KZ p w E n bad id j h1,λy g=> ?_⟩;exact⟨y,[(0,1)],g,nj,rfl,λh=>jC⟩
 have e:qa p E bad id=0:=by unfold qa;rw[aB (by rw[f];decide),aB (by rw[l];decide),aB (by rw[k2];decide),aB (by rw[k3];decide),aB (by rw[F];decide)]
 rw[e];exact⟨[],[(0,1)],rfl,nw,rfl,λh=>jC⟩
theorem LA (l:List (Int×Int)) (n:Nat) (q:n<2^62):cC 235 [.rs 2 n (VH l),.rs 2 n (VH l)] [] (.b true):=by
 refine hZ Tryz.func235 [.tmp 4] [] ?_
 repeat apply jL
 refine⟨λh=> ?_,λh=> ?_⟩
 ·have h:((n:Int) !=n)=true:=h;simp at h
 repeat apply jL
 refine⟨[],Nat,λk=>k<=n,λk=>[⟨13,[],.I k⟩],λ_=>[],λk=>n-k,
  qC,?_⟩
 intro k f;have f:k<=n:=f;refine .inl ⟨λc=> ?_,λc=> ?_⟩
 ·have c:=pH c;have c:(k:Int)<n:=c
  repeat apply jL
  refine⟨⟨J,J⟩,⟨J,J⟩,?_⟩
  repeat apply jL
  refine⟨λj=> ?_,λj=> ?_⟩
  ·exfalso;have g:vS [AV.I (l.getD (k:Int).toNat (0,0)).1,AV.I (l.getD (k:Int).toNat (0,0)).2] [AV.I (l.getD (k:Int).toNat (0,0)).1,AV.I (l.getD (k:Int).toNat (0,0)).2]=true:=by simp[vS,Gk]
   have e:(!vS [AV.I (l.getD (k:Int).toNat (0,0)).1,AV.I (l.getD (k:Int).toNat (0,0)).2] [AV.I (l.getD (k:Int).toNat (0,0)).1,AV.I (l.getD (k:Int).toNat (0,0)).2])=true:=j;rw[g] at e;cases e
  ·exact qW
 ·exact RetIs.b rfl
theorem Ml (p:Pf_q0) (t:PfW p) (n:p.fit) (e:p2 p=0) (E:List Ev) (j:wO E) (bad:List Int) (l:bad.length<2^62) (id:Int) (f:0<=id) (g:id<E.length):cM 136 true [] [p.ar,.rs 2 9 (VH (cp p)),.rs 12 E.length (rE E),.rs 1 bad.length (rI bad),.I id] (λy:List Itm=>y.length=qa p E bad id) (λ_=>[]) (λy=>[.row 50 11 y.length (H2 y)]) (λ_=> .tup [.so 0,.I 0]):=by
 refine sE Tryz.func136 [.tmp 10,.tmp 11] [] ?_;refine aN (eX ?_);refine⟨_,lq p n e,?_⟩
 repeat apply jL
 refine⟨[],_,λ_=>LA (cp p) 9 jD,?_⟩
 repeat apply jL
 refine⟨λh=> ?_,λh=> ?_⟩
 ·cases h
 repeat apply jL
 refine⟨λc=> ?_,λc=> ?_⟩
 ·have c:(decide (id<0)||decide (id>=(E.length:Int)))=true:=c;simp at c;omega
 refine aN (aN ?_);refine⟨true,[],rfl,(List Itm),_,_,_,_,SZ p t E j bad l id f g,λy w=> ?_⟩;exact⟨y,[(0,1)],w,nj,rfl,λh=>jC⟩
theorem TA (p:Pf_q0) (k:PfW p) (j:p.fit) (c:p2 p=0) (E:List Ev) (g:wO E) (bad:List Int) (h:bad.length<2^62) (id:Int) (e:0<=id) (f:id<E.length):cC 265 [p.ar,.rs 2 9 (VH (cp p)),.rs 12 E.length (rE E),.rs 1 bad.length (rI bad),.I id] [] (.I (qa p E bad id)):=by refine hZ Tryz.func265 [.tmp 10] [] ?_;refine aN (aN ?_);refine⟨true,[],rfl,(List Itm),_,_,_,_,Ml p k j c E g bad h id e f,λy a=> ?_⟩;have a:y.length=qa p E bad id:=a;exact RetIs.i (by rw[a])
theorem Sp (s:Stp0) (P:List Pf_q0) (c:P.length<2^62) (st:Sta_q0) (o:AV) (n:Int) (a:wO st.ev):cA 137 [.rp (gV s P st o),.I n] (.rs 12 st.ev.length (rE (O4 P st.ev n st.ev.length))):=
 ((BL s P c st o n a).frz (r':=λ_=> .rs 12 st.ev.length (rE (O4 P st.ev n st.ev.length))) (λ_ _=>by constructor<;>first|exact rfl|exact λk e=>rfl|exact⟨rfl,λk e=>rfl⟩)).ctrA
theorem Wu {e:Ev} (h:EvW e):EvW (lZ e):=by
 unfold lZ;split
 ·exact⟨bI _,h.cs,bI _,λf a=>(by cases a),h.n,h.w⟩
 ·exact h
theorem VQ {P:List Pf_q0} {E:List Ev} (c:wO E) (n:Int):wO (O4 P E n E.length):=by
 refine⟨by rw[zC];exact c.1,λx f=> ?_⟩;unfold O4 at f;obtain⟨i,a,rfl⟩:=fL.1 f;have a:=fO.1 a;have e:=c.2 _ (vM (d:=dE) a);split
 ·exact Wu e
 ·exact e
def PsW (P:List Pf_q0):Prop:= ∀p∈P,PfW p/\p.fit/\p2 p=0
def aA5 (P:List Pf_q0) (st:Sta_q0) (n id:Int) (bad:List Int):Bool:=
 if(!vq P st.ev n id)=true then false else if qa (P.getD n.toNat wV) (O4 P st.ev n st.ev.length) bad id=0 then false else
 (st.ev.getD id.toNat dE).k==0||aHc st n (st.ev.getD id.toNat dE).t||st.q.any λw=>w.e==(st.ev.getD id.toNat dE).t&&w.n==n
theorem CC (e:Ev) (n:Int) (w:Wt):cC 266 [.ag w.av,.rp e.av,.rp [.I n]] [] (.b (w.e==e.t&&w.n==n)):=by refine hZ Tryz.func266 [.tmp 4] [] ?_;exact RetIs.b rfl
theorem aA6 {P:List Pf_q0} {E:List Ev} {n id:Int} (a:0<=id) (c:id<E.length):((O4 P E n E.length).getD id.toNat dE).k=(E.getD id.toNat dE).k/\((O4 P E n E.length).getD id.toNat dE).t=(E.getD id.toNat dE).t:=by
 have e:(O4 P E n E.length).getD id.toNat dE=if(!vq P E n (id.toNat:Nat))=true then lZ (E.getD id.toNat dE) else E.getD id.toNat dE:=by unfold O4;rw[eR,pY,List.getElem?_range J];rfl
 rw[e];split
 ·unfold lZ;split<;>exact nT
 ·exact nT
theorem aA7 {P:List Pf_q0} {E:List Ev} {p:Pf_q0} {bad:List Int} {n id:Int} (g:0<=id) (j:id<E.length) (h:qa p (O4 P E n E.length) bad id≠0) (l:(E.getD id.toNat dE).k≠0):0<=(E.getD id.toNat dE).t/\(E.getD id.toNat dE).t<id:=by
 obtain⟨e,f⟩:=aA6 (P:=P) (n:=n) g j;unfold qa at h;rw[aB (by rw[e];simpa using l)] at h;by_cases a:(!vt (O4 P E n E.length) ((O4 P E n E.length).getD id.toNat dE) id)=true
 ·rw[aE a] at h;exact absurd rfl h
 ·have c:vt (O4 P E n E.length) ((O4 P E n E.length).getD id.toNat dE) id=true:=by
   rcases hb:vt (O4 P E n E.length) ((O4 P E n E.length).getD id.toNat dE) id with _|_
   ·exact absurd (by rw[hb];rfl) a
   ·rfl
  have:=lu (Ws c);rw[f] at this;exact⟨this.1,this.2.1⟩
theorem LB (s:Stp0) (P:List Pf_q0) (z:PsW P) (st:Sta_q0) (o:AV) (H:GOk s P st) (G:st.sent.length<2^62) (F:st.q.length<2^62) (n id:Int) (K:0<=n) (L:n<P.length) (x:0<=id) (h1:id<st.ev.length) (bad:List Int) (C:bad.length<2^62):cC 200 [.rp (gV s P st o),.I n,.I id,.rs 1 bad.length (rI bad)] [] (.b (aA5 P st n id bad)):=by
 refine hZ Tryz.func200 [.tmp 8] [(2000002,[.frz 0 [0]])] ?_
 repeat apply jL
 refine⟨⟨J,J⟩,?_⟩
 refine jb (JK P H.P st.ev H.E.1 n id) ?_
 repeat apply jL
 refine⟨λ_=>⟨J,J⟩,?_⟩
 repeat apply jL
 refine⟨λ_=>⟨J,J⟩,?_⟩;refine eX (aN ?_);refine⟨_,λ_=>Sp s P H.P st o n H.E,?_⟩;have g:=z _ (vM (d:=wV) (show n.toNat<P.length by omega));have j:=zC P st.ev n st.ev.length;have cM:=TA (P.getD n.toNat wV) g.1 g.2.1 g.2.2 (O4 P st.ev n st.ev.length) (VQ H.E n) bad C id x (by rw[j];exact h1);rw[j] at cM
 refine jc cM ?_
 repeat apply jL
 refine jB (!vq P st.ev n id||((qa (P.getD n.toNat wV) (O4 P st.ev n st.ev.length) bad id:Nat):Int)==0) (λh=> ?_) λh=> ?_
 ·refine RetIs.b ?_;unfold aA5;by_cases h2:(!vq P st.ev n id)=true
  ·rw[aE h2]
  ·rw[aB h2];have f:qa (P.getD n.toNat wV) (O4 P st.ev n st.ev.length) bad id=0:=by rw[eZ] at h;have:=h.resolve_left h2;simpa using this
   rw[aE f]
 rw[bT] at h;have f:qa (P.getD n.toNat wV) (O4 P st.ev n st.ev.length) bad id≠0:=by simpa using h.2
 have l:=aA7 (P:=P) (n:=n) x h1 f
 repeat apply jL
 refine⟨[],_,λD=>Fi s P st o n (st.ev.getD id.toNat dE).t (l (by simpa using D.1)).1 (by have:=(l (by simpa using D.1)).2;omega) G,?_⟩
 repeat apply jL
 refine⟨[],_,λ_=>bj st.q F 266 _ _ _ (λw _=>CC (st.ev.getD id.toNat dE) n w),?_⟩;refine RetIs.b ?_;unfold aA5;rw[aB (by rw[h.1];decide),aB f]
structure Sml (st:Sta_q0):Prop where
 ev:st.ev.length<=20
 q:st.q.length<=1000
 t:st.sent.length<=100
 ref:st.ref.length<=1000
 pairs:st.pairs.length<=1000
 pf:st.pf.length<=1000
 bad:st.bad.length<=1000
 hld:st.holds.length<=1000
 ord:st.ords.length<=20
 sld:st.sld.length<=1000
 debts:st.debts.length<=60000
structure EvR (E E':List Ev):Prop where
 c:Cok E'
 w:wO E'
 l:E'.length=E.length
 s: ∀k,(E'.getD k dE).st=(E.getD k dE).st
theorem EvR.refl {E:List Ev} (h:Cok E) (a:wO E):EvR E E:=⟨h,a,rfl,λ_=>rfl⟩
theorem LC (e:Ev):(lZ e).st=e.st:=by unfold lZ;split<;>rfl
theorem EvR.erase {E a:List Ev} (h:EvR E a) (id:Int):EvR E (rA a id).1:=by
 have g:(rA a id).1.length=a.length:=by
  unfold rA;split
  ·rfl
  ·exact oR _ _ _
 have n: ∀k,k<a.length->(rA a id).1.getD k dE=a.getD k dE\/(rA a id).1.getD k dE=lZ (a.getD k dE):=λk f=>by
  unfold rA;split
  ·exact .inl rfl
  ·dsimp only;rw[tF a id _ k f];split
   ·exact .inr rfl
   ·exact .inl rfl
 refine⟨Qr h.c id,⟨by rw[g];exact h.w.1,λe q=> ?_⟩,g.trans h.l,λk=> ?_⟩
 ·obtain⟨k,f,rfl⟩:=cU q;rw[g] at f;have j:=h.w.2 _ (vM (d:=dE) f);rw[<-xE (d:=dE)];rcases n k f with e|e
  ·rw[e];exact j
  ·rw[e];exact Wu j
 ·rw[<-h.s k];rcases kM k a.length with f|f
  ·rcases n k f with e|e
   ·rw[e]
   ·rw[e,LC]
  ·simp[List.getD,eY f,eY (show(rA a id).1.length<=k by omega)]
structure DelR (n:Nat) (st st':Sta_q0) (o:List Ot):Prop where
 ev:EvR st.ev st'.ev
 sl:st'.sld.length<=st.sld.length+n
 dl:st'.debts.length<=st.debts.length+n*121
 dm: ∀d∈st'.debts,d∈st.debts\/(0<=d.e/\d.e<st.ev.length)
 ok: ∀x∈o,x.k≠1
 ol:o.length<=n*122
 eq:st'={st with ev:=st'.ev,sld:=st'.sld,debts:=st'.debts}
theorem DelR.more {n:Nat} {st c:Sta_q0} {o:List Ot} (h:DelR n st c o) (D:st.ev.length<=20) (E:st.sent.length<=100) {id:Int} (A:0<=id) (C:id<st.ev.length) {y:List Ev×List Sld×List Dbt×List Ot} (a:ErsR c id o y):DelR (n+1) st (VM c y) y.2.2.2:=by
 have z:=h.ev.l;have q:c.sent=st.sent:=by rw[h.eq]
 obtain⟨L,g,w,k2⟩:=a.ot;have t:=a.dl;have F:=a.sl;have G:=h.sl;have H:=h.dl;have K:=h.ol;rw[q] at t k2;refine⟨?_,by show y.2.1.length<=_;omega,by show y.2.2.1.length<=_;omega,λd f=> ?_,λx j=> ?_,by rw[g,bD];omega,?_⟩
 ·show EvR st.ev y.1;rcases a.ev with e|e
  ·rw[e];exact h.ev
  ·rw[e];exact h.ev.erase id
 ·rcases a.dm d f with f|f
  ·exact h.dm d f
  ·exact .inr ⟨J,J⟩
 ·rw[g] at j;exact(cR.1 j).elim (h.ok x) (w x)
 ·unfold VM;rw[h.eq]
theorem DelR.le {n m:Nat} {st c:Sta_q0} {o:List Ot} (h:DelR n st c o) (a:n<=m):DelR m st c o:=
 ⟨h.ev,cO h.sl (uW a _),cO h.dl (uW (bU _ a) _),h.dm,h.ok,cO h.ol (bU _ a),h.eq⟩
theorem Mm (l:List Sa.Hld) (id a:Int):(Sa.Lift l id a).1.length=l.length:=by
 unfold Sa.Lift Sa.liftK
 repeat' split
 all_goals simp
theorem GOk.to {s:Stp0} {P:List Pf_q0} {st a:Sta_q0} (H:GOk s P st) (h:wO a.ev) (e:a.pf=st.pf):GOk s P a:=⟨H.P,h,H.gr,H.grw,H.cl,by rw[e];exact H.pf⟩
theorem LD (s:Stp0) (P:List Pf_q0) (st:Sta_q0) (H:GOk s P st) (j:Sml st) (R:Cok st.ev) (U: ∀x∈st.sent,(Lit.int .i64 x.n).wf=true) (Q: ∀o∈st.ords,0<=o.ev/\o.ev<st.ev.length) (i:Inp):cM 67 true [gX s P st 21,B6 st] [.p 0 0,.ag i.av] (λy:Sta_q0×List Ot×Int=>y.2.2=0->DelR 20 {st with holds:=(Sa.Lift st.holds i.n st.step).1} y.1 y.2.1) (λy=>[gE s P y.1 y.2.1,.dead]) (λ_=>[]) (λy=> .I y.2.2):=by
 refine sE Tryz.func67 [.tmp 4] [(1000003,[.frc 0 21 [1]]),(1000005,[.frc 0 19 [3]]),(6,[.nlc 0 23 52 14,.mvc 0 21]),(1000012,[.frc 0 21 [6],.frc 0 23 [5]])] ?_;have hh:=j.hld
 repeat apply jL
 refine⟨_,_,Sa.Lift_fn st.holds J i.n st.step,?_⟩
 repeat apply jL
 refine jB ((Sa.Lift st.holds i.n st.step).2 !=0) (λh=> ?_) λh=> ?_
 ·refine⟨(st,[],(Sa.Lift st.holds i.n st.step).2),[(0,0),(1,1)],λe=>absurd e jH,⟨nY,⟨⟨rfl,rfl,rfl,xS s P st⟩,nS,trivial⟩,rfl⟩,rfl,λh=>jC⟩
 have G:=j.ord
 repeat apply jL
 refine⟨_,_,Sa.Due_fn st.holds J st.ords J st.step,?_⟩;have N:(Sa.Lift st.holds i.n st.step).1.length=st.holds.length:=Mm _ _ _
 repeat apply jL
 refine⟨_,_,Sa.Due_fn (Sa.Lift st.holds i.n st.step).1 J st.ords J st.step,?_⟩;have O:=Sa.Due_len (Sa.Lift st.holds i.n st.step).1 st.ords st.step;have C: ∀x∈Sa.Due (Sa.Lift st.holds i.n st.step).1 st.ords st.step,0<=x/\x<st.ev.length:=λx z=>by unfold Sa.Due at z;rw[Sa.setI_mem_q0] at z;unfold Sa.dueL at z;obtain⟨o,G,rfl⟩:=fL.1 z;exact Q o (eC.1 G).1
 have a0:=Sa.Due_len st.holds st.ords st.step;generalize (Sa.Lift st.holds i.n st.step).1=L at N O C|-;refine⟨[],Nat×Sta_q0×List Ot,λx=>x.1<=(Sa.Due L st.ords st.step).length/\DelR x.1 {st with holds:=L} x.2.1 x.2.2,λx=>[⟨67,[],.I x.1⟩],λx=>[⟨0,[],gU s P x.2.1 6 5⟩,⟨6,[],B6 x.2.1⟩,⟨5,[],sA x.2.2⟩],λx=>(Sa.Due L st.ords st.step).length-x.1,
  ⟨(0,{st with holds:=L},[]),[],⟨bI _,⟨EvR.refl R H.E,aG _,aG _,λd S=> .inl S,λx z=>(by cases z),aG _,rfl⟩⟩,rfl,rfl,rfl,rfl,rfl,nT,⟨eN.refl (gU s P {st with holds:=L} 6 5),eN.refl (B6 st),nX⟩⟩,?_⟩
 rintro⟨k,f,o⟩ ⟨F,g⟩;have F:k<=(Sa.Due L st.ords st.step).length:=F;have g:DelR k {st with holds:=L} f o:=g;refine .inl ⟨λl=> ?_,λl=> ?_⟩
 ·have l:=pH l;have l:(k:Int)<(Sa.Due L st.ords st.step).length:=l;have ek:(k:Int).toNat=k:=aQ k
  repeat apply jL
  refine⟨⟨J,J⟩,J,?_⟩
  repeat apply jL
  refine⟨[],_,wN (Sa.Due st.holds st.ords st.step) J ((Sa.Due L st.ords st.step).getD (k:Int).toNat 0),?_⟩;have K:f.sent=st.sent:=by rw[g.eq]
  have Y:f.holds=L:=by rw[g.eq]
  have q3:f.ords=st.ords:=by rw[g.eq]
  have q4:f.pf=st.pf:=by rw[g.eq]
  have a7:k*121<=20*121:=bU _ J;have dx:k*122<=20*122:=bU _ J;have a1:f.sld.length<=st.sld.length+k:=g.sl;have a2:f.debts.length<=st.debts.length+k*121:=g.dl;have a3:=g.ol;have a4:=j.sld;have a5:=j.debts;have a6:=j.t
  repeat apply jL
  refine⟨λh2=> ?_,λh2=> ?_⟩
  ·have D:=C _ (vM (d:=0) (show(k:Int).toNat<(Sa.Due L st.ords st.step).length by omega));refine aN (aN ?_);refine⟨true,[0,6,5],rfl,(List Ev×List Sld×List Dbt×List Ot),_,_,_,_,Bm s P f (H.to g.ev.w q4) g.ev.c (by rw[K];exact U) J J (by rw[K];omega) (by rw[Y];omega) (by rw[q3];omega) o J ((Sa.Due L st.ords st.step).getD (k:Int).toNat 0),λy W=> ?_⟩;refine⟨(k+1,VM f y,y.2.2.2),[(6,8),(5,9)],⟨jM,g.more j.ev j.t D.1 D.2 W⟩,jM,rfl,rfl,rfl,rfl,rfl,nV,⟨eN.refl (gU s P (VM f y) 8 9),eN.refl (B6 (VM f y)),eN.refl (sA y.2.2.2)⟩⟩
  ·refine⟨(k+1,f,o),[],⟨jM,g.le (eP k)⟩,jM,rfl,rfl,rfl,rfl,rfl,nV,⟨eN.refl (gU s P f 6 5),eN.refl (B6 f),eN.refl (sA o)⟩⟩
 ·have l:=iT l;have l:((Sa.Due L st.ords st.step).length:Int)<=k:=l;have M:k<=20:=J
  refine⟨(f,o,0),[(0,0),(1,1)],λ_=>g.le M,⟨nY,⟨qL,nS,trivial⟩,rfl⟩,rfl,λh=>jC⟩
end Go.Proofs.YtpnjmojpeaegoaaGreatDoor
