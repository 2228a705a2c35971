/-
  TopDelivered returns true whatever the input, and the input reads behind the call as it read before, where the three listed tables of Go's library hold what the program's text lays: a part of the proof.
-/
import Derived.Laws.CopyRow
import Derived.Test.YtpnjmojpeaegoaaGreatDoorN4
set_option linter.unusedSimpArgs false
set_option linter.unusedVariables false
namespace Go.Eng
open Go.RowKit
section
variable {P : Program} {β : Bd} {nid : Nat} {F : Nat -> Prop} {w : World} {lk : Nat -> Option AO} {k : Eff -> Prop}
def I6 (a:Option AV) (d:Int):Option Int:=
 match a with
 |none=>some d
 |some (.i _ n)=>some n
 |some _=>none
def DM (g:Option Prop) (T:List (Nat×TI)) (lk:Nat->Option AO) (t:Nat) (a:AV) (lo hi:Option AV) (k:Eff->Prop):Prop:=
 match lF t T with
 |some x=>(match lW x.desc with
  |some e=>(match lF e T,a with
   |some f,.rs c n get=>(match Nat.beq c f.size,I6 lo 0,I6 hi n with
    |true,some l,some h=>ob g (0<=l/\l<=h/\h<=(n:Int)) (k (.ext [] (.rs c (h-l).toNat λq=>get (l.toNat+q))))
    |_,_,_=>False)
   |some f,.so id=>(match lk id with
    |some (.row _ c n _)=>(match Nat.beq c f.size,I6 lo 0,I6 hi n with
     |true,some l,some h=>ob g (0<=l/\l<=h/\h<=(n:Int)) (k (.ext [] (.sv id c l.toNat (h-l).toNat)))
     |_,_,_=>False)
    |_=>False)
   |some f,.sv id c j n=>(match lk id with
    |some (.row _ w N _)=>(match Nat.beq c f.size,Nat.beq w f.size,I6 lo 0,I6 hi n with
     |true,true,some l,some h=>ob g (0<=l/\l<=h/\(h<=(n:Int)\/j+h<=(N:Int))) (k (.ext [] (.sv id c (j+l.toNat) (h-l).toNat)))
     |_,_,_,_=>False)
    |_=>False)
   |_,_=>False)
  |none=>False)
 |none=>False
theorem tP (f:IntKind) (i:Int) (y:Nat) (c:BoundsCode) (a:0<=i) (e:i<=y):(Instr.sliceBound (.int f i) y c).run P w= .ok i.toNat w:=by simp[Instr.sliceBound,asIntOf,a,e]
theorem Bx {T:List (Nat×TI)} (E:iM P T) {t e:Nat} {z H:TI} (x:lF t T=some z) (g:lW z.desc=some e) (L:lF e T=some H) (a:Option Addr) (n c:Nat) (lo hi:Option Value) (l h:Nat)
  (A: ∀v,lo=some v-> ∃f,v= .int f l) (C:lo=none->l=0) (D: ∀v,hi=some v-> ∃f,v= .int f h) (q:hi=none->h=n) (Q:l<=h) (R:h<=c):
  (Instr.slice t (.slice a n c) lo hi none).run P w= .ok (.slice (if c=l then a else a.map (·.add (l*H.size))) (h-l) (c-l)) w:=by
 obtain⟨G,_⟩:=E.get x;obtain⟨_,_,j,N,O,_⟩:=E.get L;cases F:z.desc<;>simp[lW,F] at g;subst g;rw[F] at G;have M:(Instr.sliceBounds true n c lo hi none).run P w= .ok (l,h,c) w:=by
  unfold Instr.sliceBounds;rcases hi with _|S<;>rcases lo with _|U
  ·simp[C rfl,q rfl]
  ·obtain⟨f,rfl⟩:=A _ rfl;have:=tP (P:=P) (w:=w) f l n .sliceB J (by have:=q rfl;omega);simp[this,q rfl]
  ·obtain⟨f,rfl⟩:=D _ rfl;have:=tP (P:=P) (w:=w) f h c .sliceAcap J J;simp[this,C rfl]
  ·obtain⟨f,rfl⟩:=D _ rfl;obtain⟨K,rfl⟩:=A _ rfl;have x:=tP (P:=P) (w:=w) f h c .sliceAcap J J;have g:=tP (P:=P) (w:=w) K l h .sliceB J J;simp[x,g]
 simp[Instr.slice,run_underlying G,M,sizeOf,typeInfo,N,O]
theorem uI {a:Option AV} {d n:Int} (h:I6 a d=some n) {v:Option Value} (f: ∀x,a=some x-> ∃y,v=some y/\Rep β nid F w x y) (e:a=none->v=none):
  (∀y,v=some y-> ∃g,y= .int g n)/\(v=none->n=d):=by
 unfold I6 at h;split at h
 ·rw[e rfl];exact⟨λy c=>(by cases c),λ_=>(cK h).symm⟩
 ·obtain⟨y,rfl,c⟩:=f _ rfl;obtain rfl:=cK h;obtain rfl:=c.i_inv;exact⟨λy c=>by cases c;exact⟨_,rfl⟩,λc=>by cases c⟩
 ·cases h
theorem Nm {gc:Option Prop} (am: ∀c,gc=some c->c) (E:Env β nid F w lk) {T:List (Nat×TI)} (hT:iM P T) {t:Nat} {a:AV} {v:Value} {lo hi:Option AV} {O M:Option Value} (K:Rep β nid F w a v)
  (hl: ∀x,lo=some x-> ∃y,O=some y/\Rep β nid F w x y) (aC:lo=none->O=none) (hh: ∀x,hi=some x-> ∃y,M=some y/\Rep β nid F w x y) (a6:hi=none->M=none)
  (h:DM gc T lk t a lo hi k): ∃x,(Instr.slice t v O M none).run P w= .ok x w/\ ∃r,k (.ext [] r)/\Rep β nid F w r x:=by
 unfold DM at h;split at h
 ·rename_i ti h1;split at h
  ·rename_i e h2;split at h
   ·rename_i D sz n get h3;split at h
    ·rename_i l eu z ai cd;have z:sz=D.size:=by simpa using z
     have a3:=kS h am;clear h;obtain⟨⟨R,c8,eG⟩,h⟩:=a3;have sl:=uI ai hl aC;have W:=uI cd hh a6;obtain⟨L,rfl⟩:=fM R;obtain⟨H,rfl⟩:=fM (rP R c8);have A:=K.rs_inv;have C: ∀(f:Option Addr) (c:Nat),n<=c->(Instr.slice t (.slice f n c) O M none).run P w= .ok (.slice (if c=L then f else f.map (·.add (L*D.size))) (H-L) (c-L)) w:=λf c hc=>
      Bx hT h1 h2 h3 f n c O M L H sl.1 (λhy=>by have:=sl.2 hy;omega) W.1 (λhy=>by have:=W.2 hy;omega) J J
     have a2:((H:Int)-(L:Int)).toNat=H-L:=J;rw[a2] at h;cases A with
     |rsnil=>
      have K:=C none 0 (aG _);have hL:L=0:=J
      have hH:H=0:=J;subst hL;subst hH;refine⟨_,K,_,h,?_⟩;simp only[iG,uS];exact .pure _ _ (.rsnil _ _)
     |rsz _ _ S=>
      have K:=C (some S) 0 (aG _);have hL:L=0:=J
      have hH:H=0:=J;subst hL;subst hH;refine⟨_,K,_,h,?_⟩;simp only[iG,uS];exact .pure _ _ (.rsz _ _ S)
     |rs _ _ _ g o c vs hn hm hF hg a7 hc a8 aP=>
      have K:=C (some ⟨g,o,none⟩) c hn;refine⟨_,K,_,h,.pure _ _ ?_⟩;by_cases Q:c=L
      ·rw[aE Q];have q:H-L=0:=J
       rw[q];exact .rs sz 0 _ g o _ (λ_ _=>undef) (bI _) J hF hg (λk hk=>J) (λk j hk=>J) (λk j hk=>J) (λk j hk=>J)
      ·rw[aB Q];simp only[lR,Addr.add_lit];refine .rs sz (H-L) _ g (o+L*D.size) _ (λk j=>vs (L+k) j) J J hF hg ?_ ?_ ?_ ?_
       ·intro k hk;simpa using a7 (L+k) J
       ·intro k j hk hj;have:=hc (L+k) j J hj;rw[fV] at this;rw[<-z,<-this]
        congr 2
        omega
       ·intro k j hk hj;exact a8 (L+k) j J hj
       ·intro k j hk hj;simpa using aP (L+k) j J jT
    ·cases h
   ·rename_i D id h3;split at h
    ·rename_i e' sz n get ae;split at h
     ·rename_i l eu z ai cd;have z:sz=D.size:=by simpa using z
      subst z;have a3:=kS h am;clear h;obtain⟨⟨R,c8,eG⟩,h⟩:=a3;have sl:=uI ai hl aC;have W:=uI cd hh a6;obtain⟨L,rfl⟩:=fM R;obtain⟨H,rfl⟩:=fM (rP R c8);obtain⟨Y,rfl⟩:=K.so_inv;obtain⟨_,xs,U,_⟩:=E.obj id _ ae;have C: ∀(f:Option Addr) (c:Nat),n<=c->(Instr.slice t (.slice f n c) O M none).run P w= .ok (.slice (if c=L then f else f.map (·.add (L*D.size))) (H-L) (c-L)) w:=λf c hc=>
       Bx hT h1 h2 h3 f n c O M L H sl.1 (λhy=>by have:=sl.2 hy;omega) W.1 (λhy=>by have:=W.2 hy;omega) J J
      have a2:((H:Int)-(L:Int)).toNat=H-L:=J;rw[a2,aQ] at h;rcases U.2 with ⟨A,a1⟩|⟨S,A,a1⟩|⟨g,o,a4,b1,A,_,a9,_⟩
      ·have q:L=0/\H=0:=J;obtain⟨rfl,rfl⟩:=q;subst a1;refine⟨_,by rw[A];exact C none 0 (aG _),_,h,.sv _ _ _ _ _ Y (.inl ⟨rfl,rfl,A⟩)⟩
      ·have q:L=0/\H=0:=J;obtain⟨rfl,rfl⟩:=q;subst a1;refine⟨_,by rw[A];exact C (some S) 0 (aG _),_,h,.sv _ _ _ _ _ Y (.inr (.inl ⟨S,rfl,rfl,_,_,_,A,bI _⟩))⟩
      ·refine⟨_,by rw[A];exact C (some ⟨g,o,none⟩) (a4+1) a9,_,h,.sv _ _ _ _ _ Y ?_⟩;by_cases Q:a4+1=L
       ·have q:H-L=0:=J;rw[aE Q,q,show a4+1-L=0 by omega];exact .inr (.inl ⟨_,rfl,rfl,_,_,_,A,J⟩)
       ·rw[aB Q];simp only[lR,Addr.add_lit];exact .inr (.inr ⟨g,o,n,a4+1,A,J,J,rfl⟩)
     ·cases h
    ·cases h
   ·rename_i D id sz a5 n h3;split at h
    ·rename_i e' af N get ae;split at h
     ·rename_i l eu z aH ai cd;have z:sz=D.size:=by simpa using z
      have aH:af=D.size:=(by simpa using aH);subst z;subst aH;have a3:=kS h am;clear h;obtain⟨⟨R,c8,eG⟩,h⟩:=a3;have sl:=uI ai hl aC;have W:=uI cd hh a6;obtain⟨L,rfl⟩:=fM R;obtain⟨H,rfl⟩:=fM (rP R c8);obtain⟨Y,b0⟩:=K.sv_inv;obtain⟨_,xs,U,_⟩:=E.obj id _ ae;have C: ∀(f:Option Addr) (c:Nat),n<=c->H<=c->(Instr.slice t (.slice f n c) O M none).run P w= .ok (.slice (if c=L then f else f.map (·.add (L*D.size))) (H-L) (c-L)) w:=λf c hc _=>
       Bx hT h1 h2 h3 f n c O M L H sl.1 (λhy=>by have:=sl.2 hy;omega) W.1 (λhy=>by have:=W.2 hy;omega) J J
      have a2:((H:Int)-(L:Int)).toNat=H-L:=J;rw[a2,aQ] at h;rcases b0 with ⟨rfl,a1,G⟩|⟨S,rfl,a1,a',m',c,G,hc⟩|⟨g,o,m',c,G,bQ,b3,rfl⟩
      ·rw[G] at U;have hN:=M9 U;have q:L=0/\H=0:=J
       obtain⟨rfl,rfl⟩:=q;subst a1;exact⟨_,C none 0 (aG _) (aG _),_,h,.sv _ _ _ _ _ Y (.inl ⟨rfl,rfl,G⟩)⟩
      ·rw[G] at U;have hN:=M9 U;have q:L=0/\H=0:=J
       obtain⟨rfl,rfl⟩:=q;subst a1;exact⟨_,C (some S) 0 (aG _) (aG _),_,h,.sv _ _ _ _ _ Y (.inr (.inl ⟨S,rfl,rfl,a',m',c,G,J⟩))⟩
      ·rw[G] at U;have hN:=M9 U;refine⟨_,C (some ⟨g,o+a5*D.size,none⟩) (c-a5) J J,_,h,.sv _ _ _ _ _ Y ?_⟩;by_cases Q:c-a5=L
       ·have q:H-L=0:=J;rw[aE Q,q,show c-a5-L=0 by omega];exact .inr (.inl ⟨_,rfl,rfl,_,_,_,G,J⟩)
       ·rw[aB Q];simp only[lR,Addr.add_lit];refine .inr (.inr ⟨g,o,m',c,G,J,J,?_⟩);rw[fV,<-fT,Nat.sub_sub]
     ·cases h
    ·cases h
   ·cases h
  ·cases h
 ·cases h
def DN (c:Option Prop) (T:List (Nat×TI)) (lk:Nat->Option AO) (t:Nat) (a lo hi f:AV) (k:Eff->Prop):Prop:=
 match lF t T with
 |some g=>(match lW g.desc with
  |some e=>(match lF e T,a,lo,hi,f with
   |some _,.so id,.i _ l,.i _ h,.i _ m=>(match lk id with
    |some (.row _ _ n _)=>ob c (0<=l/\l<=h/\h<=m/\m<=(n:Int)) (k (.ext [] .u))
    |_=>False)
   |_,_,_,_,_=>False)
  |none=>False)
 |none=>False
theorem Gu {K:Option Prop} (am: ∀c,K=some c->c) (E:Env β nid F w lk) {T:List (Nat×TI)} (N:iM P T) {t:Nat} {a lo hi mx:AV} {v Y R mv:Value} (hr:Rep β nid F w a v)
  (hl:Rep β nid F w lo Y) (hh:Rep β nid F w hi R) (hm:Rep β nid F w mx mv)
  (h:DN K T lk t a lo hi mx k): ∃x,(Instr.sliceAt t v (some Y) (some R) (some mv)).run P w= .ok x w/\ ∃r,k (.ext [] r)/\Rep β nid F w r x:=by
 unfold DN at h;split at h
 ·rename_i ti f;split at h
  ·rename_i e q;split at h
   ·rename_i te id U l S H W m h3;split at h
    ·rename_i e' sz n get ae;have a3:=kS h am;clear h;obtain⟨⟨A,G,a1,a7⟩,h⟩:=a3;obtain rfl:=hl.i_inv;obtain rfl:=hh.i_inv;obtain rfl:=hm.i_inv;obtain⟨L,rfl⟩:=fM A;obtain⟨H,rfl⟩:=fM (rP A G);obtain⟨M,rfl⟩:=fM (rP (rP A G) a1);obtain⟨a6,rfl⟩:=hr.so_inv;obtain⟨_,xs,hx,_⟩:=E.obj id _ ae;obtain⟨z,c,hb⟩: ∃z c,β.val id= .slice z n c/\n<=c:=by
      rcases hx.2 with ⟨f,q⟩|⟨a,f,q⟩|⟨g,o,a4,a5,f,_,a2,_⟩
      ·subst q;exact⟨_,_,f,aG _⟩
      ·subst q;exact⟨_,_,f,aG _⟩
      ·exact⟨_,_,f,a2⟩
     obtain⟨Q,_⟩:=N.get f;obtain⟨_,_,j,hj,hs,_⟩:=N.get h3;cases O:ti.desc<;>simp[lW,O] at q;subst q;rw[O] at Q;have C:=tP (P:=P) (w:=w) W M c .slice3Acap J J;have b2:=tP (P:=P) (w:=w) S H M .slice3B J J;have D:=tP (P:=P) (w:=w) U L H .slice3C J J;simp only[aQ] at C b2 D;have a0:(Instr.sliceBounds true n c (some (.int U L)) (some (.int S H)) (some (.int W M))).run P w= .ok (L,H,M) w:=by unfold Instr.sliceBounds;simp[C,b2,D]
     refine⟨.slice (if M=L then z else z.map (·.add (L*j.size))) (H-L) (M-L),?_,_,h,.pure _ _ (.u _)⟩;rw[hb.1];simp[Instr.sliceAt,Instr.slice,run_underlying Q,a0,sizeOf,typeInfo,hj]
    ·cases h
   ·cases h
  ·cases h
 ·cases h
def NW (c:Option Prop) (T:List (Nat×TI)) (lk:Nat->Option AO) (t:Nat) (a:AV) (lo hi:Option AV) (k:Eff->Prop):Prop:=
 match lF t T,a with
 |some f,.p id g=>(match f.desc,lo with
  | .array n e,none=>(match lF e T,I6 hi n with
   |some j,some h=>(match Nat.beq j.size 1,Nat.ble n 1000000,Nat.blt 0 n with
    |true,true,true=>ob c (0<=h/\h<=(n:Int)) (k (.ext [] (.sc id g h.toNat n)))
    |_,_,_=>False)
   |_,_=>False)
  |_,_=>False)
 |some f,.s x=>(match f.desc,I6 lo 0,I6 hi x.size with
  | .string,some l,some h=>ob c (0<=l/\l<=h/\h<=(x.size:Int)) (k (.ext [] (.s (x.extract l.toNat h.toNat))))
  |_,_,_=>False)
 |_,a=>DM c T lk t a lo hi k
theorem qv (e:Bool) (n c L H:Nat) {lo hi:Option Value} (g: ∀v,lo=some v-> ∃a,v= .int a (L:Int)) (h:lo=none->L=0) (j: ∀v,hi=some v-> ∃a,v= .int a (H:Int)) (f:hi=none->H=n) (x:L<=H) (z:H<=c):
  (Instr.sliceBounds e n c lo hi none).run P w= .ok (L,H,c) w:=by
 unfold Instr.sliceBounds;rcases hi with _|A<;>rcases lo with _|C
 ·simp[h rfl,f rfl]
 ·obtain⟨a,rfl⟩:=g _ rfl;have:=tP (P:=P) (w:=w) a L n .sliceB J (by have:=f rfl;omega);simp[this,f rfl]
 ·obtain⟨a,rfl⟩:=j _ rfl;have:=tP (P:=P) (w:=w) a H c (if e then .sliceAcap else .sliceAlen) J J;simp[this,h rfl]
 ·obtain⟨a,rfl⟩:=j _ rfl;obtain⟨l,rfl⟩:=g _ rfl;have q:=tP (P:=P) (w:=w) a H c (if e then .sliceAcap else .sliceAlen) J J;have t:=tP (P:=P) (w:=w) l L H .sliceB J J;simp[q,t]
theorem Nn {gc:Option Prop} (R: ∀c,gc=some c->c) (E:Env β nid F w lk) {T:List (Nat×TI)} (A:iM P T) {t:Nat} {a:AV} {v:Value} {lo hi:Option AV} {K D:Option Value} (C:Rep β nid F w a v)
  (hl: ∀x,lo=some x-> ∃y,K=some y/\Rep β nid F w x y) (Q:lo=none->K=none) (U: ∀x,hi=some x-> ∃y,D=some y/\Rep β nid F w x y) (O:hi=none->D=none)
  (h:NW gc T lk t a lo hi k): ∃x,(Instr.sliceAt t v K D none).run P w= .ok x w/\ ∃r,k (.ext [] r)/\Rep β nid F w r x:=by
 unfold NW at h;split at h
 ·rename_i W id a3 q;obtain⟨f,_⟩:=A.get q;split at h
  ·rename_i n e g;split at h
   ·rename_i te H0 h3 S;split at h
    ·rename_i a2 a1 a0;have a2:te.size=1:=by simpa using a2
     have a1:n<=1000000:=(by simpa using a1);have a0:0<n:=uF a0;obtain⟨hb,h⟩:=kS h R;have M:=uI S U O;obtain⟨H,rfl⟩:=fM hb.1;obtain⟨a5,rfl⟩:=C.p_inv;obtain⟨_,_,j,hj,hs,_⟩:=A.get h3;rw[g] at f;have N:=qv (P:=P) (w:=w) false n n 0 H (lo:=K) (hi:=D) (λy G=>by rw[Q rfl] at G;cases G) (λ_=>rfl) M.1 (λG=>by have:=M.2 G;omega) (bI _) J;refine⟨.slice (some ⟨β.blk id,a3,none⟩) H n,?_,_,h,?_⟩
     ·have a6: ¬n=0:=J;simp[Instr.sliceAt,run_underlying f,Instr.sureAddr,N,sizeOf,typeInfo,hj,hs,a6,Addr.add_lit]
     ·have:=Rep.sc (β:=β) (n:=nid) (F:=F) (w:=w) id a3 H n a5 J (by unfold maxLen;omega);rw[aQ];exact this
    ·cases h
   ·cases h
  ·cases h
 ·rename_i W x q;obtain⟨f,_⟩:=A.get q;split at h
  ·rename_i l0 H0 g ai S;obtain⟨⟨Y,c8,eG⟩,h⟩:=kS h R;have sl:=uI ai hl Q;have M:=uI S U O;obtain⟨L,rfl⟩:=fM Y;obtain⟨H,rfl⟩:=fM (rP Y c8);cases C with
   |pure _ _ C=>
   cases C;rw[g] at f;have N:=qv (P:=P) (w:=w) false x.size x.size L H (lo:=K) (hi:=D) sl.1 (λG=>by have:=sl.2 G;omega) M.1 (λG=>by have:=M.2 G;omega) J J;refine⟨.string (x.extract L H),?_,_,h,?_⟩
   ·simp[Instr.sliceAt,Instr.slice,run_underlying f,N]
   ·rw[aQ,aQ];exact .pure _ _ (.s _)
  ·cases h
 ·have l:=h;obtain⟨z,a4,hp⟩:=Nm (P:=P) R E A C hl Q U O h;refine⟨z,?_,hp⟩;rw[<-a4];unfold DM at l;split at l
  ·rename_i W q;obtain⟨f,_⟩:=A.get q;split at l
   ·rename_i e h2;cases g:W.desc<;>simp[lW,g] at h2;rw[g] at f;simp[Instr.sliceAt,run_underlying f]
   ·exact l.elim
  ·exact l.elim
def WC:AV->Option Int
 | .i .u8 v=>some v
 |_=>none
theorem DO {a:AV} {v:Int} (h:WC a=some v):a= .i .u8 v:=by
 unfold WC at h;split at h
 ·cases h;rfl
 ·cases h
def NX (x:ByteArray):Nat->Nat->Nat->List AV->(List AV->Prop)->Prop
 |0,0,_,l,k=>k l
 |0,_+1,_,[],_=>False
 |0,n+1,j,a::r,k=>(match WC a with
  |some v=>NX x 0 n (j+1) r λl=>k (.i .u8 (z8 x j v)::l)
  |none=>False)
 |_+1,_,_,[],_=>False
 |c+1,n,j,a::r,k=>NX x c n j r λl=>k (a::l)
theorem Bz (x:ByteArray): ∀{off n j:Nat} {l:List AV} {q:List AV->Prop},NX x off n j l q-> ∃m,q m/\m.length=l.length/\off+n<=l.length/\
  ∀(p:Nat) (h1:p<l.length) (h2:p<m.length),(¬(off<=p/\p<off+n)->m[p]=l[p])/\(off<=p/\p<off+n-> ∃v,l[p]= .i .u8 v/\m[p]= .i .u8 (z8 x (j+(p-off)) v))
 |0,0,j,l,q,h=>by unfold NX at h;exact⟨l,h,rfl,bI _,λp h1 h2=>⟨λ_=>rfl,λh=>J⟩⟩
 |0,n+1,j,[],q,h=>by unfold NX at h;exact h.elim
 |0,n+1,j,a::r,q,h=>by
  unfold NX at h;split at h
  ·rename_i v t;obtain rfl:=DO t;obtain⟨m,e,c,g,f⟩:=Bz x h;refine⟨_,e,by simp[c],jO,λp h1 h2=> ?_⟩;cases p with
   |zero=>exact⟨λh=>J,λ_=>⟨v,rfl,jS⟩⟩
   |succ p=>
    have:=f p j1 j2;refine⟨λh=> ?_,λh=> ?_⟩
    ·simpa using this.1 J
    ·exact nD
  ·cases h
 |off+1,n,j,[],q,h=>by unfold NX at h;exact h.elim
 |off+1,n,j,a::r,q,h=>by
  unfold NX at h;obtain⟨m,e,c,g,f⟩:=Bz x h;refine⟨_,e,by simp[c],jO,λp h1 h2=> ?_⟩;cases p with
  |zero=>exact⟨λ_=>rfl,λh=>J⟩
  |succ p=>
   have:=f p j1 j2;refine⟨λh=> ?_,λh=> ?_⟩
   ·simpa using this.1 J
   ·exact nD
def Ca (x:ByteArray):List Value:=x.data.toList.map λb:UInt8=>Value.int IntKind.u8 (b.toNat:Int)
theorem qw (x:ByteArray):(Ca x).length=x.size:=by unfold Ca;rw[fC,zH];rfl
theorem DP (x:ByteArray) (j:Nat) (h:j<(Ca x).length):(Ca x)[j]= .int .u8 ((x.data.toList.getD j 0).toNat:Int):=by unfold Ca at h|-;rw[fC] at h;rw[iO,eR,bL h];rfl
def NY (N:Nat) (a get:Nat->List AV):Nat->List AV:=λq=>if q<N then a q else get q
def DQ (T:List (Nat×TI)) (lk:Nat->Option AO) (t:Nat) (a b:AV) (k:Eff->Prop):Prop:=
 match lF t T,a,b with
 |some f,.sc id g n _,.s x=>(match lW f.desc with
  |some e=>(match lF e T,lk id with
   |some c,some (.cells l h)=>(match Nat.beq c.size 1 with
    |true=>NX x g n 0 h λz=>k (.set id (.cells l z) (.i .i64 (min x.size n:Nat)))
    |false=>False)
   |_,_=>False)
  |none=>False)
 |some f,.so id,x=>(match lW f.desc with
  |some e=>(match lF e T,lk id with
   |some c,some (.row j w n get)=>(match c.size,Nat.beq w c.size with
    |_+1,true=>Nj lk x c.size λm q=>k (.set id (.row j c.size n (NY (Nat.min m n) q get)) (.i .i64 (Nat.min m n:Nat)))
    |_,_=>False)
   |_,_=>False)
  |none=>False)
 |_,_,_=>False
theorem DR (E:Env β nid F w lk) {T:List (Nat×TI)} (hT:iM P T) {t e e' id n m sz:Nat} {U te:TI} {get D:Nat->List AV} {news:List Value} {v:Value} (t' ty:TypeId) (h1:lF t T=some U) (h2:lW U.desc=some e) (h3:lF e T=some te) (b9:te.size=sz)
  (O:lk id=some (.row e' sz n get)) (A:Src F w v sz m D news)
  (h:k (.set id (.row e' sz n (NY (Nat.min m n) D get)) (.i .i64 (Nat.min m n:Nat)))):
  ∃x w',(Builtin.copy_ #[t,t'] ty #[β.val id,v]).run P w= .ok x w'/\rU β nid F lk w k x w':=by
 obtain⟨aF,_⟩:=hT.get h1;obtain⟨_,_,i,hi,hs,_⟩:=hT.get h3;have hd:U.desc= .slice e:=by cases hd:U.desc<;>simp[lW,hd] at h2;rw[h2]
 rw[hd] at aF;obtain⟨_,G,S,W,hc⟩:=E.obj id _ O;have hF: ∀g,kI (β.val id)=some g->F g:=λg hg=>E.own id _ g O hg;have a5:i.size=sz:=by rw[<-b9,hs]
 have a7:(Builtin.lenOf v).run P w= .ok m w:=by rcases A.val with ⟨rfl,rfl⟩|⟨a,c,rfl,_⟩<;>simp[Builtin.lenOf]
 obtain⟨N,hN,b1,b3⟩: ∃N,N=Nat.min m n/\N<=m/\N<=n:=⟨_,rfl,Nat.min_le_left _ _,Nat.min_le_right _ _⟩;rw[<-hN] at h;have c3:N*sz<=m*sz:=bU _ b1;have c0:=A.len;have a1:(news.take (N*sz)).length=N*sz:=by rw[cT];omega
 have a4:(Builtin.firstCells sz N v).run P w= .ok (news.take (N*sz)).toArray w:=by
  rcases A.val with ⟨rfl,rfl⟩|⟨a,c,rfl,_,b4⟩
  ·obtain rfl:N=0:=J;simpa using run_firstCells_none (P:=P) (w:=w) sz 0 0 0
  ·refine run_firstCells_some (P:=P) (w:=w) sz N a m c _ a1 λj u R=> ?_;rw[dZ] at R;split at R
   ·exact b4 j u R
   ·cases R
 have a2: ∀(M:Option Addr) (H:Nat) (w':World),β.val id= .slice M n H->((match M with|some a=>storeCells a (news.take (N*sz))|none=>pure ()):Sem Unit).run P w= .ok () w'->
   (Builtin.copy_ #[t,t'] ty #[β.val id,v]).run P w= .ok (goInt N) w':=by
  intro M H w' hb l;rw[hb];cases M with
  |none=>have l:(pure ():Sem Unit).run P w= .ok () w':=l;rw[Sem.run_pure] at l;injection l with _ l;subst l;simp[Builtin.copy_,run_underlying aF,a7,sizeOf,typeInfo,hi,a5,<-hN,a4]
  |some a=>have l:(storeCells a (news.take (N*sz))).run P w= .ok () w':=l;simp[Builtin.copy_,run_underlying aF,a7,sizeOf,typeInfo,hi,a5,<-hN,a4,l]
 have none:N=0->rU β nid F lk w k (goInt N) w:=λQ=>by
  refine⟨_,β,h,rfl,_,O,qG,rfl,⟨G,S,λq z=> ?_,λq j z f a6=> ?_⟩,.pure _ _ (.i _ _)⟩
  ·have e:NY N D get q=get q:=aB J;rw[e];exact W q z
  ·have e:NY N D get q=get q:=aB J;simp only[e] at f|-;exact hc q j z f a6
 rcases S.2 with ⟨C,a0⟩|⟨a,C,a0⟩|⟨g,o,H,Y,C,hh,a8,b5,b6,a9⟩
 ·have Q:N=0:=J
  exact⟨_,w,a2 Option.none 0 w (by rw[C,a0]) rfl,none Q⟩
 ·have Q:N=0:=J
  refine⟨_,w,a2 (some a) 0 w (by rw[C,a0]) ?_,none Q⟩;rw[Q,Nat.zero_mul];rfl
 ·have b0:F g:=hF g (by rw[C];rfl);have bg:n*sz<=(H+1)*sz:=bU _ a8;have c1:N*sz<=n*sz:=bU _ b3;have l:=run_storeCells_at P g o e' (news.take (N*sz)) 0 Y w hh (by rw[a1];omega) (λy hy=>A.one y (Cp hy));have a3:=kT.over (w:=w) hh a8 b5 b6 a9 S.1 0 (news.take (N*sz)) (by rw[a1];omega);rw[<-C] at a3;have hold: ∀b,b<w.heap.size-> ¬F b->(w.setRow g (Y.toList.take (o+0)++news.take (N*sz)++Y.toList.drop (o+0+(news.take (N*sz)).length)).toArray).heap[b]? =w.heap[b]? :=
   λb _ L=>setRow_other w _ b _ (λe=>L (by rw[e];exact b0))
  have cY:kI (β.val id)=some g:=by rw[C];rfl
  refine⟨_,_,a2 (some ⟨g,o,Option.none⟩) (H+1) _ C l,_,β,h,rfl,_,O,by show GrownBy w _ (kI (β.val id));rw[cY];exact rV _ _ _,rfl,⟨_,a3,λq z=> ?_,λq j z f a6=> ?_⟩,.pure _ _ (.i _ _)⟩
  ·unfold NY;split
   ·exact A.glen q J
   ·exact W q z
  ·have c2:(0:Nat)<=sz:=bI _;by_cases K:q<N
   ·have e0:NY N D get q=D q:=aE K;simp only[e0] at f|-;have b8:j<sz:=by rw[A.glen q J] at f;exact f
    have b7:q*sz+j<N*sz:=by have:=bU sz (show q+1<=N from K);rw[fV,xB] at this;omega
    have e:(List.take 0 G++news.take (N*sz)++G.drop (0+(news.take (N*sz)).length))[q*sz+j]=news[q*sz+j]'J:=by rw[hJ jO];simp
    rw[e];exact⟨(A.rep q j J f J).stable (λ_ _ L=>L) hold jS,A.one _ (fN _)⟩
   ·have e0:NY N D get q=get q:=aB K;simp only[e0] at f|-;have K:N<=q:=J
    have b7:N*sz<=q*sz:=bU _ K;have dI:q*sz+j<G.length:=by
     have b8:j<sz:=by rw[W q z] at f;exact f
     have:=bU sz (show q+1<=n from z);rw[fV,xB] at this;rw[S.1];omega
    have e:(List.take 0 G++news.take (N*sz)++G.drop (0+(news.take (N*sz)).length))[q*sz+j]=G[q*sz+j]:=by
     rw[kF jO,wT]
     congr 1
     simp;omega
    rw[e];have:=hc q j z f dI;exact⟨this.1.stable (λ_ _ L=>L) hold jS,this.2⟩
theorem Gv (E:Env β nid F w lk) {T:List (Nat×TI)} (Y:iM P T) {t:Nat} {a b:AV} {u v:Value} (t' ty:TypeId) (hu:Rep β nid F w a u) (M:Rep β nid F w b v) (h:DQ T lk t a b k):
  ∃x w',(Builtin.copy_ #[t,t'] ty #[u,v]).run P w= .ok x w'/\rU β nid F lk w k x w':=by
 unfold DQ at h;split at h
 ·rename_i ti id c n b1 x C;split at h
  ·rename_i e h2;split at h
   ·rename_i te eo cs W D;split at h
    ·rename_i A;have A:te.size=1:=by simpa using A
     obtain⟨a7,b8,b6,rfl⟩:=hu.sc_inv;cases M with
     |pure _ _ M=>
     cases M;obtain⟨_,q,hh,hl,hc⟩:=E.obj id _ D;have hF:=E.own id _ _ D rfl;obtain⟨b0,L,aC,b7,hp⟩:=Bz x h;obtain⟨aF,_⟩:=Y.get C;obtain⟨_,_,i,hi,hs,_⟩:=Y.get W;have hd:ti.desc= .slice e:=by cases hd:ti.desc<;>simp[lW,hd] at h2;rw[h2]
     rw[hd] at aF;obtain⟨N,hN,b3,b4,b5⟩: ∃N,N=min x.size n/\N<=x.size/\N<=n/\(N=x.size\/N=n):=⟨_,rfl,J,J,J⟩;obtain⟨f,R,a4⟩: ∃f,f=List.take N (Ca x)/\f.length=N:=⟨_,rfl,by rw[cT,qw];omega⟩;have aT: ∀y∈f,y.oneCell'=true:=λy hy=>by rw[R] at hy;have:=Cp hy;unfold Ca at this;rw[fL] at this;obtain⟨z,_,rfl⟩:=this;rfl
     have a3:=run_storeCells_at P (β.blk id) c eo f 0 q.toArray w hh (by rw[a4];show c+0+N<=q.length;omega) aT;simp only[iL] at a3;have hold: ∀g,g<w.heap.size-> ¬F g->(w.setRow (β.blk id) (q.toArray.toList.take c++f++q.toArray.toList.drop (c+f.length)).toArray).heap[g]? =w.heap[g]? :=
      λg _ G=>setRow_other w _ g _ (λe=>G (by rw[e];exact hF))
     rw[<-hN] at L;refine⟨goInt N,w.setRow (β.blk id) (q.toArray.toList.take c++f++q.toArray.toList.drop (c+f.length)).toArray,?_,?_⟩
     ·have a6:Nat.min x.size n=N:=hN.symm;simp[Builtin.copy_,run_underlying aF,Builtin.lenOf,Builtin.firstCells,sizeOf,typeInfo,hi,a6];have K:List.take N (List.map (λb:UInt8=>Value.int IntKind.u8 (b.toNat:Int)) x.data.toList)=f:=by rw[R];rfl
      rw[K,a3];simp[Result.andThen]
     ·refine⟨_,β,L,rfl,_,D,rV _ _ _,rfl,⟨_,setRow_heap w _ _ _ _ _ hh,?_,λj C h2=> ?_⟩,.pure _ _ (.i _ _)⟩
      ·rw[aC,hl];simp only[bD,cT,iB];omega
      ·have hj:j<cs.length:=by rw[<-aC];exact C
       have H:=hc j hj J;have Q:=hp j hj C;have a8:=z6 (off:=c) (cs:=f) (l:=q) J j j2;simp only at h2|-;rw[a8];by_cases a1:c<=j/\j<c+f.length
       ·rw[rG a1];obtain⟨O,K,S⟩:=Q.2 J;rw[S];have a2:j-c<(Ca x).length:=by rw[qw];omega
        have e3:f[j-c]'J=(Ca x)[j-c]:=by subst R;rw[pZ]
        rw[e3,DP];have U:z8 x (0+(j-c)) O=((x.data.toList.getD (j-c) 0).toNat:Int):=by unfold z8;rw[dR,aE (by rw[qw] at a2;exact a2)]
        rw[U];exact⟨.pure _ _ (.i _ _),rfl⟩
       ·rw[sK a1];by_cases a0:c<=j/\j<c+n
        ·obtain⟨O,K,S⟩:=Q.2 a0;have U:z8 x (0+(j-c)) O=O:=by unfold z8;rw[aB J]
         rw[S,U,<-K];exact⟨H.1.stable (λ_ _ G=>G) hold jS,H.2⟩
        ·rw[Q.1 a0];exact⟨H.1.stable (λ_ _ G=>G) hold jS,H.2⟩
    ·cases h
   ·cases h
  ·cases h
 ·rename_i ti id C;split at h
  ·rename_i e h2;split at h
   ·rename_i te e' sz n get W D;split at h
    ·rename_i _ _ s0 b9 A;have A:sz=te.size:=by simpa using A
     subst A;obtain⟨a7,rfl⟩:=hu.so_inv;obtain⟨m,g2,a9,L,a5⟩:=r8 E J M h;exact DR E Y t' ty C h2 W rfl D a5 L
    ·cases h
   ·cases h
  ·cases h
 ·cases h
def kdV:KD->AV
 | .row _ c n get=> .rs c n get
 | .cells _ a=> .rp a
mutual
def sZ (lk:Nat->Option AO):Nat->AV->(AV->Prop)->Prop
 |_+1,.so id,k=>(match lk id with
  |some (.row _ e m get)=>k (.rs e m get)
  |_=>False)
 |_+1,.sv id e x m,k=>(match lk id with
  |some (.row _ w _ get)=>(match Nat.beq w e with
   |true=>k (.rs e m λq=>get (x+q))
   |false=>False)
  |_=>False)
 |_+1,.mo id,k=>(match lk id with
  |some (.mp m g val _ _)=>k (.rm m g val)
  |some (.mr m g t _ _ _ none)=>k (.rm m g λi=>kdV (t i))
  |some (.mr _ _ _ _ _ _ (some _))=>k .u
  |_=>False)
 |n+1,.p id h,k=>(match lk id with
  |some (.cells _ c)=>vU lk n c λl=>qf h l λl'=>k (.rp l')
  |_=>False)
 |n+1,.sc id h m j,k=>(match lk id with
  |some (.cells _ c)=>vU lk n c λl=>qf h l λl'=>(match Nat.ble j l'.length with
   |true=>k (.rs 1 m λq=>[l'.getD q .u])
   |false=>False)
  |_=>False)
 |n+1,.fn f c,k=>vU lk n c λl=>k (.fn f l)
 |n+1,.ag c,k=>vU lk n c λl=>k (.ag l)
 |n+1,.tup c,k=>vU lk n c λl=>k (.tup l)
 |_,.pe _ _ _ _,_=>False
 |0,.mo _,_=>False
 |0,.sv _ _ _ _,_=>False
 |0,.sc _ _ _ _,_=>False
 |0,.so _,_=>False
 |0,.p _ _,_=>False
 |0,.fn _ _,_=>False
 |0,.ag _,_=>False
 |0,.tup _,_=>False
 |_,a,k=>k a
def vU (lk:Nat->Option AO):Nat->List AV->(List AV->Prop)->Prop
 |_,[],k=>k []
 |0,_::_,_=>False
 |n+1,a::r,k=>sZ lk n a λb=>vU lk n r λl=>k (b::l)
end
theorem yg {Fa:Nat->Prop} (H: ∀g,Fa g->F g) {e:TypeId} {sz n:Nat} {xs:List Value} {get:Nat->List AV} {g o A:Nat} (L: ¬Fa g) {t:Array Value} (E:w.heap[g]? =some (.cells t e (0,0))) (Q:A+1<=maxLen)
  (G:(t.toList.drop o).take (n*sz)=xs) (U:xs.length=n*sz) (l: ∀k,k<n->(get k).length=sz)
  (D: ∀(k j:Nat) (_:k<n) (W:j<(get k).length) (z:k*sz+j<xs.length),Rep0 F w (get k)[j] xs[k*sz+j]/\xs[k*sz+j].oneCell'=true) (lo m:Nat) (S:lo+m<=n) (c:Nat) (M:m<=c) (P:c<=A+1):
  Rep0 Fa w (.rs sz m λq=>get (lo+q)) (.slice (some ⟨g,o+lo*sz,none⟩) m c):=by
 have x: ∀k,k<n->k*sz+sz<=n*sz:=λk h=>by rw[<-iC];exact bU _ h
 refine .rs sz m _ g (o+lo*sz) c (λk j=>xs.getD ((lo+k)*sz+j) undef) M J L (cN.1 E).1 (λk h=>l _ J) ?_ ?_ ?_
 ·intro k j h f;have a:(lo+k)*sz+j<xs.length:=by have:=x (lo+k) J;omega
  rw[cell_of_row w _ _ _ _ _ E];have K:o+lo*sz+k*sz+j=o+((lo+k)*sz+j):=by rw[fV];omega
  rw[K];have z:xs[(lo+k)*sz+j]? =t.toList[o+((lo+k)*sz+j)]? :=by rw[<-G,dZ,aE J,eE]
  have C:xs[(lo+k)*sz+j]? =some xs[(lo+k)*sz+j]:=bL a;rw[eR,C];rw[C] at z;simpa using z.symm
 ·intro k j h f;have a:(lo+k)*sz+j<xs.length:=by have:=x (lo+k) J;omega
  have:=(D (lo+k) j J (by rw[l _ J];exact f) a).2;rw[eR,bL a];simpa using this
 ·intro k j h f;have R:j<sz:=by rw[l (lo+k) J] at f;exact f
  have a:(lo+k)*sz+j<xs.length:=by have:=x (lo+k) J;omega
  have:=(D (lo+k) j J f a).1;rw[eR,bL a];exact this.stable (λg _ O N=>O (H g N)) (λ_ _ _=>rfl) (aG _)
theorem Gw {Fa:Nat->Prop} (q: ∀g,Fa g->F g) {e:TypeId} {sz n:Nat} {v:Value} {xs:List Value} {get:Nat->List AV} (c:kT w e sz v n xs) (z: ∀g,kI v=some g-> ¬Fa g) (h: ∀k,k<n->(get k).length=sz)
  (A: ∀(k j:Nat) (_:k<n) (G:j<(get k).length) (H:k*sz+j<xs.length),Rep0 F w (get k)[j] xs[k*sz+j]/\xs[k*sz+j].oneCell'=true):Rep0 Fa w (.rs sz n get) v:=by
 rcases c.2 with ⟨rfl,rfl⟩|⟨a,rfl,rfl⟩|⟨g,o,l,D,rfl,C,x,t,E,f⟩
 ·exact .rsnil _ _
 ·exact .rsz _ _ a
 ·have:=yg q (z g rfl) C t f c.1 h A 0 n J (l+1) x (aG _);simpa using this
theorem NZ {Fa:Nat->Prop} (z: ∀g,Fa g->F g) {e:TypeId} {sz n lo m:Nat} {b v:Value} {xs:List Value} {get:Nat->List AV} (D:aH9 b sz lo m v) (l:kT w e sz b n xs) (A: ∀g,kI b=some g-> ¬Fa g) (x: ∀k,k<n->(get k).length=sz)
  (E: ∀(k j:Nat) (_:k<n) (f:j<(get k).length) (Q:k*sz+j<xs.length),Rep0 F w (get k)[j] xs[k*sz+j]/\xs[k*sz+j].oneCell'=true):Rep0 Fa w (.rs sz m λq=>get (lo+q)) v:=by
 rcases D with ⟨rfl,rfl,_⟩|⟨a,rfl,rfl,_⟩|⟨g,o,R,c,h,O,M,rfl⟩
 ·exact .rsnil _ _
 ·exact .rsz _ _ a
 ·rcases l.2 with ⟨f,_⟩|⟨_,f,_⟩|⟨P,S,H,K,f,G,N,C,L,t⟩
  ·rw[h] at f;cases f
  ·rw[h] at f;simp only[Value.slice.injEq] at f;omega
  ·rw[h] at f;simp only[Value.slice.injEq,dT,Addr.mk.injEq] at f;obtain⟨⟨rfl,rfl,_⟩,rfl,rfl⟩:=f;exact yg z (A g (by rw[h];rfl)) G C t l.1 x E lo m J _ J J
theorem DS {Fa:Nat->Prop} (q: ∀g,Fa g->F g) {v:Value} {n:KD} (h:xD F w v n) (t: ∀g,H1 v=some g-> ¬Fa g):Rep0 Fa w (kdV n) v:=by
 have A: ∀{a:AV} {v:Value},Rep0 F w a v->Rep0 Fa w a v:=λh=>h.stable (λg _ H E=>H (q g E)) (λ_ _ _=>rfl) (aG _);cases n with
 |row e L m get=>obtain⟨M,z,C,c⟩:=h;exact Gw q z (λg G=>t g (by rw[H7 z];exact G)) C c
 |cells e D=>
  obtain⟨b,l,rfl,x,K,c⟩:=h;refine .rp D b 0 (λj=>l.getD j undef) (t b rfl) (cN.1 x).1 (λj f=> ?_) (λj f=> ?_) (λj f=> ?_)
  ·rw[cell_of_row w _ _ _ _ _ x];simp[bL (show j<l.length by omega)]
  ·have:=(c j f J).2;simpa [bL (show j<l.length by omega)] using this
  ·have:=A (c j f J).1;simpa [bL (show j<l.length by omega)] using this
theorem v8 (E:Env β nid F w lk) {Fa:Nat->Prop} (Y: ∀g,Fa g->F g) {lkv:Nat->Option AO} (P: ∀id o,lkv id=some o->lk id=some o) (M: ∀id o g,lkv id=some o->dG β id o g-> ¬Fa g): ∀n:Nat,
  (∀(a:AV) (v:Value) (q:AV->Prop),Rep β nid F w a v->sZ lkv n a q-> ∃b,q b/\Rep0 Fa w b v)/\
  (∀(l:List AV) (t:List Value) (q:List AV->Prop),l.length=t.length->(∀(j:Nat) (h1:j<l.length) (h2:j<t.length),Rep β nid F w l[j] t[j])->vU lkv n l q->
   ∃m,q m/\m.length=t.length/\ ∀(j:Nat) (h1:j<m.length) (h2:j<t.length),Rep0 Fa w m[j] t[j]):=by
 have D: ∀{a:AV} {v:Value},Rep0 F w a v->Rep0 Fa w a v:=λh=>h.stable (λg _ U hf=>U (Y g hf)) (λ_ _ _=>rfl) (aG _);intro n
 induction n with
 |zero=>
  refine⟨?_,?_⟩
  ·intro a v q c h;cases a<;>simp only[sZ] at h<;>first|exact h.elim|(cases c with|pure _ _ c=>exact⟨_,h,D c⟩)
  ·intro l t q C c h;cases l with
   |nil=>simp only[vU] at h;exact⟨[],h,C,λj h1=>jl⟩
   |cons a r=>simp only[vU] at h
 |succ n O=>
  refine⟨?_,?_⟩
  ·intro a v q c h;cases a with
   |so id=>
    simp only[sZ] at h;split at h
    ·rename_i e sz m get z;obtain⟨Q,rfl⟩:=c.so_inv;obtain⟨_,xs,hx,a1,A⟩:=E.obj id _ (P _ _ z);exact⟨_,h,Gw Y hx (λg R=>M id _ g z R) a1 A⟩
    ·cases h
   |sv id sz lo m=>
    simp only[sZ] at h;split at h
    ·rename_i e af N get z;split at h
     ·rename_i hs;have hs:af=sz:=by simpa using hs
      subst hs;obtain⟨Q,a7⟩:=c.sv_inv;obtain⟨_,xs,hx,a1,A⟩:=E.obj id _ (P _ _ z);exact⟨_,h,NZ Y a7 hx (λg R=>M id _ g z R) a1 A⟩
     ·cases h
    ·cases h
   |mo id=>
    simp only[sZ] at h;split at h
    ·rename_i m a8 val a4 a0 z;obtain⟨Q,rfl⟩:=c.mo_inv;obtain⟨_,es,L,U,ho,A⟩:=E.obj id _ (P _ _ z);exact⟨_,h,.rm _ _ _ _ es a0 (M id _ _ z rfl) L U ho (λi h1 h2=>D (A i h1 h2).1) (λi h1 h2=>D (A i h1 h2).2.1)⟩
    ·rename_i m a8 b1 a4 a0 a9 z;obtain⟨Q,rfl⟩:=c.mo_inv;obtain⟨_,ha,_,es,L,U,ho,ah,S,hd,b0,_⟩:=E.obj id _ (P _ _ z);have nn: ∀j:Nat,tO none j:=λj h e=>by cases e
     exact⟨_,h,.rm _ _ _ _ es a0 (M id _ _ z (.inl rfl)) L U ho (λi h1 h2=>D (ah i h1 h2).1) (λi h1 h2=>DS Y (S i h1 h2 (nn i)).2 λg R=>M id _ g z (.inr ⟨i,h1,nn i,by rw[<-(S i h1 h2 (nn i)).1];exact R⟩))⟩
    ·exact⟨_,h,.u _⟩
    ·cases h
   |p id x=>
    simp only[sZ] at h;split at h
    ·rename_i e K z;obtain⟨Q,rfl⟩:=c.p_inv;obtain⟨_,t,L,C,A⟩:=E.obj id _ (P _ _ z);obtain⟨m,h,H,G⟩:=O.2 K t _ C (λj h1 h2=>(A j h1 h2).1) h;obtain⟨a6,h⟩:=wJ h;refine⟨_,h,.rp _ (β.blk id) x (λj=>t.getD (x+j) undef) (M id _ _ z rfl) (cN.1 L).1 ?_ ?_ ?_⟩
     ·intro j hj;simp at hj;rw[cell_of_row w _ _ _ _ _ L];simp[bL (show x+j<t.length by omega)]
     ·intro j hj;simp at hj;have:=(A (x+j) J J).2;simpa [bL (show x+j<t.length by omega)] using this
     ·intro j hj;simp at hj;have:=G (x+j) J J;simpa [bL (show x+j<t.length by omega)] using this
    ·cases h
   |sc id x m a3=>
    simp only[sZ] at h;split at h
    ·rename_i e K z;obtain⟨Q,fc,a5,rfl⟩:=c.sc_inv;obtain⟨_,t,L,C,A⟩:=E.obj id _ (P _ _ z);obtain⟨W,h,H,G⟩:=O.2 K t _ C (λj h1 h2=>(A j h1 h2).1) h;obtain⟨a6,h⟩:=wJ h;split at h
     ·rename_i a2;have a2:a3<=(W.drop x).length:=by simpa using a2
      rw[iB] at a2;refine⟨_,h,.rs 1 m _ (β.blk id) x a3 (λk _=>t.getD (x+k) undef) fc a5 (M id _ _ z rfl) (cN.1 L).1 (λ_ _=>rfl) ?_ ?_ ?_⟩
      ·intro k j S hj;have:j=0:=J
       subst this;rw[cell_of_row w _ _ _ _ _ L];simp[bL (show x+k<t.length by omega)]
      ·intro k j S hj;have:=(A (x+k) J J).2;simpa [bL (show x+k<t.length by omega)] using this
      ·intro k j S hj;have eH:j=0:=jT
       subst eH;have:=G (x+k) J J;have e1:(W.drop x).getD k .u=W[x+k]'J:=by simp[bL (show x+k<W.length by omega)]
       show Rep0 Fa w ((W.drop x).getD k .u) _;rw[e1];simpa [bL (show x+k<t.length by omega)] using this
     ·cases h
    ·cases h
   |fn f K=>simp only[sZ] at h;obtain⟨t,rfl,C,A⟩:=c.fn_inv;obtain⟨m,h,H,G⟩:=O.2 K t _ C A h;exact⟨_,h,.fn f m t H G⟩
   |ag K=>simp only[sZ] at h;obtain⟨t,rfl,C,A⟩:=c.ag_inv;obtain⟨m,h,H,G⟩:=O.2 K t _ C A h;exact⟨_,h,.ag m t H G⟩
   |tup K=>simp only[sZ] at h;obtain⟨t,rfl,C,A⟩:=c.tup_inv;obtain⟨m,h,H,G⟩:=O.2 K t _ C A h;exact⟨_,h,.tup m t H G⟩
   |pe=>simp only[sZ] at h
   |rm=>simp only[sZ] at h;cases c with|pure _ _ c=>exact⟨_,h,D c⟩
   |b=>simp only[sZ] at h;cases c with|pure _ _ c=>exact⟨_,h,D c⟩
   |i=>simp only[sZ] at h;cases c with|pure _ _ c=>exact⟨_,h,D c⟩
   |s=>simp only[sZ] at h;cases c with|pure _ _ c=>exact⟨_,h,D c⟩
   |val=>simp only[sZ] at h;cases c with|pure _ _ c=>exact⟨_,h,D c⟩
   |u=>simp only[sZ] at h;cases c with|pure _ _ c=>exact⟨_,h,D c⟩
   |rs=>simp only[sZ] at h;cases c with|pure _ _ c=>exact⟨_,h,D c⟩
   |rp=>simp only[sZ] at h;cases c with|pure _ _ c=>exact⟨_,h,D c⟩
  ·intro l t q C c h;cases l with
   |nil=>simp only[vU] at h;exact⟨[],h,C,λj h1=>jl⟩
   |cons a r=>
    simp only[vU] at h;cases t with
    |nil=>simp at C
    |cons v t=>
     obtain⟨b,h,hb⟩:=O.1 a v _ (c 0 jS jS) h;obtain⟨m,h,H,G⟩:=O.2 r t _ (by simpa using C) (λj h1 h2=>c (j+1) (iA h1) (iA h2)) h;refine⟨b::m,h,by simp[H],λj h1 h2=> ?_⟩;cases j with
     |zero=>exact hb
     |succ j=>exact G j j1 j2
end
end Go.Eng
namespace Go.Eng
open Go.RowKit Go.MapKept
def Cc:Value->Bool
 | .map none=>true
 |_=>false
theorem qx {v:Value} (h:Cc v=true):v= .map none:=by
 unfold Cc at h;split at h
 ·rfl
 ·cases h
def eV:AV->AV->Prop
 | .rs h n g,b=>(match b with
  | .rs f e x=>f=h/\e=n/\ ∀k,k<n->x k=g k
  | .val v=>n=0/\m5 v=true
  |_=>False)
 | .rm n l val,b=>(match b with
  | .rm e w t=>e=n/\ ∀k,k<n->w k=l k/\t k=val k
  | .val v=>n=0/\Cc v=true
  |_=>False)
 | .sv id h z n,b=>(match b with
  | .sv id' f q e=>id'=id/\f=h/\q=z/\e=n
  |_=>False)
 | .b c,b=>(match b with
  | .b d=>d=c
  |_=>False)
 | .i k n,b=>(match b with
  | .i j m=>j=k/\m=n
  |_=>False)
 | .u,_=>True
 |a,b=>b=a
theorem eV.refl (x:AV):eV x x:=by cases x<;>simp[eV]
theorem eV.rep0 {F:Nat->Prop} {w:World} {x y:AV} {v:Value} (h:eV x y) (f:Rep0 F w y v):Rep0 F w x v:=by
 cases x with
 |rs P n g=>
  cases y<;>simp only[eV] at h<;>first|exact h.elim|skip
  ·obtain⟨rfl,t⟩:=h;cases f;rw[iX t];exact .rsnil _ _
  obtain⟨rfl,rfl,q⟩:=h;cases f with
  |rsnil=>exact .rsnil _ _
  |rsz _ _ a=>exact .rsz _ _ a
  |rs _ _ _ b o c Q D N A C G L l H=>
   exact .rs _ _ _ b o c Q D N A C (λk e=>by rw[<-q k e];exact G k e) L l (λk j e M=>by
    have:=H k j e (by rw[q k e];exact M);simpa only[q k e] using this)
 |rm n R val=>
  cases y<;>simp only[eV] at h<;>first|exact h.elim|skip
  ·obtain⟨rfl,t⟩:=h;cases f;rw[qx t];exact .rmnil _ _
  obtain⟨rfl,q⟩:=h;cases f with
  |rmnil=>exact .rmnil _ _
  |rm _ _ _ g K E A C D O e t=>exact .rm _ _ _ g K E A C D O (λi l z=>by rw[<-(q i l).1];exact e i l z) (λi l z=>by rw[<-(q i l).2];exact t i l z)
 |sv id P S n=>
  cases y<;>simp only[eV] at h<;>first|exact h.elim|skip
  obtain⟨rfl,rfl,rfl,rfl⟩:=h;exact f
 |b c=>
  cases y<;>simp only[eV] at h<;>first|exact h.elim|skip
  subst h;exact f
 |i k n=>
  cases y<;>simp only[eV] at h<;>first|exact h.elim|skip
  obtain⟨rfl,rfl⟩:=h;exact f
 |u=>exact .u _
 |_=>simp only[eV] at h;subst h;exact f
theorem eV.rep {β:Bd} {n:Nat} {F:Nat->Prop} {w:World} {x y:AV} {v:Value} (h:eV x y) (a:Rep β n F w y v):Rep β n F w x v:=by
 cases x with
 |rs f m g=>
  have e:=h;cases y<;>simp only[eV] at h<;>first|exact h.elim|skip
  ·rw[a.val_inv];exact .pure _ _ (eV.rep0 e (.val _))
  exact .pure _ _ (eV.rep0 e a.rs_inv)
 |rm m j val=>
  have e:=h;cases y<;>simp only[eV] at h<;>first|exact h.elim|skip
  ·rw[a.val_inv];exact .pure _ _ (eV.rep0 e (.val _))
  exact .pure _ _ (eV.rep0 e a.rm_inv)
 |sv id f l m=>
  cases y<;>simp only[eV] at h<;>first|exact h.elim|skip
  obtain⟨rfl,rfl,rfl,rfl⟩:=h;exact a
 |b c=>
  cases y<;>simp only[eV] at h<;>first|exact h.elim|skip
  subst h;exact a
 |i k n=>
  cases y<;>simp only[eV] at h<;>first|exact h.elim|skip
  obtain⟨rfl,rfl⟩:=h;exact a
 |u=>exact .pure _ _ (.u _)
 |_=>simp only[eV] at h;subst h;exact a
def v9 (T:List (Nat×TI)) (kt n:Nat) (a:Nat->AV):Prop:= ∀i,i<n->uH T kt (a i)=true
def k4 (n:Nat) (a val:Nat->AV) (k v z:AV) (c:Bool):Prop:=
 (c=true-> ∃i,i<n/\a i=k/\eV v (val i))/\(c=false->(∀i,i<n->a i≠k)/\eV v z)
def yh (n:Nat) (a val:Nat->AV) (born:Nat->Nat) (e:Nat) (k v:AV) (l:Nat) (g f:Nat->AV) (c:Nat->Nat) (h:Nat):Prop:=
 (∃i,i<n/\a i=k/\l=n/\h=e/\ ∀j,j<n->g j=a j/\c j=born j/\f j=if j=i then v else val j)\/
 ((∀i,i<n->a i≠k)/\l=n+1/\h=e+1/\(∀j,j<n->g j=a j/\c j=born j/\f j=val j)/\g n=k/\f n=v/\c n=e)
def DT (n:Nat) (a val:Nat->AV) (born:Nat->Nat) (k:AV) (c:Nat) (g f:Nat->AV) (e:Nat->Nat):Prop:=
 (∃i,i<n/\a i=k/\n=c+1/\ ∀j,j<c->g j=a (if j<i then j else j+1)/\e j=born (if j<i then j else j+1)/\f j=val (if j<i then j else j+1))\/
 ((∀i,i<n->a i≠k)/\c=n/\ ∀j,j<n->g j=a j/\e j=born j/\f j=val j)
section
variable {P : Program} {β : Bd} {nid : Nat} {F : Nat -> Prop} {w : World} {lk : Nat -> Option AO} {k : Eff -> Prop}
def DU (lk:Nat->Option AO) (a:AV) (k:Nat->(Nat->AV)->(Nat->AV)->Prop):Prop:=
 match a with
 | .rm n c val=>k n c val
 | .mo id=>(match lk id with
  |some (.mp n c val _ _)=>k n c val
  |_=>False)
 | .val v=>(match Cc v with
  |true=>k 0 (λ_=> .u) (λ_=> .u)
  |false=>False)
 |_=>False
structure MapIs (F:Nat->Prop) (w:World) (v:Value) (n:Nat) (key val:Nat->AV):Prop where
 is:(v= .map none/\n=0)\/ ∃g es clock,v= .map (some g)/\w.heap[g]? =some (.map es clock)/\es.size=n/\MapOk es clock/\
  ∀(i:Nat) (_:i<n) (h2:i<es.size),Rep0 F w (key i) es[i].key/\Rep0 F w (val i) es[i].val
theorem No (E:Env β nid F w lk) {a:AV} {v:Value} {q:Nat->(Nat->AV)->(Nat->AV)->Prop} (t:Rep β nid F w a v) (h:DU lk a q): ∃n x val,q n x val/\MapIs F w v n x val:=by
 unfold DU at h;split at h
 ·refine⟨_,_,_,h,⟨?_⟩⟩;have C:=t.rm_inv;cases C with
  |rmnil=>exact .inl nT
  |rm _ _ _ g j A M H f l L D=>exact .inr ⟨g,j,A,rfl,H,f,l,λi c e=>⟨L i c e,D i c e⟩⟩
 ·split at h
  ·rename_i G;refine⟨_,_,_,h,⟨?_⟩⟩;obtain⟨_,rfl⟩:=t.mo_inv;obtain⟨_,j,K,f,l,z⟩:=E.obj _ _ G;exact .inr ⟨_,j,_,rfl,K,f,l,λi c e=>⟨(z i c e).1,(z i c e).2.1⟩⟩
  ·cases h
 ·split at h
  ·rename_i f;refine⟨_,_,_,h,⟨?_⟩⟩;obtain rfl:=t.val_inv;exact .inl ⟨qx f,rfl⟩
  ·cases h
 ·cases h
theorem N0 {T:List (Nat×TI)} (f:iM P T) {kt n:Nat} {c:Nat->AV} (g:v9 T kt n c) {a:Array MapEntry} (t:a.size=n) (h: ∀(i:Nat) (_:i<n) (q:i<a.size),Rep0 F w (c i) a[i].key):
  ∀x∈a.toList,KV P kt x.key:=by
 intro x l;obtain⟨j,hj,rfl⟩:=cU l;have e:j<a.size:=jT
 have:=wK f (g j J) (h j J e);simpa using this
def I7 (h:Option Prop) (T:List (Nat×TI)) (lk:Nat->Option AO) (t:Nat) (a f:AV) (ok:Bool) (k:Eff->Prop):Prop:=
 match lF t T with
 |some l=>(match ww l.desc with
  |some (kt,g)=>(match lF g T with
   |some j=>DU lk a λn e val=> ∃c v,ob h (v9 T kt n e/\uH T kt f=true/\k4 n e val f v (wu j.zero) c) (match ok with
    |true=>k (.ext [] (.tup [v,.b c]))
    |false=>k (.ext [] v))
   |none=>False)
  |none=>False)
 |none=>False
theorem I8 {gc:Option Prop} (am: ∀c,gc=some c->c) (E:Env β nid F w lk) {T:List (Nat×TI)} (M:iM P T) {t:Nat} {a U:AV} {ok:Bool} {u v:Value} (hu:Rep β nid F w a u) (hv:Rep β nid F w U v)
  (h:I7 gc T lk t a U ok k): ∃x,(Instr.lookup t u v ok).run P w= .ok x w/\ ∃r,k (.ext [] r)/\Rep β nid F w r x:=by
 unfold I7 at h;split at h
 ·rename_i ti q;split at h
  ·rename_i kt et z;split at h
   ·rename_i W h3;obtain⟨n,a7,val,⟨c,r,h⟩,hm⟩:=No E hu h;obtain⟨⟨N,H,A⟩,aR⟩:=kS h am;have K:=hv.toPure (xV H);have D:=wK M H K;obtain⟨L,_⟩:=M.get q;obtain⟨_,_,i,f,_,_,hz⟩:=M.get h3;cases hd:ti.desc<;>simp[ww,hd] at z;rename_i a8 fe;obtain⟨rfl,rfl⟩:=z;rw[hd] at L;have bA:(zeroValue fe).run P w= .ok W.zero w:=by simp[zeroValue,typeInfo,f,hz]
    have a2: ∃x,Rep0 F w r x/\(Instr.lookup t u v ok).run P w= .ok (if ok then .tuple #[x,.bool c] else x) w:=by
     rcases hm.is with ⟨rfl,rfl⟩|⟨g,l,a9,rfl,hg,hn,ho,G⟩
     ·have S:c=false:=by
       cases c with
       |false=>rfl
       |true=>obtain⟨i,f,_⟩:=A.1 rfl;omega
      subst S;refine⟨W.zero,(A.2 rfl).2.rep0 (z7 _),?_⟩;have C:(Instr.findKey a8 v []).run P w= .ok none w:=by
       rcases rF (w:=w) D [] jS with ⟨q,_⟩|⟨j,e,_,z,_⟩
       ·exact q
       ·simp at z
      simp[Instr.lookup,run_underlying L,kY true D,C,bA]
     ·have a1:=N0 M N hn (λi q z=>(G i q z).1);rcases rF (w:=w) D l.toList a1 with ⟨C,a5⟩|⟨j,e,C,he,a0⟩
      ·have S:c=false:=by
        cases c with
        |false=>rfl
        |true=>
         obtain⟨i,f,Q,_⟩:=A.1 rfl;have hi2:i<l.size:=J
         have:=(pR (N i f) H (G i f hi2).1 K).1 Q;exact absurd this (a5 _ jS)
       subst S;refine⟨W.zero,(A.2 rfl).2.rep0 (z7 _),?_⟩;simp[Instr.lookup,run_underlying L,Go.MapKept.run_getObj_map hg,kY l.isEmpty D,C,bA]
      ·have hj2:j<l.size:=(by simpa using(bM.1 he).1);have O:l[j]=e:=by have:=(bM.1 he).2;simpa using this
       have R:j<n:=J;have bC:a7 j=U:=(pR (N j R) H (G j R hj2).1 K).2 (by rw[O];exact a0);have a3:c=true:=by
        cases c with
        |true=>rfl
        |false=>exact absurd bC ((A.2 rfl).1 j R)
       subst a3;obtain⟨i,f,Q,a6⟩:=A.1 rfl;have a4:i=j:=by
        have hi2:i<l.size:=J;have e1:=(pR (N i f) H (G i f hi2).1 K).1 Q;have e2:l[j].key=v:=by rw[O];exact a0
        rcases kL i j with h|h|h
        ·exact mf
        ·exact h
        ·exact mg
       subst a4;refine⟨e.val,a6.rep0 (by rw[<-O];exact(G i f hj2).2),?_⟩;simp[Instr.lookup,run_underlying L,Go.MapKept.run_getObj_map hg,kY l.isEmpty D,C]
    obtain⟨x,hx,Y⟩:=a2;cases ok with
    |true=>
     refine⟨_,Y,_,aR,.pure _ _ (.tup [r,.b c] [x,.bool c] rfl λj q z=> ?_)⟩
     match j,q with
     |0,_=>exact hx
     |1,_=>exact .b c
    |false=>exact⟨_,Y,_,aR,.pure _ _ hx⟩
   ·cases h
  ·cases h
 ·cases h
def gf:KD->Nat->AV
 | .row _ _ _ _,h=> .so h
 | .cells _ _,h=> .p h 0
theorem DV {β:Bd} {n:Nat} {F:Nat->Prop} {w:World} {a:KD} {h:Nat} (c:h<n) (e:(xM β a h).oneCell'=true):Rep β n F w (gf a h) (xM β a h):=by
 cases a with
 |row=>exact .so h c e
 |cells=>exact .p h 0 c
theorem DW {β:Bd} {n:Nat} {F:Nat->Prop} {w:World} {a:KD} {h:Nat} {v:Value} (c:Rep β n F w (gf a h) v):h<n/\v=xM β a h:=by
 cases a with
 |row=>exact c.so_inv
 |cells=>exact c.p_inv
theorem Rep.kid_one {β:Bd} {n:Nat} {F:Nat->Prop} {w:World} {c:KD} {h:Nat} {v:Value} (a:Rep β n F w (gf c h) v):v.oneCell'=true:=by
 cases c with
 |row=>
  cases a with
  |pure _ _ h=>cases h
  |so _ _ e=>exact e
 |cells=>rw[a.p_inv.2];rfl
def oz (g:Option Prop) (T:List (Nat×TI)) (t:Nat) (n:Nat) (a:Nat->AV) (f:Nat->KD) (l:Option (Nat×Nat)) (e:AV) (ok:Bool) (k:Eff->Prop):Prop:=
 match lF t T with
 |some w=>(match ww w.desc with
  |some (kt,q)=>(match lF q T with
   |some j=> ∃c:Bool,(match c with
    |true=>(match l with
     |some (i,h)=>ob g (v9 T kt n a/\uH T kt e=true/\a i=e) (match ok with
      |true=>k (.ext [] (.tup [gf (f i) h,.b true]))
      |false=>k (.ext [] (gf (f i) h)))
     |none=>False)
    |false=>ob g (v9 T kt n a/\uH T kt e=true/\ ∀i,i<n->a i≠e) (match ok with
      |true=>k (.ext [] (.tup [wu j.zero,.b false]))
      |false=>k (.ext [] (wu j.zero))))
   |none=>False)
  |none=>False)
 |none=>False
theorem xc {gc:Option Prop} (am: ∀c,gc=some c->c) (E:Env β nid F w lk) {T:List (Nat×TI)} (C:iM P T) {t id:Nat} {ix:AV} {ok:Bool} {v:Value} {n:Nat} {a6:Nat->AV} {l:Nat->KD} {born:Nat->Nat} {a7 a8:Nat} {Y:Option (Nat×Nat)}
  (ae:lk id=some (.mr n a6 l born a7 a8 Y)) (hv:Rep β nid F w ix v)
  (h:oz gc T t n a6 l Y ix ok k): ∃x,(Instr.lookup t (.map (some (β.blk id))) v ok).run P w= .ok x w/\ ∃r,k (.ext [] r)/\Rep β nid F w r x:=by
 obtain⟨_,ha,bv,f,hg,hn,ho,U,_,_,_,co⟩:=E.obj id _ ae;unfold oz at h;split at h
 ·rename_i ti g;split at h
  ·rename_i kt et z;split at h
   ·rename_i O h3;obtain⟨aF,_⟩:=C.get g;obtain⟨_,_,i,hi,_,_,hz⟩:=C.get h3;cases hd:ti.desc<;>simp[ww,hd] at z;rename_i b3 fe;obtain⟨rfl,rfl⟩:=z;rw[hd] at aF;have bA:(zeroValue fe).run P w= .ok O.zero w:=by simp[zeroValue,typeInfo,hi,hz]
    obtain⟨c,h⟩:=h;cases c with
    |true=>
     rcases Y with _|⟨a,q⟩
     ·cases h
     ·dsimp only at h;obtain⟨⟨N,A,aU⟩,L⟩:=kS h am;have K:=hv.toPure (xV A);have H:=wK C A K;have W:=N0 C N hn (λi g z=>(U i g z).1);obtain⟨b0,a5⟩:=bv a q rfl;have Q:a<f.size:=J
      obtain⟨a4,a9⟩:=co a q rfl Q;have a1:=(pR (N a a5) A (U a a5 Q).1 K).1 aU;rcases rF (w:=w) H f.toList W with ⟨D,a2⟩|⟨j,e,D,M,a0⟩
      ·exact absurd a1 (a2 _ jS)
      ·have R:j<f.size:=(by simpa using(bM.1 M).1);have S:f[j]=e:=by have:=(bM.1 M).2;simpa using this
       have b1:a=j:=by
        have e2:f[j].key=v:=by rw[S];exact a0
        rcases kL a j with h|h|h
        ·exact absurd (a1.trans e2.symm) (ho.one a j h Q R)
        ·exact h
        ·exact absurd (e2.trans a1.symm) (ho.one j a h R Q)
       subst b1;have G:(Instr.lookup t (.map (some (β.blk id))) v ok).run P w= .ok (if ok then .tuple #[xM β (l a) q,.bool true] else xM β (l a) q) w:=by rw[<-a4,S];simp[Instr.lookup,run_underlying aF,Go.MapKept.run_getObj_map hg,kY f.isEmpty H,D]
       have a3:Rep β nid F w (gf (l a) q) (xM β (l a) q):=DV b0 (by rw[<-a4];exact a9);cases ok with
       |true=>
        refine⟨_,G,_,L,.tup [gf (l a) q,.b true] [xM β (l a) q,.bool true] rfl λj g z=> ?_⟩
        match j,g with
        |0,_=>exact a3
        |1,_=>exact .pure _ _ (.b true)
       |false=>exact⟨_,G,_,L,a3⟩
    |false=>
     dsimp only at h;obtain⟨⟨N,A,a2⟩,L⟩:=kS h am;have K:=hv.toPure (xV A);have H:=wK C A K;have W:=N0 C N hn (λi g z=>(U i g z).1);rcases rF (w:=w) H f.toList W with ⟨D,_⟩|⟨j,e,D,M,a0⟩
     ·have G:(Instr.lookup t (.map (some (β.blk id))) v ok).run P w= .ok (if ok then .tuple #[O.zero,.bool false] else O.zero) w:=(by simp[Instr.lookup,run_underlying aF,Go.MapKept.run_getObj_map hg,kY f.isEmpty H,D,bA]);cases ok with
      |true=>
       refine⟨_,G,_,L,.pure _ _ (.tup [wu O.zero,.b false] [O.zero,.bool false] rfl λj g z=> ?_)⟩
       match j,g with
       |0,_=>exact z7 _
       |1,_=>exact .b false
      |false=>exact⟨_,G,_,L,.pure _ _ (z7 _)⟩
     ·have R:j<f.size:=(by simpa using(bM.1 M).1);have S:f[j]=e:=by have:=(bM.1 M).2;simpa using this
      have bB:j<n:=J;exact absurd ((pR (N j bB) A (U j bB R).1 K).2 (by rw[S];exact a0)) (a2 j bB)
   ·cases h
  ·cases h
 ·cases h
def pa (c:Option Prop) (T:List (Nat×TI)) (lk:Nat->Option AO) (t:Nat) (a e:AV) (ok:Bool) (k:Eff->Prop):Prop:=
 match a with
 | .mo id=>(match lk id with
  |some (.mr n g h _ _ _ f)=>oz c T t n g h f e ok k
  |_=>I7 c T lk t (.mo id) e ok k)
 |a=>I7 c T lk t a e ok k
theorem xd {l:Option Prop} (e: ∀c,l=some c->c) (E:Env β nid F w lk) {T:List (Nat×TI)} (f:iM P T) {t:Nat} {a n:AV} {ok:Bool} {u v:Value} (g:Rep β nid F w a u) (j:Rep β nid F w n v)
  (h:pa l T lk t a n ok k): ∃x,(Instr.lookup t u v ok).run P w= .ok x w/\ ∃r,k (.ext [] r)/\Rep β nid F w r x:=by
 unfold pa at h;split at h
 ·split at h
  ·rename_i q;rw[g.mo_inv.2];exact xc e E f q j h
  ·exact I8 e E f g j h
 ·exact I8 e E f g j h
def Gx (nid:Nat) (k:Eff->Prop):Prop:=k (.ext [.mp 0 (λ_=> .u) (λ_=> .u) (λ_=>0) 0] (.mo nid))
theorem I9:MapOk #[] 0:=⟨λi j _ h1=>jl,λi h=>jh,λi j _ h1=>jl⟩
theorem qy (t:TypeId) (h:Gx nid k): ∃x w',(Instr.makeMap t none).run P w= .ok x w'/\rU β nid F lk w k x w':=by
 refine⟨.map (some w.heap.size),w.alloc (.map #[] 0),by simp[Instr.makeMap],_,β.blkAt nid w.heap.size,h,.blk _ _ _ _ (λ_=>rfl) (λe=> ?_) (λa=> ?_)⟩
 ·exact⟨#[],by rw[show(β.blkAt nid w.heap.size).blk nid=w.heap.size by simp[Bd.blkAt]];exact heap_alloc_new w _,rfl,I9,λi c=>J⟩
 ·have:=Rep.mo (β:=β.blkAt nid w.heap.size) (n:=nid+1) (F:=FX F (β.blkAt nid w.heap.size) nid [.mp 0 (λ_=> .u) (λ_=> .u) (λ_=>0) 0]) (w:=w.alloc (.map #[] 0)) nid J;rw[a] at this;exact this
def Y0 (x:Option Prop) (T:List (Nat×TI)) (lk:Nat->Option AO) (t:Nat) (a kx l:AV) (k:Eff->Prop):Prop:=
 match lF t T,a with
 |some z,.mo id=>(match ww z.desc,lk id with
  |some (kt,_),some (.mp n e val w q)=>(match AV.lt 0 l with
   |true=> ∃j h f c g,ob x (v9 T kt n e/\uH T kt kx=true/\yh n e val w q kx l j h f c g) (k (.set id (.mp j h f c g) .u))
   |false=>False)
  |_,_=>False)
 |_,_=>False
theorem vV (w:World) (g:Nat) (o:Obj) (a:Nat) (h:a≠g):({w with heap:=w.heap.setIfInBounds g o}:World).heap[a]? =w.heap[a]? :=by simp[iS h]
theorem vW (w:World) (g:Nat) (o:Obj) (h:g<w.heap.size):({w with heap:=w.heap.setIfInBounds g o}:World).heap[g]? =some o:=by simp[h]
theorem J0 {gc:Option Prop} (am: ∀c,gc=some c->c) (E:Env β nid F w lk) {T:List (Nat×TI)} (hT:iM P T) {t:Nat} {a kx vx:AV} {u v x:Value} (hu:Rep β nid F w a u) (hv:Rep β nid F w kx v) (hx:Rep β nid F w vx x)
  (h:Y0 gc T lk t a kx vx k): ∃w',(Instr.mapUpdate t u v x).run P w= .ok () w'/\rU β nid F lk w k undef w':=by
 unfold Y0 at h;split at h
 ·rename_i ti id h1;split at h
  ·rename_i kt et n l val a3 O h2 M;split at h
   ·rename_i aV;obtain⟨n',ay,aK,a9,an,h⟩:=h;obtain⟨⟨N,H,cJ⟩,aR⟩:=kS h am;have D:=hv.toPure (xV H);have a2:=hx.toPure aV;have hkv:=wK hT H D;obtain⟨aF,_⟩:=hT.get h1;cases hd:ti.desc<;>simp[ww,hd] at h2;obtain⟨rfl,rfl⟩:=h2;rw[hd] at aF;obtain⟨b0,rfl⟩:=hu.mo_inv;obtain⟨_,es,hh,f,ho,A⟩:=E.obj id _ M;have hF:=E.own id _ (β.blk id) M rfl;have a1:=(cN.1 hh).1;have a4:=N0 hT N f (λi h1 h2=>(A i h1 h2).1);have hold: ∀(o:Obj) z,z<w.heap.size-> ¬F z->({w with heap:=w.heap.setIfInBounds (β.blk id) o}:World).heap[z]? =w.heap[z]? :=λo z _ f=>vV w _ o z (λe=>f (by rw[e];exact hF));have a0: ∀o:Obj,GrownBy w {w with heap:=w.heap.setIfInBounds (β.blk id) o} (some (β.blk id)):=λo=>qX;rcases rF (w:=w) hkv es.toList a4 with ⟨hfind,hno⟩|⟨j,e,hfind,he,K⟩
    ·have eI: ∀i,i<n->l i≠kx:=λi hi G=>by have hi2:i<es.size:=J;exact hno _ jS ((pR (N i hi) H (A i hi hi2).1 D).1 G)
     rcases cJ with ⟨i,hi,G,_⟩|⟨_,rfl,rfl,Q,aZ,a8,a5⟩
     ·exact absurd G (eI i hi)
     ·refine⟨{w with heap:=w.heap.setIfInBounds (β.blk id) (.map (es.push {key:=v,val:=x,born:=O}) (O+1))},?_,_,β,aR,rfl,_,M,a0 _,rfl,⟨_,vW w _ _ a1,by simp[f],?_,?_⟩,.pure _ _ (.u _)⟩
      ·exact nA
      ·exact mI
      ·intro i hi h2;simp at h2;by_cases a7:i=n
       ·subst a7;simp only[fX,f,oB,tX];rw[aZ,a8,a5];exact⟨D.stable (λ_ _ f=>f) (hold _) jS,a2.stable (λ_ _ f=>f) (hold _) jS,rfl⟩
       ·have dK:i<es.size:=J;obtain⟨e1,e2,S⟩:=Q i J;simp only[fX,dK,tT];rw[e1,e2,S];obtain⟨U,W,Y⟩:=A i J dK;exact⟨U.stable (λ_ _ f=>f) (hold _) jS,W.stable (λ_ _ f=>f) (hold _) jS,Y⟩
    ·have hj2:j<es.size:=(by simpa using(bM.1 he).1);have L:es[j]=e:=by have:=(bM.1 he).2;simpa using this
     have R:j<n:=J;have bC:l j=kx:=(pR (N j R) H (A j R hj2).1 D).2 (by rw[L];exact K);rcases cJ with ⟨i,hi,G,du,a6,Q⟩|⟨hno,_⟩
     ·obtain rfl:=du.symm;obtain rfl:=a6.symm;have hij:i=j:=by
       have hi2:i<es.size:=J;have e1:=(pR (N i hi) H (A i hi hi2).1 D).1 G;have e2:es[j].key=v:=by rw[L];exact K
       rcases kL i j with h|h|h
       ·exact mf
       ·exact h
       ·exact mg
      subst hij;have ah:((es[i]?).map (·.key)).getD v=v:=by rw[fS hj2,L];simpa using K
      have hget: ∀(q:Nat) (h:q<(es.modify i λe=>{e with key:=v,val:=x}).size) (h':q<es.size),(es.modify i λe=>{e with key:=v,val:=x})[q]={es[q] with val:=if q=i then x else es[q].val}:=by
       intro q h h';rw[tY];by_cases C:i=q
       ·subst C;rw[L];simp[K]
       ·simp[C,iS C]
      refine⟨{w with heap:=w.heap.setIfInBounds (β.blk id) (.map (es.modify i λe=>{e with key:=v,val:=x}) O)},?_,_,β,aR,rfl,_,M,a0 _,rfl,⟨_,vW w _ _ a1,by simp[f],?_,?_⟩,.pure _ _ (.u _)⟩
      ·simp[Instr.mapUpdate,run_underlying aF,Go.MapKept.run_getObj_map hh,kY false hkv,hfind,Go.MapKept.run_setObj_map _ hh,ah,Instr.keyThatStays,I4 hkv]
      ·exact mR
      ·intro q C h2;simp at h2;rw[hget q _ h2];obtain⟨e1,e2,S⟩:=Q q C;rw[e1,e2,S];obtain⟨U,W,Y⟩:=A q C h2;refine⟨U.stable (λ_ _ f=>f) (hold _) jS,?_,Y⟩;dsimp only;split
       ·exact a2.stable (λ_ _ f=>f) (hold _) jS
       ·exact W.stable (λ_ _ f=>f) (hold _) jS
     ·exact absurd bC (hno j R)
   ·cases h
  ·cases h
 ·cases h
def aEc (n:Nat) (a:Nat->AV) (born:Nat->Nat) (e:Nat) (g:Option (Nat×Nat)) (k:AV) (l:Nat) (f:Nat->AV) (c:Nat->Nat) (h i:Nat):Prop:=
 ((∃q,g=some (i,q))/\a i=k/\l=n/\h=e/\ ∀j,j<n->f j=a j/\c j=born j)\/
 (g=none/\(∀j,j<n->a j≠k)/\i=n/\l=n+1/\h=e+1/\(∀j,j<n->f j=a j/\c j=born j)/\f n=k/\c n=e)
def aAx:AV->Option Nat
 | .so h=>some h
 | .p h 0=>some h
 |_=>none
def Cd (z:Option Prop) (T:List (Nat×TI)) (t id:Nat) (n:Nat) (c:Nat->AV) (e:Nat->KD) (born:Nat->Nat) (q x:Nat) (w:Option (Nat×Nat)) (kx l:AV) (k:Eff->Prop):Prop:=
 match lF t T,aAx l with
 |some A,some h=>(match ww A.desc with
  |some (kt,_)=> ∃j g a f i,ob z (v9 T kt n c/\uH T kt kx=true/\l=gf (e i) h/\aEc n c born q w kx j g a f i) (k (.set id (.mr j g e a f x (some (i,h))) .u))
  |none=>False)
 |_,_=>False
theorem xe {gc:Option Prop} (am: ∀c,gc=some c->c) (E:Env β nid F w lk) {T:List (Nat×TI)} (hT:iM P T) {t id:Nat} {kx vx:AV} {v x:Value} {n:Nat} {A:Nat->AV} {a2:Nat->KD} {born:Nat->Nat} {K a4:Nat} {a1:Option (Nat×Nat)}
  (W:lk id=some (.mr n A a2 born K a4 a1)) (hv:Rep β nid F w kx v) (hx:Rep β nid F w vx x)
  (h:Cd gc T t id n A a2 born K a4 a1 kx vx k): ∃w',(Instr.mapUpdate t (.map (some (β.blk id))) v x).run P w= .ok () w'/\rU β nid F lk w k undef w':=by
 obtain⟨_,ha,bv,es,hh,f,ho,D,a0,hd,hne,co⟩:=E.obj id _ W;have hF:=E.own id _ (β.blk id) W (.inl rfl);have a7:=(cN.1 hh).1;have hold: ∀(o:Obj) G,G<w.heap.size-> ¬F G->({w with heap:=w.heap.setIfInBounds (β.blk id) o}:World).heap[G]? =w.heap[G]? :=λo G _ f=>vV w _ o G (λe=>f (by rw[e];exact hF));have a3: ∀o:Obj,GrownBy w {w with heap:=w.heap.setIfInBounds (β.blk id) o} (some (β.blk id)):=λo=>qX;unfold Cd at h;split at h
 ·rename_i ti M h1 b8;split at h
  ·rename_i kt et h2;obtain⟨n',ay,b6,an,i,h⟩:=h;obtain⟨⟨Y,R,b5,cJ⟩,aR⟩:=kS h am;rw[b5] at hx;obtain⟨b7,dw⟩:=DW hx;have a8:=hx.kid_one;have L:=hv.toPure (xV R);have hkv:=wK hT R L;obtain⟨aF,_⟩:=hT.get h1;cases dt:ti.desc<;>simp[ww,dt] at h2;obtain⟨rfl,rfl⟩:=h2;rw[dt] at aF;have b0:=N0 hT Y f (λi h1 h2=>(D i h1 h2).1);have a6: ∀(o:Obj) j (hj:j<n) (hj2:j<es.size),tO a1 j->xD F {w with heap:=w.heap.setIfInBounds (β.blk id) o} es[j].val (a2 j):=λo j hj hj2 hno=>by obtain⟨e1,e2⟩:=a0 j hj hj2 hno;refine e2.stable (λ_ _ f=>f) (hold o) jS λg hg=>vV w _ o g λe=> ?_;refine hne j j hj hj hno ?_;rw[<-e1,hg,e]
   rcases rF (w:=w) hkv es.toList b0 with ⟨hfind,hno⟩|⟨j,e,hfind,he,S⟩
   ·have eI: ∀i,i<n->A i≠kx:=λi hi N=>by have hi2:i<es.size:=J;exact hno _ jS ((pR (Y i hi) R (D i hi hi2).1 L).1 N)
    rcases cJ with ⟨⟨Q,e0⟩,N,_⟩|⟨rfl,_,rfl,rfl,rfl,aA,aZ,b1⟩
    ·exact absurd N (eI i (bv i Q e0).2)
    ·have l: ∀j,j<i+1->tO (some (i,M)) j->j<i:=λj hj hno=>by
      rcases kM j i with h|h
      ·exact h
      ·have:j=i:=J;subst this;exact absurd rfl (hno M)
     have H: ∀j:Nat,tO none j:=λj h e=>by cases e
     refine⟨{w with heap:=w.heap.setIfInBounds (β.blk id) (.map (es.push {key:=v,val:=x,born:=K}) (K+1))},?_,_,β,aR,rfl,_,W,a3 _,?_,⟨ha,λq h e=> ?_,_,vW w _ _ a7,by simp[f],?_,?_,?_,?_,?_,?_⟩,.pure _ _ (.u _)⟩
     ·exact nA
     ·simp only[dG]
      funext g
      refine propext ⟨?_,?_⟩
      ·rintro(h|⟨j,h1,h2,a⟩)
       ·exact .inl h
       ·exact .inr ⟨j,l j h1 h2,H j,a⟩
      ·rintro(h|⟨j,h1,_,a⟩)
       ·exact .inl h
       ·exact .inr ⟨j,J,λh e=>by simp only[dT,iF] at e;omega,a⟩
     ·simp only[dT,iF] at e;exact⟨J,J⟩
     ·exact mI
     ·intro j hj h2;simp at h2;by_cases b4:j=i
      ·subst b4;simp only[fX,f,oB,tX];rw[aZ,b1];exact⟨L.stable (λ_ _ f=>f) (hold _) jS,rfl⟩
      ·have hj':j<es.size:=J;obtain⟨e1,e2⟩:=aA j J;simp only[fX,hj',tT];rw[e1,e2];obtain⟨a,C⟩:=D j J hj';exact⟨a.stable (λ_ _ f=>f) (hold _) jS,C⟩
     ·intro j hj h2 O;have a5:=l j hj O;have hj':j<es.size:=J
      simp only[fX,hj',tT];exact⟨(a0 j a5 hj' (H j)).1,a6 _ j a5 hj' (H j)⟩
     ·exact λp q g h1 h2 a C=>hd p q g (l p h1 a) (l q h2 C) (H p) (H q)
     ·exact λp q h1 h2 a=>hne p p (l p h1 a) (l p h1 a) (H p)
     ·intro q h e h2;simp only[dT,iF] at e;obtain⟨rfl,rfl⟩:=e;simp only[fX,f,oB,tX];exact⟨dw,a8⟩
   ·have hj2:j<es.size:=(by simpa using(bM.1 he).1);have U:es[j]=e:=by have:=(bM.1 he).2;simpa using this
    have bB:j<n:=J;have bC:A j=kx:=(pR (Y j bB) R (D j bB hj2).1 L).2 (by rw[U];exact S);rcases cJ with ⟨⟨Q,e0⟩,N,du,b3,aA⟩|⟨_,hno,_⟩
    ·obtain rfl:=du.symm;obtain rfl:=b3.symm;subst e0;have hi:=(bv i Q rfl).2;have hij:i=j:=by
      have hi2:i<es.size:=J;have e1:=(pR (Y i hi) R (D i hi hi2).1 L).1 N;have e2:es[j].key=v:=by rw[U];exact S
      rcases kL i j with h|h|h
      ·exact mf
      ·exact h
      ·exact mg
     subst hij;have l: ∀q,tO (some (i,M)) q↔tO (some (i,Q)) q:=λq=>by
      unfold tO;constructor
      ·intro hh h e;simp only[dT,iF] at e;exact hh M (by rw[e.1])
      ·intro hh h e;simp only[dT,iF] at e;exact hh Q (by rw[e.1])
     have a9:((es[i]?).map (·.key)).getD v=v:=by rw[fS hj2,U];simpa using S
     have hget: ∀(q:Nat) (h:q<(es.modify i λe=>{e with key:=v,val:=x}).size) (h':q<es.size),(es.modify i λe=>{e with key:=v,val:=x})[q]={es[q] with val:=if q=i then x else es[q].val}:=by
      intro q h h';rw[tY];by_cases z:i=q
      ·subst z;rw[U];simp[S]
      ·simp[z,iS z]
     refine⟨{w with heap:=w.heap.setIfInBounds (β.blk id) (.map (es.modify i λe=>{e with key:=v,val:=x}) K)},?_,_,β,aR,rfl,_,W,a3 _,?_,⟨ha,λq h e=> ?_,_,vW w _ _ a7,by simp[f],?_,?_,?_,?_,?_,?_⟩,.pure _ _ (.u _)⟩
     ·simp[Instr.mapUpdate,run_underlying aF,Go.MapKept.run_getObj_map hh,kY false hkv,hfind,Go.MapKept.run_setObj_map _ hh,a9,Instr.keyThatStays,I4 hkv]
     ·simp only[dG,l]
     ·simp only[dT,iF] at e;exact⟨J,J⟩
     ·exact mR
     ·intro q z h2;simp at h2;rw[hget q _ h2];obtain⟨e1,e2⟩:=aA q z;rw[e1,e2];obtain⟨a,C⟩:=D q z h2;exact⟨a.stable (λ_ _ f=>f) (hold _) jS,C⟩
     ·intro q z h2 O;simp at h2;rw[hget q _ h2];have dL:q≠i:=λe=>O M (by rw[e]);simp only[aB dL];exact⟨(a0 q z h2 ((l q).1 O)).1,a6 _ q z h2 ((l q).1 O)⟩
     ·exact λp q g h1 h2 a C=>hd p q g h1 h2 ((l p).1 a) ((l q).1 C)
     ·exact λp q h1 h2 a=>hne p q h1 h2 ((l p).1 a)
     ·intro q h e h2;simp only[dT,iF] at e;obtain⟨rfl,rfl⟩:=e;simp at h2;rw[hget _ _ h2];simp only[uS];exact⟨dw,a8⟩
    ·exact absurd bC (hno j bB)
  ·cases h
 ·cases h
def pb (c:Option Prop) (T:List (Nat×TI)) (lk:Nat->Option AO) (t:Nat) (a kx e:AV) (k:Eff->Prop):Prop:=
 match a with
 | .mo id=>(match lk id with
  |some (.mr n l q g f j h)=>Cd c T t id n l q g f j h kx e k
  |_=>Y0 c T lk t (.mo id) kx e k)
 |a=>Y0 c T lk t a kx e k
theorem xf {n:Option Prop} (e: ∀c,n=some c->c) (E:Env β nid F w lk) {T:List (Nat×TI)} (f:iM P T) {t:Nat} {a kx q:AV} {u v x:Value} (g:Rep β nid F w a u) (j:Rep β nid F w kx v) (l:Rep β nid F w q x)
  (h:pb n T lk t a kx q k): ∃w',(Instr.mapUpdate t u v x).run P w= .ok () w'/\rU β nid F lk w k undef w':=by
 unfold pb at h;split at h
 ·split at h
  ·rename_i z;rw[g.mo_inv.2];exact xe e E f z j l h
  ·exact J0 e E f g j l h
 ·exact J0 e E f g j l h
def Ce (q:Option Prop) (T:List (Nat×TI)) (lk:Nat->Option AO) (t:Nat) (a kx:AV) (k:Eff->Prop):Prop:=
 match lF t T,a with
 |some w,.mo id=>(match ww w.desc,lk id with
  |some (kt,_),some (.mp n e val l j)=> ∃h g f c,ob q (v9 T kt n e/\uH T kt kx=true/\DT n e val l kx h g f c) (k (.set id (.mp h g f c j) .u))
  |_,_=>False)
 |_,_=>False
theorem xg {gc:Option Prop} (am: ∀c,gc=some c->c) (E:Env β nid F w lk) {T:List (Nat×TI)} (hT:iM P T) {t:Nat} {a kx:AV} {u v:Value} (ts:Array TypeId) (ty:TypeId) (hts:ts[0]? =some t) (hu:Rep β nid F w a u) (hv:Rep β nid F w kx v)
  (h:Ce gc T lk t a kx k): ∃x w',(Builtin.delete_ ts ty #[u,v]).run P w= .ok x w'/\rU β nid F lk w k x w':=by
 unfold Ce at h;split at h
 ·rename_i ti id C;split at h
  ·rename_i kt et n a6 val b1 a0 f R;obtain⟨n',ay,aK,b0,h⟩:=h;obtain⟨⟨S,O,a2⟩,aR⟩:=kS h am;have Q:=hv.toPure (xV O);have hkv:=wK hT O Q;obtain⟨aF,_⟩:=hT.get C;cases hd:ti.desc<;>simp[ww,hd] at f;obtain⟨rfl,rfl⟩:=f;rw[hd] at aF;obtain⟨b3,rfl⟩:=hu.mo_inv;obtain⟨_,es,hh,l,ho,K⟩:=E.obj id _ R;have hF:=E.own id _ (β.blk id) R rfl;have a5:=(cN.1 hh).1;have a7:=N0 hT S l (λi C f=>(K i C f).1);have hold: ∀(o:Obj) H,H<w.heap.size-> ¬F H->({w with heap:=w.heap.setIfInBounds (β.blk id) o}:World).heap[H]? =w.heap[H]? :=λo H _ l=>vV w _ o H (λe=>l (by rw[e];exact hF));have a1: ∀o:Obj,GrownBy w {w with heap:=w.heap.setIfInBounds (β.blk id) o} (some (β.blk id)):=λo=>qX;rcases rF (w:=w) hkv es.toList a7 with ⟨hfind,U⟩|⟨j,e,hfind,he,a3⟩
   ·have eI: ∀i,i<n->a6 i≠kx:=λi z L=>by have hi2:i<es.size:=J;exact U _ jS ((pR (S i z) O (K i z hi2).1 Q).1 L)
    rcases a2 with ⟨i,z,L,_⟩|⟨_,rfl,W⟩
    ·exact absurd L (eI i z)
    ·refine⟨.tuple #[],{w with heap:=w.heap.setIfInBounds (β.blk id) (.map es a0)},?_,_,β,aR,rfl,_,R,a1 _,rfl,⟨es,vW w _ _ a5,l,ho,?_⟩,.pure _ _ (.u _)⟩
     ·exact mu
     ·intro i z f;obtain⟨e1,e2,A⟩:=W i z;rw[e1,e2,A];obtain⟨D,N,h5⟩:=K i z f;exact⟨D.stable (λ_ _ l=>l) (hold _) jS,N.stable (λ_ _ l=>l) (hold _) jS,h5⟩
   ·have hj2:j<es.size:=(by simpa using(bM.1 he).1);have a4:es[j]=e:=by have:=(bM.1 he).2;simpa using this
    have Y:j<n:=J;have bC:a6 j=kx:=(pR (S j Y) O (K j Y hj2).1 Q).2 (by rw[a4];exact a3);rcases a2 with ⟨i,z,L,du,W⟩|⟨U,_⟩
    ·have a8:i=j:=by
      have hi2:i<es.size:=J;have e1:=(pR (S i z) O (K i z hi2).1 Q).1 L;have e2:es[j].key=v:=by rw[a4];exact a3
      rcases kL i j with h|h|h
      ·exact mf
      ·exact h
      ·exact mg
     subst a8;have a9:(es.eraseIdxIfInBounds i).size=n':=by rw[Array.eraseIdxIfInBounds,rG hj2];simp;omega
     have G: ∀(q:Nat) (h:q<(es.eraseIdxIfInBounds i).size),∃h':(if q<i then q else q+1)<es.size,(es.eraseIdxIfInBounds i)[q]=es[if q<i then q else q+1]:=by
      intro q hq;have b4:q<n':=J
      have h':(if q<i then q else q+1)<es.size:=by split<;>omega
      refine⟨h',?_⟩;simp only[Array.eraseIdxIfInBounds,rG hj2,Array.getElem_eraseIdx];split<;>rfl
     refine⟨.tuple #[],{w with heap:=w.heap.setIfInBounds (β.blk id) (.map (es.eraseIdxIfInBounds i) a0)},?_,_,β,aR,rfl,_,R,a1 _,rfl,⟨_,vW w _ _ a5,a9,?_,?_⟩,.pure _ _ (.u _)⟩
     ·exact mu
     ·refine⟨λq r dM C f=> ?_,λq C=> ?_,λq r dM C f=> ?_⟩
      ·obtain⟨D,A⟩:=G q C;obtain⟨N,M⟩:=G r f;rw[A,M];exact ho.asc _ _ (by split<;>split<;>omega) D N
      ·obtain⟨D,A⟩:=G q C;rw[A];exact ho.old _ D
      ·obtain⟨D,A⟩:=G q C;obtain⟨N,M⟩:=G r f;rw[A,M];exact ho.one _ _ (by split<;>split<;>omega) D N
     ·intro q hq f;obtain⟨D,A⟩:=G q f;obtain⟨e1,e2,M⟩:=W q hq;rw[A,e1,e2,M];obtain⟨h5,h6,h7⟩:=K _ J D;exact⟨h5.stable (λ_ _ l=>l) (hold _) jS,h6.stable (λ_ _ l=>l) (hold _) jS,h7⟩
    ·exact absurd bC (U j Y)
  ·cases h
 ·cases h
def Np (T:List (Nat×TI)) (lk:Nat->Option AO) (nid t:Nat) (a:AV) (k:Eff->Prop):Prop:=
 match lF t T with
 |some f=>(match R6 f.desc,a with
  |true,.rm n e val=>k (.ext [.ir n e val (λ_=>false) none] (.p nid 0))
  |true,.mo id=>(match lk id with
   |some (.mp _ _ _ _ c)=>k (.ext [.it id c []] (.p nid 0))
   |_=>False)
  |_,_=>False)
 |none=>False
theorem Cf (E:Env β nid F w lk) {T:List (Nat×TI)} (hT:iM P T) {t:Nat} {a:AV} {v:Value} (S:Rep β nid F w a v) (h:Np T lk nid t a k):
  ∃x w',(Instr.range t v).run P w= .ok x w'/\rU β nid F lk w k x w':=by
 unfold Np at h;split at h
 ·rename_i U z;obtain⟨j,_⟩:=hT.get z;split at h
  ·rename_i n D val G;cases q:U.desc<;>simp[R6,q] at G;rw[q] at j;have Y:=S.rm_inv;have R: ∀ob,(β.blkAt nid w.heap.size).blk nid=w.heap.size->Rep (β.blkAt nid w.heap.size) (nid+1) (FX F (β.blkAt nid w.heap.size) nid [.ir n D val (λ_=>false) none]) (w.alloc ob) (.p nid 0) (.pointer (some ⟨w.heap.size,0,none⟩)):=λob f=>by have:=Rep.p (β:=β.blkAt nid w.heap.size) (n:=nid+1) (F:=FX F (β.blkAt nid w.heap.size) nid [.ir n D val (λ_=>false) none]) (w:=w.alloc ob) nid 0 J;rw[f] at this;exact this
   cases Y with
   |rmnil=>refine⟨.pointer (some ⟨w.heap.size,0,none⟩),w.alloc (.mapIter none 0 #[] 0),by simp[Instr.range,run_underlying j],_,β.blkAt nid w.heap.size,h,.blk _ _ _ _ (λ_=>rfl) (λN=> ?_) (R _)⟩;exact⟨none,#[],0,#[],by rw[show(β.blkAt nid w.heap.size).blk nid=w.heap.size by simp[Bd.blkAt]];exact heap_alloc_new w _,rfl,I9,λ_=>rfl,λb f=>(by cases f),λi A=>J,λi A=>(by cases A)⟩
   |rm _ _ _ g L c H e O Q hk a0=>
    have K:=(cN.1 e).1;refine⟨.pointer (some ⟨w.heap.size,0,none⟩),w.alloc (.mapIter (some g) c #[] c),by simp[Instr.range,run_underlying j,Go.MapKept.run_getObj_map e],_,β.blkAt nid w.heap.size,h,.blk _ _ _ _ (λ_=>rfl) (λN=> ?_) (R _)⟩;have hw: ∀g,g<w.heap.size-> ¬F g->(w.alloc (.mapIter (some g) c #[] c)).heap[g]? =w.heap[g]? :=λg e _=>Below.heap_alloc w _ g e;have C: ∀l,l<w.heap.size-> ¬F l->(w.alloc (.mapIter (some g) c #[] c)).heap[l]? =w.heap[l]? :=λl e _=>Below.heap_alloc w _ l e;refine⟨some g,L,c,#[],by rw[show(β.blkAt nid w.heap.size).blk nid=w.heap.size by simp[Bd.blkAt]];exact heap_alloc_new w _,O,Q,λh=>jC,λb f=> ?_,λi z M=> ?_,λi A=>(by cases A)⟩
    ·obtain rfl:=cK f;exact⟨N _ K H,by rw[C _ K H];exact e⟩
    ·exact⟨(hk i z M).stable N C jS,(a0 i z M).stable N C jS,jS⟩
  ·rename_i id G;cases q:U.desc<;>simp[R6,q] at G;rw[q] at j;split at h
   ·rename_i n D val a1 c ae;obtain⟨W,rfl⟩:=S.mo_inv;obtain⟨_,L,hh,O,Q,hc⟩:=E.obj id _ ae;refine⟨.pointer (some ⟨w.heap.size,0,none⟩),w.alloc (.mapIter (some (β.blk id)) c #[] c),by simp[Instr.range,run_underlying j,Go.MapKept.run_getObj_map hh],_,β.blkAt nid w.heap.size,h,.blk _ _ _ _ (λ_=>rfl) (λN=> ?_) (λf=> ?_)⟩
    ·refine⟨J,?_⟩;rw[show(β.blkAt nid w.heap.size).blk nid=w.heap.size by simp[Bd.blkAt],show(β.blkAt nid w.heap.size).blk id=β.blk id by simp[Bd.blkAt,yG W]];exact heap_alloc_new w _
    ·have:=Rep.p (β:=β.blkAt nid w.heap.size) (n:=nid+1) (F:=FX F (β.blkAt nid w.heap.size) nid [.it id c []]) (w:=w.alloc (.mapIter (some (β.blk id)) c #[] c)) nid 0 J;rw[f] at this;exact this
   ·cases h
  ·cases h
 ·cases h
def Nq (j:Option Prop) (lk:Nat->Option AO) (a:AV) (k:Eff->Prop):Prop:=
 match a with
 | .p id 0=>(match lk id with
  |some (.ir _ c val _ (some i))=>k (.ext [] (.tup [c i,val i]))
  |some (.it mid f h)=>(match lk mid with
   |some (.mp n c val g e)=> ∃i,ob j (i<n/\h.getLast? =some (g i)/\e=f) (k (.ext [] (.tup [c i,val i])))
   |_=>False)
  |_=>False)
 |_=>False
theorem yi {a:Array MapEntry} {c:Nat} (f:MapOk a c) {i:Nat} (hi:i<a.size):a.find? (λx=>x.born==a[i].born)=some a[i]:=by rw[Array.find?_eq_some_iff_getElem];refine⟨jS,i,hi,rfl,λj e=> ?_⟩;have:=f.asc j i e J hi;simp;omega
theorem Cg {N:Option Prop} (Y: ∀c,N=some c->c) (E:Env β nid F w lk) {a:AV} {v:Value} (hv:Rep β nid F w a v) (h:Nq N lk a k):
  ∃x,(Instr.entry v).run P w= .ok x w/\ ∃r,k (.ext [] r)/\Rep β nid F w r x:=by
 have two: ∀{x y:AV} {u z:Value},Rep0 F w x u->Rep0 F w y z->Rep β nid F w (.tup [x,y]) (.tuple #[u,z]):=by
  intro x y u z e f;refine .pure _ _ (.tup [x,y] [u,z] rfl λj C h4=> ?_)
  match j,C with
  |0,_=>exact e
  |1,_=>exact f
 unfold Nq at h;split at h
 ·rename_i id;obtain⟨a2,rfl⟩:=hv.p_inv;split at h
  ·rename_i n S val L i q;obtain⟨_,g,A,O,sn,H,hm,K,ct,hg,G,U⟩:=E.obj id _ q;obtain⟨l,D⟩:=U i rfl;cases g with
   |none=>have:=ct rfl;omega
   |some b=>obtain⟨_,t⟩:=hg b rfl;obtain⟨e,f,_⟩:=G i J l;refine⟨_,?_,_,h,two e f⟩;simp[Instr.entry,getObj,Sem.run,H,t,D,yi K l]
  ·rename_i mid a0 L q;split at h
   ·rename_i n S val a1 O Q;obtain⟨i,h⟩:=h;obtain⟨⟨l,hs,R⟩,W⟩:=kS h Y;obtain⟨_,_,H⟩:=E.obj id _ q;obtain⟨_,A,t,hn,K,G⟩:=E.obj mid _ Q;have M:i<A.size:=J
    obtain⟨e,f,C⟩:=G i l M;have D:L.toArray.back? =some A[i].born:=by simp[hs,C]
    refine⟨_,?_,_,W,two e f⟩;simp[Instr.entry,getObj,Sem.run,H,t,D,yi K M,R]
   ·cases h
  ·cases h
 ·cases h
def Nr (T:List (Nat×TI)) (lk:Nat->Option AO) (t:Nat) (a:AV) (k:Eff->Prop):Prop:=
 match lF t T with
 |some l=>(match lW l.desc with
  |some e=>(match lF e T with
   |some c=>(match c.size,Nat.beq c.zero.cells.size c.size,S6 c.zero.cells.toList,a with
    |_+1,true,true,.sv id j f m=>(match lk id with
     |some (.row h g n get)=>(match Nat.beq h e,Nat.beq j c.size,Nat.beq g c.size with
      |true,true,true=>k (.set id (.row e c.size n λq=>if f<=q/\q<f+m then yN c.zero else get q) (.tup []))
      |_,_,_=>False)
     |_=>False)
    |_,_,_,_=>False)
   |none=>False)
  |none=>False)
 |none=>False
theorem Ch (E:Env β nid F w lk) {T:List (Nat×TI)} (hT:iM P T) {t:Nat} {a:AV} {v:Value} (ts:Array TypeId) (U:TypeId) (N:ts[0]? =some t) (hv:Rep β nid F w a v)
  (h:Nr T lk t a k): ∃x w',(Builtin.clear_ ts U #[v]).run P w= .ok x w'/\rU β nid F lk w k x w':=by
 unfold Nr at h;split at h
 ·rename_i ti h1;split at h
  ·rename_i e Q;split at h
   ·rename_i f h3;split at h
    ·rename_i c6 id sz l m c4 A aT;split at h
     ·rename_i e' af n get O;split at h
      ·rename_i he a3 aH;have he:e'=e:=jE
       have a3:sz=f.size:=(by simpa using a3);have aH:af=f.size:=by simpa using aH
       subst he;subst a3;have A:f.zero.cells.size=f.size:=by simpa using A
       obtain⟨G,_⟩:=hT.get h1;obtain⟨_,_,i,hi,hs,_,hz⟩:=hT.get h3;cases hd:ti.desc<;>simp[lW,hd] at Q;rename_i el;subst Q;rw[hd] at G;obtain⟨c5,b9⟩:=hv.sv_inv;obtain⟨_,xs,R,L,hc⟩:=E.obj id _ O;rw[aH] at R L hc;have b1:Rep β nid F w (.tup []) (.tuple #[]):= .pure _ _ (.tup [] [] rfl λj h1=>jl);have W:m=0->(Builtin.clear_ ts U #[v]).run P w= .ok (.tuple #[]) w-> ∃x w',(Builtin.clear_ ts U #[v]).run P w= .ok x w'/\rU β nid F lk w k x w':=by
        intro hm Y;have aA:(λq=>if l<=q/\q<l+m then yN f.zero else get q)=get:=by
         funext q
         rw[aB J]
        rw[aA] at h;refine⟨_,w,Y,_,β,h,rfl,_,O,qG,?_,⟨xs,R,L,hc⟩,b1⟩;rfl
       rcases b9 with ⟨rfl,a2,_⟩|⟨a,rfl,a2,_⟩|⟨g,o,S,c,C,ai,b5,rfl⟩
       ·exact W a2 (by simp[Builtin.clear_,N,run_underlying G])
       ·exact W a2 (by simp[Builtin.clear_,N,run_underlying G])
       ·rcases R.2 with ⟨h1,_⟩|⟨_,h1,_⟩|⟨g',o',a7,a1,a0,hh,a9,b3,b4,b0⟩
        ·rw[C] at h1;cases h1
        ·rw[C] at h1;simp only[Value.slice.injEq] at h1;omega
        rw[C] at a0;simp only[Value.slice.injEq,dT,Addr.mk.injEq] at a0;obtain⟨⟨rfl,rfl,_⟩,rfl,rfl⟩:=a0;by_cases b6:m=0
        ·subst b6;exact W rfl (by simp[Builtin.clear_,N,run_underlying G])
        ·have c0:=R.1;have bE:(l+m)*f.size<=S*f.size:=bU _ b5;have bg:S*f.size<=(a7+1)*f.size:=bU _ a9;rw[fV] at bE;have c2:(Builtin.zeroCells f.zero.cells m).toList.length=m*f.size:=by simp[Builtin.zeroCells,A]
         have a5: ∀(q:Nat) (h:q<(Builtin.zeroCells f.zero.cells m).toList.length),∃h':q % f.size<f.zero.cells.size,(Builtin.zeroCells f.zero.cells m).toList[q]=f.zero.cells[q % f.size]:=by
          intro q z;have a8:q % f.size<f.zero.cells.size:=by rw[A];exact tZ _ J
          refine⟨a8,?_⟩;simp only[Builtin.zeroCells,A,Cl,Array.getElem_map,Array.getElem_range];exact gL (c:=f.zero.cells) (i:=q % f.size) a8
         have a6: ∀zs,(Builtin.zeroCells f.zero.cells m).toList=zs-> ∀w',(storeCells ⟨g,o+l*f.size,none⟩ zs).run P w= .ok () w'->(Builtin.clear_ ts U #[.slice (some ⟨g,o+l*f.size,none⟩) m (a7+1-l)]).run P w= .ok (.tuple #[]) w':=by
          rintro zs rfl w' M;have bA:(zeroValue el).run P w= .ok f.zero w:=by simp[zeroValue,typeInfo,hi,hz]
          obtain⟨m2,rfl⟩: ∃m2,m=m2+1:=⟨m-1,J⟩;simp[Builtin.clear_,N,run_underlying G,bA,M]
         generalize (Builtin.zeroCells f.zero.cells m).toList=zs at c2 a5 a6;have c1: ∀u∈zs,u.oneCell'=true:=by intro u hu;obtain⟨q,z,rfl⟩:=cU hu;obtain⟨h',e⟩:=a5 q z;rw[e];exact xO aT _ jS
         have M:=run_storeCells_at P g (o+l*f.size) el zs 0 a1 w hh jO c1;simp only[iL] at M;have Y:=a6 zs rfl _ M;have b8:=kT.over (w:=w) hh a9 b3 b4 b0 c0 (l*f.size) zs J;have hF:=E.own id _ g O (by simp[dG,C,kI]);have hold: ∀H,H<w.heap.size-> ¬F H->(w.setRow g (a1.toList.take (o+l*f.size)++zs++a1.toList.drop (o+l*f.size+zs.length)).toArray).heap[H]? =w.heap[H]? :=
          λH _ K=>setRow_other w _ H _ (λe=>K (by rw[e];exact hF))
         have cY: ∀e1 s1,NL β id (.row e1 s1 S get)=some g:=(by simp[NL,C,kI]);have a4:=r7 (F:=F) (w:=w) f.zero;refine⟨_,_,Y,_,β,h,rfl,_,O,by rw[cY];exact rV _ _ _,rfl,⟨_,by rw[C];exact b8,?_,?_⟩,.pure _ _ (.tup [] [] rfl λj h1=>jl)⟩
         ·intro q z;dsimp only;split
          ·rw[a4.1,A]
          ·exact L q z
         ·intro q j z h1 Q;have c3:q*f.size+f.size<=S*f.size:=by rw[<-iC];exact bU _ z
          rw[z6 J _ Q];by_cases D:l<=q/\q<l+m
          ·simp only[aE D] at h1|-;have hj:j<f.size:=by rw[a4.1,A] at h1;exact h1
           have e2:(q-l)*f.size=q*f.size-l*f.size:=g5 _ _ _;have e3:l*f.size<=q*f.size:=bU _ D.1;have e4:q*f.size+f.size<=l*f.size+m*f.size:=by rw[<-iC,<-fV];exact bU _ D.2
           rw[rG J];obtain⟨h',e5⟩:=a5 (q*f.size+j-l*f.size) J;have e6:(q*f.size+j-l*f.size)% f.size=j:=by have:q*f.size+j-l*f.size=(q-l)*f.size+j:=J;rw[this,iR,vD];exact kD hj
           rw[e5];simp only[e6];refine⟨?_,xO aT _ jS⟩;exact(a4.2 j h1 J).stable (λ_ _ K=>K) hold jS
          ·simp only[aB D] at h1|-;have hj:j<f.size:=by rw[L q z] at h1;exact h1
           have b7: ¬(l*f.size<=q*f.size+j/\q*f.size+j<l*f.size+zs.length):=by
            rintro⟨h3,h4⟩;apply D;have e6:l*f.size<(q+1)*f.size:=by rw[iC];omega
            have e7:q*f.size<(l+m)*f.size:=by rw[fV];omega
            have:=oC e6;have:=oC e7;omega
           rw[sK b7];have:=hc q j z h1 J;exact⟨this.1.stable (λ_ _ K=>K) hold jS,this.2⟩
      ·cases h
     ·cases h
    ·cases h
   ·cases h
  ·cases h
 ·cases h
end
end Go.Eng
