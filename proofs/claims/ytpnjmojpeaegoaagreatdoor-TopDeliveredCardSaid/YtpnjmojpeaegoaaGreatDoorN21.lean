/-
  TopDelivered returns true whatever the input, and the input reads behind the call as it read before, where the three listed tables of Go's library hold what the program's text lays: a part of the proof.
-/
import Derived.Test.YtpnjmojpeaegoaaGreatDoorN20
set_option linter.unusedSimpArgs false
set_option linter.unusedVariables false
set_option maxRecDepth 100000
set_option maxHeartbeats 0
namespace Go.Proofs.YtpnjmojpeaegoaaGreatDoor
open Go.Eng
def RP (x:ByteArray):Bool:=((o5 x).2==0)&&(p2 (yE x)==0)
def Rk (l:List Pf_q0) (k:Nat):List AV:=(l.getD k wV).cs (.rs 1 (l.getD k wV).types.length (rB (l.getD k wV).types))
def rWs (l:List Pf_q0) (k:Nat):List AV:=[.rs 2 9 (VH (cp (l.getD k wV)))]
def Vv (s:Stp0):Bool:= !(((decide ((s.nets.length:Int)<1)||decide ((s.nets.length:Int)>12))|| !vg s)|| !Sb.rightCP s.cl [])
def rZ (s:Stp0):Bool:=Vv s&&s.nets.all RP
def st0:List AV:=[.I 0,kV,kV,kV,kV,kV,kV,kV,kV,kV,kV,kV,kV]
def pI (s:Stp0):List Pf_q0:=s.nets.map yE
def gO (s:Stp0) (l:List Pf_q0):AO:= .cells 166 (s.av++[.rs 22 l.length (Rk l),.rs 1 l.length (rWs l)]++st0++[kV])
def vj (s:Stp0):List AO:=if rZ s=true then [gO s (pI s)] else []
def vk (s:Stp0):AV:= .tup [if rZ s=true then .p 0 0 else .val (.pointer none),.b (rZ s)]
theorem L6 {s:Stp0} (h:rZ s=false):vj s=[]/\vk s= .tup [.val (.pointer none),.b false]:=by unfold vj vk;rw[h];exact nT
theorem O3 {s:Stp0} (h:rZ s=true):vj s=[gO s (pI s)]/\vk s= .tup [.p 0 0,.b true]:=by unfold vj vk;rw[h];exact nT
theorem IZ {s:Stp0} {j:Nat} (a:j<s.nets.length) (h:RP (s.nets.getD j gB)=false):rZ s=false:=by unfold rZ;rw[iZ];right;rw[oQ];refine⟨s.nets.getD j gB,?_,jR⟩;rw[show s.nets.getD j gB=s.nets[j] by simp[List.getD,a]];exact fN a
theorem Ar {s:Stp0} {j:Nat} (a:j<s.nets.length):(pI s).getD j wV=yE (s.nets.getD j gB):=by unfold pI;simp[List.getD,a]
theorem Ld (s:Stp0) (E:s.fit):cM 23 true [] [.ag s.av] (λ_:Unit=>True) (λ_=>[]) (λ_=>vj s) (λ_=>vk s):=by
 refine sE Tryz.func23 [.tmp 2,.tmp 3] [(1000003,[.nlc 1 8 56 22,.nlc 1 9 167 1]),(2000013,[.frz 1 [1,4]]),(15,[.frc 1 8 [2],.frc 1 9 [3]])] ?_
 refine jc (Rg s E) ?_
 repeat apply jL
 refine⟨[],_,λ_=>j8.of_eq (args:=[.rs 2 s.cl.length (Sb.rowsM s.cl),.rs 3 0 (Sb.rowsP [])]) ⟨eV.refl _,rfl,rfl⟩ (Sb.ClaimRight_fn s.cl [] E.c jD),?_⟩;refine⟨λh=> ?_,λG=> ?_⟩
 ·have h:(((decide ((s.nets.length:Int)<1)||decide ((s.nets.length:Int)>12))|| !vg s)|| !Sb.rightCP s.cl [])=true:=h;have f:=L6 (s:=s) (by unfold rZ Vv;rw[h];rfl);rw[f.1,f.2];exact qO
 have G:(((decide ((s.nets.length:Int)<1)||decide ((s.nets.length:Int)>12))|| !vg s)|| !Sb.rightCP s.cl [])=false:=G;have R:s.nets.length<=12:=by rw[bT,bT,bT,bH,bH] at G;omega
 have S:=E.n;refine .inl ⟨[],Nat,λj=>j<=s.nets.length/\ ∀q,q<j->RP (s.nets.getD q gB)=true,λj=>[⟨38,[],.I j⟩],λj=>[⟨1,[],.cells 166 (s.av++[.so 2,.so 3]++st0++[kV])⟩,⟨2,[],.row 56 22 j (Rk (pI s))⟩,⟨3,[],.row 167 1 j (rWs (pI s))⟩],λj=>s.nets.length-j,
  ⟨0,[],⟨bI _,λq C=>absurd C (dU q)⟩,rfl,rfl,rfl,rfl,rfl,nT,⟨eN.refl _,qA,qA⟩⟩,?_⟩
 rintro j ⟨M,H⟩;have M:j<=s.nets.length:=M;refine .inl ⟨λl=> ?_,λl=> ?_⟩
 ·have l:=pH l;have l:(j:Int)<s.nets.length:=l;have z:(j:Int).toNat=j:=aQ j;have w:j<s.nets.length:=J
  have F:(s.nets.getD (j:Int).toNat gB).size<9223372036854775807:=by rw[z,show s.nets.getD j gB=s.nets[j] by simp[List.getD,w]];exact E.t _ (fN w)
  repeat apply jL
  refine⟨⟨J,J⟩,?_⟩;by_cases g:(o5 (s.nets.getD (j:Int).toNat gB)).2=0
  ·refine aN (eX ?_);refine⟨_,jo _ F g,?_⟩
   repeat apply jL
   refine⟨[],_,λ_=>wD (yE (s.nets.getD (j:Int).toNat gB)) (B3 _),?_⟩;refine jB (((o5 (s.nets.getD (j:Int).toNat gB)).2 !=0)||(p2 (yE (s.nets.getD (j:Int).toNat gB)) !=0)) (λh=> ?_) λh=> ?_
   ·rw[g] at h;have f:=L6 (IZ w (by
     rw[z] at h g;unfold RP;rw[g];have h:(p2 (yE (s.nets.getD j gB)) !=0)=true:=h;rw[lM] at h;simpa using h))
    rw[f.1,f.2];exact qO
   rw[g] at h;have h:(p2 (yE (s.nets.getD (j:Int).toNat gB)) !=0)=false:=h;rw[fY] at h;refine aN (eX ?_);refine⟨_,lq (yE (s.nets.getD (j:Int).toNat gB)) (B3 _) h,?_⟩
   repeat apply jL
   refine⟨λh2=> ?_,λ_=> ?_⟩
   ·have h2:((0:Int) !=0)=true:=h2;exact absurd h2 jD
   have D: ∀{q:Nat},q<=1000->(j+1)*q<=140737488355328:=λh=>cO (pD (by omega:j+1<=13) h) jD;refine⟨.br 7 (.br 8 (.st 14 2 .leaf) 14 (.st 8 2 .leaf)) 14 (.st 7 2 (.st 8 2 .leaf)),V,Unit,λ_=>True,Function.const Unit ?_,?_,λ_ _=>⟨?_,?_⟩⟩
   rotate_left
   ·refine⟨⟨?_,?_⟩,?_⟩
    ·refine⟨D jD,?_⟩;refine⟨(),[],trivial,?_,xI ?_ ?_⟩
     rotate_left
     ·show _=id _;rfl
     ·exact mG
     ·rfl
    ·refine⟨D jD,?_⟩;refine⟨(),[(6,7),(7,6)],trivial,rfl,?_,?_,rfl⟩<;>(repeat' first|exact rfl|exact trivial|refine⟨?_,?_⟩|intro _ _)
    ·refine⟨D jD,?_⟩;refine⟨(),[(5,6),(6,7),(7,5)],trivial,rfl,?_,?_,rfl⟩<;>(repeat' first|exact rfl|exact trivial|refine⟨?_,?_⟩|intro _ _)
   ·rfl
   refine⟨D jD,?_⟩;have N:RP (s.nets.getD (j:Int).toNat gB)=true:=by unfold RP;rw[g,h];rfl
   have K:(pI s).getD j wV=yE (s.nets.getD (j:Int).toNat gB):=(by rw[Ar w,z]);refine⟨j+1,[(2,6),(3,8)],⟨J,λq C=> ?_⟩,jM,rfl,rfl,rfl,rfl,rfl,nV,⟨eN.refl _,⟨rfl,rfl,rfl,λk hk=> ?_⟩,⟨rfl,rfl,rfl,λk hk=> ?_⟩⟩⟩
   ·by_cases Q:q=j
    ·rw[Q,<-z];exact N
    ·exact H q J
   ·have hk:k<j+1:=hk;unfold iJ;split
    ·rfl
    ·have:k=j:=J;subst this;rw[iG];show _=Rk (pI s) k;unfold Rk;rw[K];rfl
   ·have hk:k<j+1:=hk;unfold iJ;split
    ·rfl
    ·have:k=j:=J;subst this;rw[iG];show _=rWs (pI s) k;unfold rWs;rw[K];rfl
  ·refine jb (IY _ F g) ?_;have L:((o5 (s.nets.getD (j:Int).toNat gB)).2 !=0)=true:=by rw[lM];exact g
   repeat apply jL
   refine⟨[],.I 0,λh=> ?_,?_⟩
   ·have h:((o5 (s.nets.getD (j:Int).toNat gB)).2 !=0)=false/\True:=h;rw[L] at h;cases h.1
   refine⟨λ_=> ?_,λh=> ?_⟩
   ·have f:=L6 (IZ w (by
     rw[z] at g;unfold RP;rw[iZ];left;simpa using g))
    rw[f.1,f.2];exact qO
   ·have h:(((o5 (s.nets.getD (j:Int).toNat gB)).2 !=0)||((0:Int) !=0))=false:=h;rw[L] at h;cases h
 ·have l:=iT l;have O:j=s.nets.length:=by have l:(s.nets.length:Int)<=j:=l;omega
  subst O;have f:rZ s=true:=by
   unfold rZ Vv;rw[G,Bool.not_false,oD,fU];intro x F;obtain⟨q,C,rfl⟩:=cU F;have:=H q C
   rwa [show s.nets.getD q gB=s.nets[q] by simp[List.getD,C]] at this
  rw[(O3 f).1,(O3 f).2];have P:(pI s).length=s.nets.length:=by unfold pI;simp
  refine⟨(),[(0,1)],trivial,⟨nR,⟨⟨rfl,rfl,rfl,?_⟩,trivial⟩,rfl⟩,rfl,λh=>jC⟩
  ·unfold gO;rw[P];exact eN.refl _
end Go.Proofs.YtpnjmojpeaegoaaGreatDoor
namespace Go.Proofs.YtpnjmojpeaegoaaGreatDoor
open Go.Eng Go.Qu
structure Snt where
 e:Int
 n:Int
 s:Int
structure Dbt where
 e:Int
 n:Int
deriving DecidableEq
structure Pr where
 n:Int
 l:Int
 e:Int
 p:Int
structure Sld where
 e:Int
 b:Int
 h:Int
def Snt.av (x:Snt):List AV:=[.I x.e,.I x.n,.I x.s]
def Dbt.av (x:Dbt):List AV:=[.I x.e,.I x.n]
def Pr.av (x:Pr):List AV:=[.I x.n,.I x.l,.I x.e,.I x.p]
def Sld.av (x:Sld):List AV:=[.I x.e,.I x.b,.I x.h]
def oK:Snt:=⟨0,0,0⟩
def pO:Dbt:=⟨0,0⟩
def l6:Pr:=⟨0,0,0,0⟩
def aG8:Sld:=⟨0,0,0⟩
def db (l:List Snt) (k:Nat):List AV:=(l.getD k oK).av
def u7 (l:List Dbt) (k:Nat):List AV:=(l.getD k pO).av
def fb (l:List Pr) (k:Nat):List AV:=(l.getD k l6).av
def xt (l:List Sld) (k:Nat):List AV:=(l.getD k aG8).av
def Vw (l:List (List Sc.Note)) (k:Nat):List AV:=[.rs 5 (l.getD k []).length (Sc.rowsN (l.getD k []))]
structure Sta_q0 where
 step:Int
 ev:List Ev
 q:List Wt
 sent:List Snt
 ref:List Dbt
 pairs:List Pr
 pf:List Sb.Pf_q1
 notes:List (List Sc.Note)
 bad:List Sa.Ver
 holds:List Sa.Hld
 ords:List Sa.Ord
 sld:List Sld
 debts:List Dbt
def Sta_q0.av (s:Sta_q0):List AV:=[.I s.step,.rs 12 s.ev.length (rE s.ev),.rs 4 s.q.length (rW s.q),.rs 3 s.sent.length (db s.sent),.rs 2 s.ref.length (u7 s.ref),.rs 4 s.pairs.length (fb s.pairs),.rs 3 s.pf.length (Sb.rowsP s.pf),
 .rs 1 s.notes.length (Vw s.notes),.rs 3 s.bad.length (Sa.rowsV s.bad),.rs 4 s.holds.length (Sa.rowsH s.holds),.rs 4 s.ords.length (Sa.rowsO s.ords),.rs 3 s.sld.length (xt s.sld),.rs 2 s.debts.length (u7 s.debts)]
theorem Le (l:List Snt) (a:l.length*24<=140737488355328):cC 141 [.rs 3 l.length (db l)] [.row 54 3 l.length (db l)] (.so 0):=by
 refine hZ Tryz.func141 [.tmp 2] [(999999,[.nl 2 54 3])] ?_;refine .inl λc hc=>⟨λh=> ?_,λh=>⟨by rw[dR];exact a,?_⟩⟩
 ·exact mK
 ·exact mN
theorem j5 (l:List Dbt) (a:l.length*16<=140737488355328):cC 142 [.rs 2 l.length (u7 l)] [.row 66 2 l.length (u7 l)] (.so 0):=by
 refine hZ Tryz.func142 [.tmp 2] [(999999,[.nl 2 66 2])] ?_;refine .inl λc hc=>⟨λh=> ?_,λh=>⟨by rw[dR];exact a,?_⟩⟩
 ·exact mK
 ·exact mN
theorem V1 (l:List Pr) (a:l.length*32<=140737488355328):cC 143 [.rs 4 l.length (fb l)] [.row 225 4 l.length (fb l)] (.so 0):=by
 refine hZ Tryz.func143 [.tmp 2] [(999999,[.nl 2 225 4])] ?_;refine .inl λc hc=>⟨λh=> ?_,λh=>⟨by rw[dR];exact a,?_⟩⟩
 ·exact mK
 ·exact mN
theorem Lf (l:List Sld) (a:l.length*24<=140737488355328):cC 149 [.rs 3 l.length (xt l)] [.row 275 3 l.length (xt l)] (.so 0):=by
 refine hZ Tryz.func149 [.tmp 2] [(999999,[.nl 2 275 3])] ?_;refine .inl λc hc=>⟨λh=> ?_,λh=>⟨by rw[dR];exact a,?_⟩⟩
 ·exact mK
 ·exact mN
theorem Lg (l:List Sa.Ord) (a:l.length*32<=140737488355328):cC 148 [.rs 4 l.length (Sa.rowsO l)] [.row 108 4 l.length (Sa.rowsO l)] (.so 0):=by
 refine hZ Tryz.func148 [.tmp 2] [(999999,[.nl 2 108 4])] ?_;refine .inl λc hc=>⟨λh=> ?_,λh=>⟨by rw[dR];exact a,?_⟩⟩
 ·exact mK
 ·exact mN
theorem V2 (l:List Sb.Pf_q1) (a:l.length*24<=140737488355328):cC 121 [.rs 3 l.length (Sb.rowsP l)] [.row 102 3 l.length (Sb.rowsP l)] (.so 0):=by
 refine hZ Tryz.func121 [.tmp 2] [(999999,[.nl 2 102 3])] ?_;refine .inl λc hc=>⟨λh=> ?_,λh=>⟨by rw[dR];exact a,?_⟩⟩
 ·exact mK
 ·exact mN
theorem Rl (l:List Ev) (a:l.length<=1000000):cM 139 true [] [.rs 12 l.length (rE l)] (λ_:Unit=>True) (λ_=>[]) (λ_=>[.row 64 12 l.length (rE l)]) (λ_=> .so 0):=by
 refine sE Tryz.func139 [.tmp 2] [(999999,[.nl 2 64 12])] ?_;refine .inl λc hc=>⟨λh=> ?_,λh=>⟨by rw[dR];exact cO (pD a (by decide:_<=1000)) jD,?_⟩⟩
 ·exact mV
 ·exact ma
theorem Rm (l:List (List Sc.Note)) (a:l.length<=1000000):cM 145 true [] [.rs 1 l.length (Vw l)] (λ_:Unit=>True) (λ_=>[]) (λ_=>[.row 237 1 l.length (Vw l)]) (λ_=> .so 0):=by
 refine sE Tryz.func145 [.tmp 2] [(999999,[.nl 2 237 1])] ?_;refine .inl λc hc=>⟨λh=> ?_,λh=>⟨by rw[dR];exact cO (pD a (by decide:_<=1000)) jD,?_⟩⟩
 ·exact mV
 ·exact ma
theorem As (s:Stp0) (a:s.fit) (h:rZ s=true):cM 23 true [] [.ag s.av] (λ_:Unit=>True) (λ_=>[]) (λ_=>[gO s (pI s)]) (λ_=> .tup [.p 0 0,.b true]):=by have:=Ld s a;rw[(O3 h).1,(O3 h).2] at this;exact this
theorem Lh (s:Stp0) (a:s.fit) (h:rZ s=false):cM 23 true [] [.ag s.av] (λ_:Unit=>True) (λ_=>[]) (λ_=>[]) (λ_=> .tup [.val (.pointer none),.b false]):=by have:=Ld s a;rw[(L6 h).1,(L6 h).2] at this;exact this
def Rn (n:Nat):Sta_q0:=⟨0,[],[],[],[],[],[],List.replicate n [],[],[],[],[],[]⟩
def aDw (n:Nat):List AV:=[.I 0,.rs 12 0 (rE []),.rs 4 0 (rW []),.rs 3 0 (db []),.rs 2 0 (u7 []),.rs 4 0 (fb []),.rs 3 0 (Sb.rowsP []),
 .rs 1 n (λ_=>[kV]),.rs 3 0 (Sa.rowsV []),.rs 4 0 (Sa.rowsH []),.rs 4 0 (Sa.rowsO []),.rs 3 0 (xt []),.rs 2 0 (u7 [])]
theorem BA (s:Stp0) (e:s.fit) (h:rZ s=true) (c:s.nets.length<=12):cA 22 [.ag s.av] (.tup [.ag (aDw s.nets.length),.I 0]):=by
 refine MX Tryz.func22 [.cell 2 43,.tmp 3] [(1000004,[.frc 1 7 [3],.ex 1])] ?_;refine eX (aN (aN ?_));refine⟨true,[],rfl,Unit,_,_,_,_,As s e h,λ_ _=> ?_⟩
 repeat apply jL
 refine⟨λh=> ?_,λh=> ?_⟩
 ·have h:(!true)=true:=h;cases h
 refine⟨⟨rfl,iK _,cO (pD (by decide:_<=1000) (by rw[aQ];exact c)) jD⟩,?_⟩;refine⟨.cells 43 (aDw s.nets.length),?_,?_⟩
 ·refine⟨rfl,?_⟩
  repeat' first|exact rfl|apply hY|exact λk f=>rfl
 exact nT
def CR (a b:AV):Prop:= ∀(F:Nat->Prop) (w:World) (v:Value),Rep0 F w a v->Rep0 F w b v
def BB:List AV->List AV->Prop
 |[],[]=>True
 |a::r,b::t=>CR a b/\BB r t
 |_,_=>False
theorem CR.refl (a:AV):CR a a:=λ_ _ _ h=>h
theorem BB.get: ∀{l m:List AV},BB l m->l.length=m.length/\ ∀(j:Nat) (h1:j<l.length) (h2:j<m.length),CR l[j] m[j]
 |[],[],_=>⟨rfl,λj h1=>absurd h1 (dU j)⟩
 |a::r,b::t,h=>by
  obtain⟨e,g⟩:=BB.get h.2;refine⟨by simp[e],λj h1 h2=> ?_⟩;cases j with
  |zero=>exact h.1
  |succ j=>exact g j j1 j2
 |[],_::_,h=>h.elim
 |_::_,[],h=>h.elim
theorem CR.ag {l m:List AV} (h:BB l m):CR (.ag l) (.ag m):=λF w v f=>by
 cases f with
 |ag _ k e g=>exact .ag _ k (by rw[<-h.get.1];exact e) λj a c=>h.get.2 j (by rw[h.get.1];exact a) a F w _ (g j (by rw[h.get.1];exact a) c)
theorem CR.tup {l m:List AV} (h:BB l m):CR (.tup l) (.tup m):=λF w v f=>by
 cases f with
 |tup _ k e g=>exact .tup _ k (by rw[<-h.get.1];exact e) λj a c=>h.get.2 j (by rw[h.get.1];exact a) a F w _ (g j (by rw[h.get.1];exact a) c)
theorem R8.conv {P:Program} {f:FuncId} {args:List AV} {r r':AV} (h:R8 P f args r) (c:CR r r'):R8 P f args r':=
 ⟨h.1,λF w q g j k=>(h.2 F w q g j k).mono λe t ⟨v,a,l,n⟩=>⟨v,a,l,c _ _ _ n⟩⟩
theorem CR.nils (n:Nat):CR (.rs 1 n λ_=>[kV]) (.rs 1 n (Vw (List.replicate n []))):=λF w v L=>by
 have e: ∀k,Vw (List.replicate n []) k=[.rs 5 0 (Sc.rowsN [])]:=λk=>by
  unfold Vw;have:(List.replicate n ([]:List Sc.Note)).getD k []=[]:=by rw[eR,List.getElem?_replicate];split<;>rfl
  rw[this];rfl
 cases L with
 |rsnil=>exact .rsnil _ _
 |rsz=>exact .rsz _ _ _
 |rs _ _ _ g t l h H G D q M E A K=>
  refine .rs _ _ _ g t l h H G D q (λk c=>by rw[e];rfl) (λk j c a=>E k j c a) (λk j c a=>A k j c (by first|exact a|(rw[e] at a;exact a))) λk j c a=> ?_
  have x:j=0:=by rw[e] at a;simpa using a
  subst x;have f:=K k 0 c (by show(0:Nat)<1;decide);have C:(Vw (List.replicate n []) k)[0]'a= .rs 5 0 (Sc.rowsN []):=by simp[e]
  rw[C];have f:Rep0 F w kV (h k 0):=f;generalize h k 0=z at f;cases f;exact .rsnil _ _
theorem JA (s:Stp0) (c:s.fit) (h:rZ s=true) (a:s.nets.length<=12):cA 22 [.ag s.av] (.tup [.ag (Rn s.nets.length).av,.I 0]):=
 R8.conv (BA s c h a) (.tup ⟨.ag ⟨.refl _,.refl _,.refl _,.refl _,.refl _,.refl _,.refl _,by
  have:=CR.nils s.nets.length;unfold Rn;dsimp only;rw[xT];exact this,.refl _,.refl _,.refl _,.refl _,.refl _,trivial⟩,.refl _,trivial⟩)
structure Sta_q0.fit (s:Sta_q0):Prop where
 e:s.ev.length<=1000000
 q:s.q.length<=1000000
 t:s.sent.length<=1000000
 r:s.ref.length<=1000000
 p:s.pairs.length<=1000000
 f:s.pf.length<=1000000
 n:s.notes.length<=1000000
 b:s.bad.length<=1000000
 h:s.holds.length<=1000000
 o:s.ords.length<=1000000
 l:s.sld.length<=1000000
 d:s.debts.length<=1000000
 ec: ∀x∈s.ev,x.cs.length<=1000000/\x.fs.length<=1000000
 nn: ∀x∈s.notes,x.length<=100000
def aDx (s:Sta_q0):List AO:=[.row 54 3 s.sent.length (db s.sent),.row 225 4 s.pairs.length (fb s.pairs),.row 102 3 s.pf.length (Sb.rowsP s.pf),.row 237 1 s.notes.length (Vw s.notes),
 .row 106 4 s.holds.length (Sa.rowsH s.holds),.row 108 4 s.ords.length (Sa.rowsO s.ords),.row 275 3 s.sld.length (xt s.sld)]
def aDy (s:Sta_q0):AV:= .ag [.I s.step,.rs 12 s.ev.length (rE s.ev),.rs 4 s.q.length (rW s.q),.so 0,.rs 2 s.ref.length (u7 s.ref),.so 1,.so 2,.so 3,.rs 3 s.bad.length (Sa.rowsV s.bad),.so 4,.so 5,.so 6,.rs 2 s.debts.length (u7 s.debts)]
theorem Ro (l:List Sc.Note) (c:l.length<=100000):cA 146 [.rs 5 l.length (Sc.rowsN l)] (.rs 5 l.length (Sc.rowsN l)):=
 j8.frz (Sc.cloneN_fn l c) (by constructor<;>first|exact rfl|exact λk a=>rfl|exact⟨rfl,λk a=>rfl⟩)
theorem Fb (s:Sta_q0) (c:s.fit):cM 72 true [] [.ag s.av] (λ_:Unit=>True) (λ_=>[]) (λ_=>aDx s) (λ_=>aDy s):=by
 refine sE Tryz.func72 [.cell 2 43] [(2000006,[.frz 0 [2,4]]),(2000008,[.frz 1 [0]]),(2000009,[.frz 1 [0]]),(2000014,[.frz 1 [2]]),(2000016,[.frz 1 [0]]),(2000017,[.frz 1 [0]]),(18,[.frc 2 1 [3],.frc 2 2 [4],.frc 2 4 [6],.frc 2 8 [9],.frc 2 12 [14]])] ?_;refine aN (aN ?_);refine⟨true,[],rfl,Unit,_,_,_,_,Rl s.ev c.e,λ_ _=> ?_⟩;have z:=c.e;refine .inl ⟨[],Nat,λk=>k<=s.ev.length,λk=>[⟨16,[],.I k⟩],λk=>[⟨3,[],.row 64 12 s.ev.length (rE s.ev)⟩],λk=>s.ev.length-k,
  ⟨0,[],bI _,rfl,rfl,rfl,rfl,rfl,nT,⟨rfl,rfl,rfl,λk hk=>rfl⟩⟩,?_⟩
 intro k hk;have hk:k<=s.ev.length:=hk;refine .inl ⟨λg=> ?_,λg=> ?_⟩
 ·have g:=pH g;have g:(k:Int)<s.ev.length:=g;have j:(k:Int).toNat=k:=aQ k
  repeat apply jL
  refine⟨⟨J,J⟩,J,?_⟩;have w:=c.ec (s.ev.getD (k:Int).toNat dE) (by
   rw[j,show s.ev.getD k dE=s.ev[k]'J by simp[List.getD,show k<s.ev.length by omega]];exact fN _)
  refine aN (eX ?_);refine⟨_,f8 (s.ev.getD (k:Int).toNat dE).cs J,?_⟩;refine aN (eX ?_);refine⟨_,f8 (s.ev.getD (k:Int).toNat dE).fs J,?_⟩;refine⟨⟨J,J⟩,J,⟨J,J⟩,J,?_⟩;refine⟨k+1,[],(by show k+1<=s.ev.length;omega),jM,rfl,rfl,rfl,rfl,rfl,nV,⟨rfl,rfl,rfl,λq x=> ?_⟩⟩;by_cases h:q=(k:Int).toNat
  ·exact nM
  ·dsimp only
   repeat rw[aB h]
 have g:=iT g
 repeat apply jL
 refine⟨_,_,zZ s.q (by have:=c.q;omega),?_⟩
 repeat apply jL
 refine⟨_,_,Le s.sent (by have:=c.t;omega),?_⟩
 repeat apply jL
 refine⟨_,_,j5 s.ref (by have:=c.r;omega),?_⟩
 repeat apply jL
 refine⟨_,_,V1 s.pairs (by have:=c.p;omega),?_⟩
 repeat apply jL
 refine⟨_,_,V2 s.pf (by have:=c.f;omega),?_⟩
 repeat apply jL
 refine⟨_,_,Sa.cloneV_fn s.bad (by have:=c.b;omega),?_⟩;refine aN (aN ?_);refine⟨true,[],rfl,Unit,_,_,_,_,Rm s.notes c.n,λ_ _=> ?_⟩;have A:=c.n;refine .inl ⟨[],Nat,λk=>k<=s.notes.length,λk=>[⟨69,[],.I k⟩],λk=>[⟨10,[],.row 237 1 s.notes.length (Vw s.notes)⟩],λk=>s.notes.length-k,
  ⟨0,[],bI _,rfl,rfl,rfl,rfl,rfl,nT,⟨rfl,rfl,rfl,λk hk=>rfl⟩⟩,?_⟩
 intro k hk;have hk:k<=s.notes.length:=hk;refine .inl ⟨λg=> ?_,λg=> ?_⟩
 ·have g:=pH g;have g:(k:Int)<s.notes.length:=g;have j:(k:Int).toNat=k:=aQ k
  repeat apply jL
  refine⟨⟨J,J⟩,J,?_⟩;have w:=c.nn (s.notes.getD (k:Int).toNat []) (by
   rw[j,show s.notes.getD k []=s.notes[k]'J by simp[List.getD,show k<s.notes.length by omega]];exact fN _)
  refine aN (eX ?_);refine⟨_,Ro (s.notes.getD (k:Int).toNat []) w,?_⟩;refine⟨⟨J,J⟩,J,?_⟩;refine⟨k+1,[],(by show k+1<=s.notes.length;omega),jM,rfl,rfl,rfl,rfl,rfl,nV,⟨rfl,rfl,rfl,λq x=> ?_⟩⟩;by_cases h:q=(k:Int).toNat
  ·exact nM
  ·dsimp only
   repeat rw[aB h]
 have g:=iT g
 repeat apply jL
 refine⟨_,_,Sa.cloneH_fn s.holds (by have:=c.h;omega),?_⟩
 repeat apply jL
 refine⟨_,_,Lg s.ords (by have:=c.o;omega),?_⟩
 repeat apply jL
 refine⟨_,_,Lf s.sld (by have:=c.l;omega),?_⟩
 repeat apply jL
 refine⟨_,_,j5 s.debts (by have:=c.d;omega),?_⟩;refine⟨(),[(0,5),(1,7),(2,8),(3,10),(4,11),(5,12),(6,13)],trivial,⟨nR,⟨qE,qE,qE,qE,qE,qE,qE,trivial⟩,rfl⟩,rfl,λh=>jC⟩
theorem JB (l:List Pr) (f:l.length<2^62) (a:FuncId) (c e:List AV) (p:Pr->Bool) (hp: ∀x∈l,cC a [.ag x.av,.rp c,.rp e] [] (.b (p x))):cC 180 [.rs 4 l.length (fb l),.fn a [.rp c,.rp e]] [] (.I (fx l.length λk=>p (l.getD k l6))):=by
 refine hZ Tryz.func180 [.tmp 4] [] ?_
 let dq:=l6
 exact m3
theorem JC (l:List Pr) (g:l.length<2^62) (a:FuncId) (c e f:List AV) (p:Pr->Bool) (hp: ∀x∈l,cC a [.ag x.av,.rp c,.rp e,.rp f] [] (.b (p x))):cC 180 [.rs 4 l.length (fb l),.fn a [.rp c,.rp e,.rp f]] [] (.I (fx l.length λk=>p (l.getD k l6))):=by
 refine hZ Tryz.func180 [.tmp 4] [] ?_
 let dq:=l6
 exact m3
theorem JD (n l:Int) (p:Pr):cC 181 [.ag p.av,.rp [.I n],.rp [.I l]] [] (.b (p.n==n&&p.l==l)):=by refine hZ Tryz.func181 [.tmp 4] [] ?_;exact RetIs.b rfl
def t8 (l:List Pr) (n lo:Int):Int:=fx l.length λk=>(l.getD k l6).n==n&&(l.getD k l6).l==lo
theorem Vx (l:List Pr) (j:l.length<2^62) (n lo:Int):cC 103 [.rs 4 l.length (fb l),.I n,.I lo] [] (.tup (if t8 l n lo<0 then [.I 0,.I 0,.b false] else [.I (l.getD (t8 l n lo).toNat l6).e,.I (l.getD (t8 l n lo).toNat l6).p,.b true])):=by
 refine hZ Tryz.func103 [.tmp 6,.tmp 7,.tmp 8] [] ?_
 repeat apply jL
 refine⟨[],_,JB l j 181 _ _ _ (λp _=>JD n lo p),?_⟩
 repeat apply jL
 refine jB (decide (t8 l n lo<0)) (λh=> ?_) λh=> ?_
 ·rw[aM] at h;rw[aE h];exact RetIs.v rfl rfl rfl
 ·rw[bH] at h;rw[aB h];have g:xq l.length (λk=>(l.getD k l6).n==n&&(l.getD k l6).l==lo)=true:=by rw[<-l3,aM];unfold t8 at h;omega
  obtain⟨k,q,f,_⟩:=GK g;have f:t8 l n lo=k:=f;refine⟨⟨by show 0<=t8 l n lo;omega,by show t8 l n lo<(l.length:Int);omega⟩,⟨by show 0<=t8 l n lo;omega,by show t8 l n lo<(l.length:Int);omega⟩,?_⟩;exact RetIs.v rfl rfl rfl
theorem BC (n e q:Int) (p:Pr):cC 253 [.ag p.av,.rp [.I n],.rp [.I e],.rp [.I q]] [] (.b (vS [.I p.n,.I p.e,.I p.p] [.I n,.I e,.I q])):=by refine hZ Tryz.func253 [.tmp 5] [] ?_;exact RetIs.b rfl
def Li (l:List Pr) (n e q:Int):Int:=fx l.length λk=>vS [.I (l.getD k l6).n,.I (l.getD k l6).e,.I (l.getD k l6).p] [.I n,.I e,.I q]
theorem JE (l:List Pr) (j:l.length<2^62) (n e q:Int):cC 187 [.rs 4 l.length (fb l),.I n,.I e,.I q] [] (.tup (if Li l n e q<0 then [.I 0,.b false] else [.I (l.getD (Li l n e q).toNat l6).l,.b true])):=by
 refine hZ Tryz.func187 [.tmp 8,.tmp 9] [] ?_
 repeat apply jL
 refine⟨[],_,JC l j 253 _ _ _ _ (λp _=>BC n e q p),?_⟩
 repeat apply jL
 refine jB (decide (Li l n e q<0)) (λh=> ?_) λh=> ?_
 ·rw[aM] at h;rw[aE h];exact RetIs.v rfl rfl rfl
 ·rw[bH] at h;rw[aB h];have g:xq l.length (λk=>vS [.I (l.getD k l6).n,.I (l.getD k l6).e,.I (l.getD k l6).p] [.I n,.I e,.I q])=true:=by rw[<-l3,aM];unfold Li at h;omega
  obtain⟨k,t,f,_⟩:=GK g;have f:Li l n e q=k:=f;refine⟨⟨by show 0<=Li l n e q;omega,by show Li l n e q<(l.length:Int);omega⟩,?_⟩;exact RetIs.v rfl rfl rfl
def RQ (p:Pr):Bool:=(((((((decide (p.n>=0)&&decide (p.n<12))&&decide (p.l>=0))&&decide (p.l<=1099511627776))&&decide (p.e>=0))&&decide (p.e<100000))&&decide (p.p>=0))&&decide (p.p<=99))
theorem vl (p:Pr):cC 255 [.ag p.av] [] (.b (RQ p)):=by refine hZ Tryz.func255 [.tmp 2] [] ?_;exact RetIs.b rfl
def lQ (a:Int):Int:=if(!bl a 2000)=true then-1 else a.tmod 12
theorem uM (a:Int):cC 71 [.I a] [] (.I (lQ a)):=by
 refine hZ Tryz.func71 [.tmp 2] [] ?_
 refine jb (n8 _ _) ?_
 repeat apply jL
 refine jB (!bl a 2000) (λh=> ?_) λh=> ?_
 ·refine RetIs.i ?_;unfold lQ;rw[aE h]
 ·refine⟨jD,RetIs.i ?_⟩;unfold lQ;rw[aB jR]
abbrev Pf_q0.av (p:Pf_q0):List AV:=p.cs (.rs 1 p.types.length (rB p.types))
theorem Lj (l:List Pf_q0) (g:l.length<2^62) (a:FuncId) (c e f:List AV) (p:Pf_q0->Bool) (hp: ∀x∈l,cC a [.ag x.av,.rp c,.rp e,.rp f] [] (.b (p x))):cC 286 [.rs 22 l.length (Rk l),.fn a [.rp c,.rp e,.rp f]] [] (.I (fx l.length λk=>p (l.getD k wV))):=by
 refine hZ Tryz.func286 [.tmp 4] [] ?_
 let dq:=wV
 exact m3
theorem Fc (l:List Pf_q0) (g:l.length<2^62) (a:FuncId) (c e f:List AV) (p:Pf_q0->Bool) (h: ∀x∈l,cC a [.ag x.av,.rp c,.rp e,.rp f] [] (.b (p x))):cC 228 [.rs 22 l.length (Rk l),.fn a [.rp c,.rp e,.rp f]] [] (.b (l.any p)):=by refine hZ Tryz.func228 [.tmp 4] [] ?_;exact .inl ⟨[],_,Lj l g a c e f p h,RetIs.b ((l3 _ _).trans (rL l wV p))⟩
theorem Lk (l:List Pf_q0) (f:l.length<2^62) (a:FuncId) (c e:List AV) (p:Pf_q0->Bool) (hp: ∀x∈l,cC a [.ag x.av,.rp c,.rp e] [] (.b (p x))):cC 286 [.rs 22 l.length (Rk l),.fn a [.rp c,.rp e]] [] (.I (fx l.length λk=>p (l.getD k wV))):=by
 refine hZ Tryz.func286 [.tmp 4] [] ?_
 let dq:=wV
 exact m3
theorem Fe (l:List Pf_q0) (f:l.length<2^62) (a:FuncId) (c e:List AV) (p:Pf_q0->Bool) (g: ∀x∈l,cC a [.ag x.av,.rp c,.rp e] [] (.b (p x))):cC 228 [.rs 22 l.length (Rk l),.fn a [.rp c,.rp e]] [] (.b (l.any p)):=by refine hZ Tryz.func228 [.tmp 4] [] ?_;exact .inl ⟨[],_,Lk l f a c e p g,RetIs.b ((l3 _ _).trans (rL l wV p))⟩
theorem JF (l:List Sa.Sta_q1) (n:l.length<2^62) (a:FuncId) (c e f g:List AV) (p:Sa.Sta_q1->Bool) (hp: ∀x∈l,cC a [.ag x.av,.rp c,.rp e,.rp f,.rp g] [] (.b (p x))):cC 305 [.rs 4 l.length (Sa.rowsS l),.fn a [.rp c,.rp e,.rp f,.rp g]] [] (.I (fx l.length λk=>p (l.getD k Sa.dS))):=by
 refine hZ Tryz.func305 [.tmp 4] [] ?_
 let dq:=Sa.dS
 exact m3
theorem BD (l:List Sa.Sta_q1) (h:l.length<2^62) (a:FuncId) (c e f g:List AV) (p:Sa.Sta_q1->Bool) (j: ∀x∈l,cC a [.ag x.av,.rp c,.rp e,.rp f,.rp g] [] (.b (p x))):cC 256 [.rs 4 l.length (Sa.rowsS l),.fn a [.rp c,.rp e,.rp f,.rp g]] [] (.b (l.any p)):=by refine hZ Tryz.func256 [.tmp 4] [] ?_;exact .inl ⟨[],_,JF l h a c e f g p j,RetIs.b ((l3 _ _).trans (rL l Sa.dS p))⟩
theorem BE (l:List Ev) (e:l.length<2^62) (a:FuncId) (c:List AV) (p:Ev->Bool) (hp: ∀x∈l,cC a [.ag x.av,.rp c] [] (.b (p x))):cC 347 [.rs 12 l.length (rE l),.fn a [.rp c]] [] (.I (fx l.length λk=>p (l.getD k dE))):=by
 refine hZ Tryz.func347 [.tmp 4] [] ?_
 let dq:=dE
 exact m3
theorem Rp (l:List Ev) (e:l.length<2^62) (a:FuncId) (c:List AV) (p:Ev->Bool) (f: ∀x∈l,cC a [.ag x.av,.rp c] [] (.b (p x))):cC 307 [.rs 12 l.length (rE l),.fn a [.rp c]] [] (.b (l.any p)):=by refine hZ Tryz.func307 [.tmp 4] [] ?_;exact .inl ⟨[],_,BE l e a c p f,RetIs.b ((l3 _ _).trans (rL l dE p))⟩
def ZK (g:Int) (e:Ev):Bool:=e.k==8&&e.g==g
theorem JG (s:Sa.Sta_q1) (e:Ev):cC 306 [.ag e.av,.rp s.av] [] (.b (ZK s.grp e)):=by refine hZ Tryz.func306 [.tmp 3] [] ?_;exact RetIs.b rfl
def vm (E:List Ev) (a b:Int):List Ev:=(E.drop a.toNat).take (b-a).toNat
def vn (p:Pf_q0) (s:Sa.Sta_q1) (E:List Ev) (id:Int):Bool:=
 if(p.hist !=1&&decide (id<=s.fr))=true then false else if(s.to== -1||decide (id<s.to))=true then true else if(p.rem !=1)=true then false else !(vm E (s.to+1) (id+1)).any (ZK s.grp)
theorem JH (E:List Ev) {a b:Int} (f:0<=a) (g:a<=b) (h:b<=E.length):eV (.rs 12 (vm E a b).length (rE (vm E a b))) (.rs 12 (b-a).toNat λq=>rE E (a.toNat+q)):=by
 have e:(vm E a b).length=(b-a).toNat:=by unfold vm;rw[cT,iB];omega
 refine⟨rfl,e.symm,λk c=> ?_⟩;rw[e] at c;show(E.getD (a.toNat+k) dE).av=((vm E a b).getD k dE).av;unfold vm
 congr 1
 simp[List.getD,eE,dZ,c]
theorem RR (p:Pf_q0) (s:Sa.Sta_q1) (E:List Ev) (id:Int) (l:E.length<=1000000) (j:0<=id) (h1:id<E.length) (n: -1<=s.to):cC 259 [p.ar,.ag s.av,.rs 12 E.length (rE E),.I id] [] (.b (vn p s E id)):=by
 refine hZ Tryz.func259 [.tmp 8] [] ?_
 repeat apply jL
 refine⟨λh=> ?_,λh=> ?_⟩
 ·have h:(p.hist !=1&&decide (id<=s.fr))=true:=h;refine RetIs.b ?_;unfold vn;rw[aE h]
 have h:(p.hist !=1&&decide (id<=s.fr))=false:=h
 repeat apply jL
 refine⟨λh2=> ?_,λh2=> ?_⟩
 ·have h2:(s.to== -1||decide (id<s.to))=true:=h2;refine RetIs.b ?_;unfold vn;rw[aB jR,aE h2]
 have h2:(s.to== -1||decide (id<s.to))=false:=h2
 repeat apply jL
 refine jB (p.rem !=1) (λf=> ?_) λf=> ?_
 ·refine RetIs.b ?_;unfold vn;rw[aB jR,aB jK,aE f]
 have g:=h2;rw[bT,cE,bH] at g;have w1:IntKind.i64.wrap (s.to+1)=s.to+1:=wr J J;have w2:IntKind.i64.wrap (id+1)=id+1:=wr J J
 repeat apply jL
 refine⟨by rw[w1,w2];omega,?_⟩
 repeat apply jL
 refine⟨[],_,j8.of_eq (args:=[.rs 12 (vm E (s.to+1) (id+1)).length (rE (vm E (s.to+1) (id+1))),.fn 306 [.rp s.av]]) ⟨by rw[w1,w2];exact JH E J J J,rfl⟩ (Rp (vm E (s.to+1) (id+1)) (by unfold vm;simp;omega) 306 s.av (ZK s.grp) (λx _=>JG s x)),?_⟩;refine RetIs.b ?_;unfold vn;rw[aB jR,aB jK,aB (by rw[f];decide)]
theorem BF (p:Pf_q0) (s:Sa.Sta_q1) (E:List Ev) (id:Int) (g:E.length<=1000000) (e:0<=id) (f:id<E.length) (j: -1<=s.to):cC 258 [p.ar,.rp s.av,.rp [.rs 12 E.length (rE E)],.rp [.I id]] [] (.b (!vn p s E id)):=by
 refine hZ Tryz.func258 [.tmp 5] [] ?_
 refine jb (RR p s E id g e f j) ?_;exact RetIs.b rfl
def VI (P:List Pf_q0) (E:List Ev) (a id:Int) (s:Sa.Sta_q1):Bool:=(s.acc==a&&s.grp==(E.getD id.toNat dE).g)&& !P.any λp=> !vn p s E id
theorem JI (P:List Pf_q0) (j:P.length<2^62) (s:Sa.Sta_q1) (E:List Ev) (c id:Int) (g:E.length<=1000000) (e:0<=id) (f:id<E.length) (l: -1<=s.to):cC 257 [.ag s.av,.rp [.rs 12 E.length (rE E)],.rp [.I id],.rp [.I c],.rp [.rs 22 P.length (Rk P)]] [] (.b (VI P E c id s)):=by
 refine hZ Tryz.func257 [.tmp 6] [] ?_
 repeat apply jL
 refine⟨λ_=>⟨J,J⟩,?_⟩
 repeat apply jL
 refine⟨[],_,λ_=>Fc P j 258 s.av _ _ _ (λp _=>BF p s E id g e f l),?_⟩;exact RetIs.b rfl
def dd (P:List Pf_q0) (E:List Ev) (S:List Sa.Sta_q1) (c id:Int):Bool:=if((E.getD id.toNat dE).a==c)=true then true else S.any (VI P E c id)
theorem Ff (P:List Pf_q0) (j:P.length<2^62) (E:List Ev) (S:List Sa.Sta_q1) (l:S.length<2^62) (c id:Int) (g:E.length<=1000000) (e:0<=id) (f:id<E.length) (q: ∀s∈S, -1<=s.to):cC 190 [.rs 22 P.length (Rk P),.rs 12 E.length (rE E),.rs 4 S.length (Sa.rowsS S),.I c,.I id] [] (.b (dd P E S c id)):=by
 refine hZ Tryz.func190 [.tmp 10] [] ?_
 repeat apply jL
 refine⟨⟨J,J⟩,?_⟩
 repeat apply jL
 refine⟨λh=> ?_,λh=> ?_⟩
 ·have h:((E.getD id.toNat dE).a==c)=true:=h;refine RetIs.b ?_;unfold dd;rw[aE h]
 have h:((E.getD id.toNat dE).a==c)=false:=h
 repeat apply jL
 refine⟨[],_,BD S l 257 _ _ _ _ _ (λs n=>JI P j s E c id g e f (q s n)),?_⟩;refine RetIs.b ?_;unfold dd;rw[aB jR]
def L7 (E:List Ev):List Sa.Sta_q1:=Sa.stays (Sa.evs E) E.length
theorem Rq (E:List Ev): ∀s∈L7 E, -1<=s.to:=λs a=>by obtain⟨i,_,rfl⟩:=fL.1 a;have:=Sa.endN_ge (Sa.evs E) (Sa.evs E i).w (Sa.evs E i).g (i+1) E.length;show-1<=Sa.endN (Sa.evs E) (Sa.evs E i).w (Sa.evs E i).g (i+1) E.length;omega
theorem Fg (E:List Ev):(L7 E).length<=E.length:=Sa.stays_len _ _
def Vy (E:List Ev) (a id:Int):Bool:=(decide (lQ a<0)||decide (id<0))||decide (id>=(E.length:Int))
def lr (P:List Pf_q0) (E:List Ev) (a id:Int):Bool:=if Vy E a id=true then false else dd P E (L7 E) a id
theorem RT (P:List Pf_q0) (l:P.length<2^62) (E:List Ev) (j:E.length<1000000) (f id:Int):cC 109 [.rs 22 P.length (Rk P),.rs 12 E.length (rE E),.I f,.I id] [] (.b (lr P E f id)):=by
 refine hZ Tryz.func109 [.tmp 8] [] ?_
 refine jb (uM _) ?_
 repeat apply jL
 refine jB (Vy E f id) (λh=> ?_) λh=> ?_
 ·refine RetIs.b ?_;unfold lr;rw[aE h]
 have g:=h;unfold Vy at g;rw[bT,bT,bH,bH,bH] at g
 repeat apply jL
 refine⟨[.row 367 4 (L7 E).length (Sa.rowsS (L7 E))],_,Sa.Stays_fn E j,?_⟩
 repeat apply jL
 refine⟨[],_,Ff P l E (L7 E) (by have:=Fg E;omega) f id J J J (Rq E),?_⟩;refine RetIs.b ?_;unfold lr;rw[aB jR]
def vo (P:List Pf_q0) (E:List Ev) (a:Int) (k:Nat):List Int:=((List.range k).filter λi:Nat=>dd P E (L7 E) a (i:Int)).map λi:Nat=>(i:Int)
theorem Au (P:List Pf_q0) (E:List Ev) (a:Int) (k:Nat):vo P E a (k+1)=if dd P E (L7 E) a k=true then vo P E a k++[(k:Int)] else vo P E a k:=by
 unfold vo;rw[iN,gS];by_cases h:dd P E (L7 E) a k=true
 ·rw[aE h];simp[h]
 ·rw[aB h];simp[h]
theorem Ll (P:List Pf_q0) (E:List Ev) (a:Int) (k:Nat):(vo P E a k).length<=k:=by unfold vo;rw[fC];exact cO (gC _ _) jS
theorem RU {P:List Pf_q0} {E:List Ev} {a:Int} {k:Nat} {x:Int} (h:x∈vo P E a k):0<=x/\x<k:=by obtain⟨i,c,rfl⟩:=fL.1 h;have:=fO.1 (eC.1 c).1;omega
def de (P:List Pf_q0) (E:List Ev) (a:Int):List Int:=if lQ a<0 then [] else vo P E a E.length
theorem RV (P:List Pf_q0) (t:P.length<2^62) (E:List Ev) (n:E.length<1000000) (f:Int):cC 186 [.rs 22 P.length (Rk P),.rs 12 E.length (rE E),.I f] [.row 3 1 (de P E f).length (rI (de P E f))] (.so 0):=by
 refine hZ Tryz.func186 [.tmp 6] [(999999,[.nl 6 3 1])] ?_
 refine jb (uM _) ?_
 repeat apply jL
 refine jB (decide (lQ f<0)) (λh=> ?_) λh=> ?_
 ·have h:lQ f<0:=jH
  have e:de P E f=[]:=by unfold de;rw[aE h]
  rw[e];exact RetIs.so rfl rfl (λq hq=>absurd hq (dU q)) (λ_ _=>rfl)
 have h: ¬lQ f<0:=jH
 repeat apply jL
 refine⟨[.row 367 4 (L7 E).length (Sa.rowsS (L7 E))],_,Sa.Stays_fn E n,?_⟩
 repeat apply jL
 refine⟨[(7,3,1)],Nat,λk=>k<=E.length,λk=>[⟨17,[],.I k⟩,⟨7,[],.so 1⟩],λk=>[⟨1,[],.row 3 1 (vo P E f k).length (rI (vo P E f k))⟩],λk=>E.length-k,
  np,?_⟩
 intro k l;have l:k<=E.length:=l;have w:=Ll P E f k;refine .inl ⟨λg=> ?_,λg=> ?_⟩
 ·have g:=pH g;have g:(k:Int)<E.length:=g
  repeat apply jL
  refine⟨[],_,Ff P t E (L7 E) (by have:=Fg E;omega) f k J J J (Rq E),?_⟩
  repeat apply jL
  refine jB (dd P E (L7 E) f k) (λh2=> ?_) λh2=> ?_
  ·refine⟨oJ J,?_⟩;have j:=Au P E f k;rw[aE h2] at j;refine⟨k+1,[(1,3)],J,jM,rfl,rfl,rfl,rfl,rfl,⟨nV,rfl⟩,⟨rfl,rfl,by rw[j];simp,λq hq=> ?_⟩⟩;rw[j] at hq|-;exact Sa.snocI _ _ q hq
  ·have j:=Au P E f k;rw[aB jK] at j;exact⟨k+1,[],J,jM,rfl,rfl,rfl,rfl,rfl,⟨nV,rfl⟩,⟨rfl,rfl,by rw[j],λq hq=>by rw[j]⟩⟩
 ·have g:=iT g;have g:(E.length:Int)<=k:=g;obtain rfl:k=E.length:=J
  have e:de P E f=vo P E f E.length:=by unfold de;rw[aB h]
  rw[e];exact RetIs.so rfl rfl (λ_ _=>rfl) (λ_ _=>rfl)
def aJ7 (P:List Pf_q0) (E:List Ev) (S:List Sa.Sta_q1) (c id a:Int):Bool:=(decide (lQ a>=0)&&lQ a==c)&&dd P E S a id
theorem ZL (P:List Pf_q0) (l:P.length<2^62) (E:List Ev) (S:List Sa.Sta_q1) (n:S.length<2^62) (e id a:Int) (j:E.length<=1000000) (f:0<=id) (g:id<E.length) (t: ∀s∈S, -1<=s.to):cC 293 [.I a,.rp [.I e],.rp [.rs 22 P.length (Rk P)],.rp [.rs 12 E.length (rE E)],.rp [.rs 4 S.length (Sa.rowsS S)],.rp [.I id]] [] (.b (aJ7 P E S e id a)):=by
 refine hZ Tryz.func293 [.tmp 7] [] ?_
 refine jb (uM _) ?_
 refine jc (uM _) ?_
 refine jc (Ff P l E S n a id j f g t) ?_;exact RetIs.b rfl
theorem RW (l:List Int) (q:l.length<2^62) (a:FuncId) (c e f g n:List AV) (p:Int->Bool) (hp: ∀x∈l,cC a [.I x,.rp c,.rp e,.rp f,.rp g,.rp n] [] (.b (p x))):cC 278 [.rs 1 l.length (rI l),.fn a [.rp c,.rp e,.rp f,.rp g,.rp n]] [] (.I (fx l.length λk=>p (l.getD k 0))):=by
 refine hZ Tryz.func278 [.tmp 4] [] ?_
 let dq:=0
 exact m3
theorem JJ (l:List Int) (j:l.length<2^62) (a:FuncId) (c e f g h:List AV) (p:Int->Bool) (k: ∀x∈l,cC a [.I x,.rp c,.rp e,.rp f,.rp g,.rp h] [] (.b (p x))):cC 240 [.rs 1 l.length (rI l),.fn a [.rp c,.rp e,.rp f,.rp g,.rp h]] [] (.b (l.any p)):=by refine hZ Tryz.func240 [.tmp 4] [] ?_;exact .inl ⟨[],_,RW l j a c e f g h p k,RetIs.b ((l3 _ _).trans (rL l 0 p))⟩
def vp (E:List Ev) (S:List Sa.Sta_q1) (id:Int) (k:Nat):List Int:=(E.getD id.toNat dE).a::(S.take k).map Sa.Sta_q1.acc
theorem BG (E:List Ev) (S:List Sa.Sta_q1) (id:Int) {k:Nat} (h:k<S.length):vp E S id (k+1)=vp E S id k++[(S.getD k Sa.dS).acc]:=by unfold vp;rw[bS h,xE h,fJ];rfl
def ZM (E:List Ev) (id:Int):Bool:=decide (id<0)||decide (id>=(E.length:Int))
def vq (P:List Pf_q0) (E:List Ev) (a id:Int):Bool:=if ZM E id=true then false else(vp E (L7 E) id (L7 E).length).any (aJ7 P E (L7 E) a id)
theorem JK (P:List Pf_q0) (F:P.length<2^62) (E:List Ev) (D:E.length<1000000) (j id:Int):cC 237 [.rs 22 P.length (Rk P),.rs 12 E.length (rE E),.I j,.I id] [] (.b (vq P E j id)):=by
 refine hZ Tryz.func237 [.tmp 8] [(5,[.sl 28 .u])] ?_
 repeat apply jL
 refine jB (ZM E id) (λh=> ?_) λh=> ?_
 ·refine RetIs.b ?_;unfold vq;rw[aE h]
 have n:=h;unfold ZM at n;rw[bT,bH,bH] at n;have G:=Fg E
 repeat apply jL
 refine⟨[.row 367 4 (L7 E).length (Sa.rowsS (L7 E))],_,Sa.Stays_fn E D,?_⟩
 repeat apply jL
 refine⟨⟨J,J⟩,?_⟩
 repeat apply jL
 refine hY trivial ?_
 repeat apply jL
 refine⟨[],Nat,λk=>k<=(L7 E).length,λk=>[⟨31,[],.I k⟩,⟨10,[],.so 6⟩],λk=>[⟨6,[],.row 3 1 (vp E (L7 E) id k).length (rI (vp E (L7 E) id k))⟩],λk=>(L7 E).length-k,
  ⟨0,[],bI _,rfl,rfl,rfl,rfl,rfl,⟨nT,rfl⟩,⟨rfl,rfl,rfl,λq g=>by
   have g:q<1:=g;obtain rfl:q=0:=J
   rfl⟩⟩,?_⟩
 intro k t;have t:k<=(L7 E).length:=t;have l:(vp E (L7 E) id k).length=k+1:=by unfold vp;simp;omega
 refine .inl ⟨λf=> ?_,λf=> ?_⟩
 ·have f:=pH f;have f:(k:Int)<(L7 E).length:=f;have C:(k:Int).toNat=k:=aQ k
  repeat apply jL
  have z:(vp E (L7 E) id k).length+1<=1000000:=by rw[l];omega
  have x:(k:Int).toNat<(L7 E).length:=J
  refine⟨⟨J,J⟩,x,oJ z,?_⟩;have w:=BG E (L7 E) id (k:=k) J;refine⟨k+1,[(6,9)],J,jM,rfl,rfl,rfl,rfl,rfl,⟨nV,rfl⟩,⟨rfl,rfl,by rw[w,bD,l];rfl,λq g=> ?_⟩⟩;rw[w] at g|-;have:=Sa.snocI (vp E (L7 E) id k) ((L7 E).getD k Sa.dS).acc q g;rw[<-this,C];rfl
 ·have f:=iT f;have f:((L7 E).length:Int)<=k:=f;obtain rfl:k=(L7 E).length:=J
  repeat apply jL
  refine⟨[],_,JJ (vp E (L7 E) id (L7 E).length) J 293 _ _ _ _ _ _ (λa _=>ZL P F E (L7 E) J j id a J J J (Rq E)),?_⟩;refine RetIs.b ?_;unfold vq;rw[aB jR]
end Go.Proofs.YtpnjmojpeaegoaaGreatDoor
