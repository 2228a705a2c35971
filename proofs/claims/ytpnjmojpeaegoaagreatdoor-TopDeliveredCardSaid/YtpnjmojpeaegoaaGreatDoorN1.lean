/-
  TopDelivered returns true whatever the input, and the input reads behind the call as it read before, where the three listed tables of Go's library hold what the program's text lays: a part of the proof.
-/
import Derived.KernelRfl
set_option linter.unusedSimpArgs false
set_option linter.unusedVariables false
section
theorem J{p:Prop}(k:p:=by omega):p:=k
theorem V{p:Prop}(k:p:=by kernel_rfl):p:=k
theorem jD{p:Prop}(k:p:=by decide):p:=k
theorem jS{p:Prop}(k:p:=by simp):p:=k
theorem jR{p:Prop}(k:p:=by rw[h];decide):p:=k
theorem jC{p:Prop}(k:p:=by cases h):p:=k
theorem jO{p:Prop}(k:p:=by simp;omega):p:=k
theorem jX{p:Prop}(k:p:=by cases c<;>first|rfl|cases h):p:=k
theorem jH{p:Prop}(k:p:=by simpa using h):p:=k
theorem jM{p:Prop}(k:p:=by dsimp only;omega):p:=k
theorem jE{p:Prop}(k:p:=by simpa using he):p:=k
theorem j2{p:Prop}(k:p:=by simpa using h2):p:=k
theorem j1{p:Prop}(k:p:=by simpa using h1):p:=k
theorem jK{p:Prop}(k:p:=by rw[h2];decide):p:=k
theorem jT{p:Prop}(k:p:=by simpa using hj):p:=k
theorem jA{p:Prop}(k:p:=by assumption):p:=k
theorem j3{p:Prop}(k:p:=by simpa using h3):p:=k
theorem jI{p:Prop}(k:p:=by simpa using hi):p:=k
theorem jh{p:Prop}(k:p:=by simp at h):p:=k
theorem jj{p:Prop}(k:p:=by simp at hj):p:=k
theorem jk{p:Prop}(k:p:=by simp at hk):p:=k
theorem jl{p:Prop}(k:p:=by simp at h1):p:=k
theorem jr{p:Prop}(k:p:=by rfl):p:=k
theorem jV{p:Prop}(k:p:=by simpa [AV.lt] using hl):p:=k
theorem jL{a b:Prop}(h:a):a\/b:=.inl h
theorem jb{α:Prop}{p q:Prop}(c:α)(k:q)(h:α->q->p:=by intro c k;(repeat apply jL);refine⟨_,_,c,?_⟩;exact k):p:=h c k
theorem jc{α:Prop}{p q:Prop}(c:α)(k:q)(h:α->q->p:=by intro c k;(repeat apply jL);refine⟨_,_,λ_=>c,?_⟩;exact k):p:=h c k
theorem jB{c:Bool}(b:Bool){A B:Prop}(h1:b=true->A)(h2:b=false->B)(e:c=b:=by rfl):(c=true->A)/\(c=false->B):=⟨λh=>h1 (e▸h),λh=>h2 (e▸h)⟩
theorem qQ{p:Prop}(k:p:=by
 repeat apply jL
 refine⟨_,_,_,_,_,⟨λi hi=>absurd hi (Nat.not_lt_zero i),rfl,BQ _ _ _⟩,?_⟩;refine⟨_,_,_,_,_,⟨λ_ _=>rfl,rfl,zD 1 jD⟩,?_⟩;refine⟨_,_,_,_,_,⟨λ_ _=>rfl,rfl,zD 2 jD⟩,?_⟩;refine⟨_,_,_,_,_,⟨λ_ _=>rfl,rfl,zD 3 jD⟩,?_⟩;refine⟨_,_,_,_,_,⟨λ_ _=>rfl,rfl,zD 4 jD⟩,?_⟩;refine⟨_,_,_,_,_,⟨λ_ _=>rfl,rfl,zD 5 jD⟩,?_⟩;refine⟨_,_,_,_,_,⟨λ_ _=>rfl,rfl,zD 6 jD⟩,?_⟩;refine⟨_,_,_,_,_,⟨λ_ _=>rfl,rfl,zD 7 jD⟩,?_⟩;refine⟨_,_,_,_,_,⟨λ_ _=>rfl,rfl,zD 8 jD⟩,?_⟩;refine⟨_,_,_,_,_,⟨λ_ _=>rfl,rfl,zD 9 jD⟩,?_⟩
 refine jb (aI4 i hfs hup) ?_
 refine jc (uM i.raw.a) ?_
 repeat apply jL
 refine jB (H4 P i) (λh=> ?_) λh=> ?_
 ·refine Or.inr (Or.inr ?_);refine⟨true,[],rfl,Unit,_,_,_,_,Fb st hs,λ_ _=> ?_⟩;refine⟨((g0,o0),st,kV,1),[(0,0)],⟨λ_=>rfl,λh2=>by rw[h] at h2;cases h2⟩,⟨⟨⟨rfl,rfl,rfl⟩,trivial⟩,⟨⟨rfl,rfl,rfl,eN.refl _⟩,trivial⟩,rfl⟩,rfl,λh=>jC⟩
 have hact:=hact h;refine Or.inr (Or.inr ?_);refine⟨true,[],rfl,Unit,_,_,_,_,Fb st hs,λ_ _=> ?_⟩;have aU:0<=i.k/\i.k<=9:=hk (Wg h)
 repeat apply jL
 refine⟨true,.fn (F7.getD i.k.toNat (0,0)).2 [],⟨λj hj=>rfl,rfl,⟨λ_=>⟨i.k.toNat,J,JV aU,eV.refl _⟩,λh=>jC⟩⟩,?_⟩;refine Or.inr (Or.inr ?_);refine⟨true,bq,rfl,(Sta_q0×List Ot×Int),_,_,_,_,hact,λy hy=> ?_⟩
 repeat apply jL
 refine⟨λh3=> ?_,λh3=> ?_⟩
 ·have h3:y.2.2≠0:=Em h3;refine Or.inr (Or.inr ?_);refine⟨true,[],rfl,Unit,_,_,_,_,Fb st hs,λ_ _=> ?_⟩;refine⟨((y.1,y.2.1),st,kV,y.2.2),[(0,0)],⟨λh2=>(by rw[h] at h2;cases h2),λ_=>⟨y,hy,rfl,by rw[if_neg h3]⟩⟩,⟨⟨⟨rfl,rfl,rfl⟩,trivial⟩,⟨⟨rfl,rfl,rfl,eN.refl _⟩,trivial⟩,rfl⟩,rfl,λh=>jC⟩
 have h3:y.2.2=0:=jg h3;refine⟨((y.1,y.2.1),y.1,.rs 14 y.2.1.length (Bg y.2.1),0),[(0,0)],⟨λh2=>(by rw[h] at h2;cases h2),λ_=>⟨y,hy,rfl,by rw[if_pos h3]⟩⟩,⟨⟨⟨rfl,rfl,rfl⟩,trivial⟩,⟨⟨rfl,rfl,rfl,eN.refl _⟩,trivial⟩,rfl⟩,rfl,λh=>jC⟩
 ):p:=k
theorem m3{p:Prop}(k:p:=by
 refine .inl ⟨[],Nat,λk=>k<=l.length/\ ∀j,j<k->p (l.getD j dq)=false,λk=>[⟨8,[],.I k⟩],λ_=>[],λk=>l.length-k,⟨0,[],⟨Nat.zero_le _,λj hj=>absurd hj (Nat.not_lt_zero j)⟩,rfl,rfl,rfl,rfl,rfl,⟨rfl,rfl⟩,trivial⟩,?_⟩;rintro k ⟨hk,hno⟩;refine .inl ⟨λhc=> ?_,λhc=>RetIs.i (GJ λj hj=>hno j (by have:=iT hc;omega)).symm⟩;have hc:=pH hc;refine .inl ⟨J,.inl ⟨[],_,hp (l.getD k dq) (vM J),λh=>RetIs.i (aDe (p:=λk=>p (l.getD k dq)) J hno h).symm,λh=>⟨k+1,[],⟨J,λj hj=> ?_⟩,jM,rfl,rfl,rfl,rfl,rfl,⟨rfl,wr J J⟩,trivial⟩⟩⟩;by_cases hjk:j=k
 ·subst hjk;exact h
 ·exact hno j J
 ):p:=k
theorem m4{p:Prop}(k:p:=by
 have hg: ∀j,j<zs.length->zs.toArray[j]! =zs.getD j 0:=λj hj=>by simp[hj]
 have hle: ∀i j,i<=j->j<zs.length->zs.getD i 0<=zs.getD j 0:=by
  intro i j hij hj;by_cases he:i=j
  ·subst he;omega
  ·have:=List.pairwise_iff_getElem.1 h i j J hj J;simpa [List.getD,hj,show i<zs.length by omega] using this
 have hsz:zs.toArray.size=zs.length:=jS
 constructor
 ·unfold Lib.compact Lib.compactUpTo;rw[List.pairwise_map];refine List.Pairwise.imp_of_mem ?_ ((List.pairwise_lt_range (n:=zs.length)).filter _);intro a b ha hb bK;rw[List.mem_filter,List.mem_range] at ha hb;have hk:=hb.2;unfold Lib.keeps at hk;rw[decide_eq_true_eq] at hk;rw[hg a ha.1,hg b hb.1];rw[hg b hb.1,hg (b-1) J] at hk;have h1:=hle a (b-1) J J;have h2:=hle (b-1) b J J;omega
 ·intro x;unfold Lib.compact Lib.compactUpTo;simp only[List.mem_map,List.mem_filter,List.mem_range];constructor
  ·rintro⟨j,⟨hj,_⟩,rfl⟩;rw[hg j hj];simp[List.getD,hj]
  ·intro hx;obtain⟨j,hj,rfl⟩:=List.getElem_of_mem hx;have key: ∀j,j<zs.length-> ∃a,(a<zs.length/\Lib.keeps zs.toArray a=true)/\zs.getD a 0=zs.getD j 0:=by
    intro j
    induction j with
    |zero=>exact λhj=>⟨0,⟨hj,by simp[Lib.keeps]⟩,rfl⟩
    |succ j ih=>
     intro hj;by_cases he:zs.getD (j+1) 0=zs.getD j 0
     ·obtain⟨a,ha,hb⟩:=ih J;exact⟨a,ha,hb.trans he.symm⟩
     ·refine⟨j+1,⟨hj,?_⟩,rfl⟩;unfold Lib.keeps;rw[decide_eq_true_eq,hg (j+1) hj];right;rw[show j+1-1=j from rfl,hg j J];exact he
   obtain⟨a,ha,hb⟩:=key j hj;refine⟨a,ha,?_⟩;rw[hg a ha.1,hb];simp[List.getD,hj]
 ):p:=k
theorem m6{p:Prop}(k:p:=by
 simp only[List.getD];by_cases h:j<L.length
 ·rw[if_pos h,List.getElem?_append_left h]
 ·rw[if_neg h,List.getElem?_append_right J];by_cases h2:j=L.length
  ·rw[if_pos h2,h2];simp
  ·rw[if_neg h2,List.getElem?_eq_none jO];rfl
 ):p:=k
theorem m7{p:Prop}(k:p:=by
 have h1:=List.pairwise_mergeSort (le:=λx y:Int=>decide (x<=y)) (λa b c h1 h2=>by simp at*;omega) (λa b=>jO) l;have h2:(kO l).Pairwise (· <= ·):=h1.imp λh=>jH
 have h3:(kO l).Nodup:=(List.mergeSort_perm l _).nodup_iff.2 h;exact(h2.and h3).imp λh=>by have:=h.1;have:=h.2;omega
 ):p:=k
theorem m8{p:Prop}(k:p:=by
 repeat apply jL
 refine RetIs.so rfl rfl (λk hk=> ?_) (λk _=>rfl)
 match k,hk with
 |0,_=>rfl
 |1,_=>rfl
 |2,_=>rfl
 |k+3,h=>exact absurd h J
 ):p:=k
theorem m9{p:Prop}(k:p:=by
 unfold l7;split
 ·exact Nat.zero_le _
 ·split
  ·exact Nat.zero_le _
  ·have h1:=(List.filter_append_perm (λx=>v4 x d) r).length_eq;rw[List.length_append] at h1;unfold Sj;rw[List.length_append,List.length_cons];omega
 ):p:=k
theorem mA{p:Prop}(k:p:=by
 repeat apply jL
 refine⟨λh=> ?_,λh=> ?_⟩
 ·cases h
 ·exact⟨(),[(0,0)],trivial,⟨⟨⟨rfl,rfl,rfl⟩,trivial⟩,⟨⟨rfl,rfl,rfl,eN.refl _⟩,trivial⟩,rfl⟩,rfl,λh=>jC⟩
 ):p:=k
theorem mC{p:Prop}(k:p:=by
 rw[List.getD_eq_getElem?_getD,List.getElem?_set];split
 ·split
  ·exact hx
  ·rfl
 ·rw[<-List.getD_eq_getElem?_getD];exact h q
 ):p:=k
theorem mD{p:Prop}(k:p:=by
 refine jb (E7 _ _) ?_
 refine jb (E7 _ _) ?_
 refine jb (GL _ _) ?_;exact RetIs.i rfl
 ):p:=k
theorem mE{p:Prop}(k:p:=by
 repeat apply jL
 repeat apply jL
 refine⟨λh=> ?_,λh=> ?_⟩
 ·exact⟨rfl,rfl⟩
 cases h
 ):p:=k
theorem mF{p:Prop}(k:p:=by
 refine⟨k+1,[],⟨J,λj hj=> ?_⟩,jM,rfl,rfl,rfl,rfl,rfl,⟨rfl,wr J J⟩,trivial⟩;by_cases hjk:j=k
 ·subst hjk;exact h
 ·exact hno j J
 ):p:=k
theorem mG{p:Prop}(k:p:=by
 refine⟨?_,?_,rfl⟩<;>(repeat' first|exact rfl|exact trivial|refine⟨?_,?_⟩|intro _ _)
 ):p:=k
theorem mH{p:Prop}(k:p:=by
 show(match AO.row e sz n' get,fK id O with
  | .dead,_=>True
  |o,some ([],o')=>eN (o.ren (rn [(0,id)])) o'
  |_,_=>False)
 rw[hg];exact⟨rfl,rfl,rfl,hget⟩
 ):p:=k
theorem mI{p:Prop}(k:p:=by
 refine⟨λi j hij h1 h2=> ?_,λi h1=> ?_,λi j hij h1 h2=> ?_⟩
 ·simp at h1 h2;by_cases hj:j=es.size
  ·subst hj;have:=ho.old i hij;simpa [Array.getElem_push,hij] using this
  ·have hj':j<es.size:=J;have:=ho.asc i j hij J hj';simpa [Array.getElem_push,hj',show i<es.size by omega] using this
 ·simp at h1;by_cases hi:i=es.size
  ·subst hi;simp
  ·have:=ho.old i J;simp[Array.getElem_push,show i<es.size by omega];omega
 ·simp at h1 h2;by_cases hj:j=es.size
  ·subst hj;have:=hno es[i] jS;simpa [Array.getElem_push,hij] using this
  ·have hj':j<es.size:=J;have:=ho.one i j hij J hj';simpa [Array.getElem_push,hj',show i<es.size by omega] using this
 ):p:=k
theorem mJ{p:Prop}(k:p:=by
 obtain rfl:q=l.length:=J
 rw[if_neg hq2,if_neg hq2,if_pos rfl,Nat.sub_self];rfl
 ):p:=k
theorem mK{p:Prop}(k:p:=by
 exact RetIs.so rfl (hc jX).symm (λk hk=>absurd hk (by have:=hc jX;omega)) (λk hk=>rfl)
 ):p:=k
theorem mL{p:Prop}(k:p:=by
 rw[ek] at h;refine⟨k+1,[],⟨J,λj hj=> ?_⟩,jM,rfl,rfl,rfl,rfl,rfl,⟨rfl,wr J J⟩,trivial⟩;by_cases hjk:j=k
 ·rw[hjk];exact h
 ·exact hno j J
 ):p:=k
theorem mM{p:Prop}(k:p:=by
 rw[Bool.not_eq_true'] at h;have hA:oA E e=(E,(0,2)):=by unfold oA;rw[if_pos h]
 rw[hA];refine⟨⟨(),[(5,7),(6,6)],trivial,⟨⟨⟨rfl,rfl,eV.refl _⟩,trivial⟩,⟨⟨rfl,rfl,rfl,⟨rfl,vX.refl _⟩⟩,⟨rfl,rfl,trivial,trivial⟩,⟨rfl,rfl,rfl,eN.own E _⟩,⟨rfl,rfl,trivial,trivial⟩,⟨rfl,rfl,trivial,eN.refl _⟩,⟨rfl,rfl,trivial,eN.refl _⟩,⟨rfl,rfl,trivial,trivial⟩,trivial⟩,rfl⟩,rfl,λh=>jC⟩⟩
 ):p:=k
theorem mN{p:Prop}(k:p:=by
 exact RetIs.so rfl (Nat.zero_add _) aDg (λ_ _=>rfl)
 ):p:=k
theorem mO{p:Prop}(k:p:=by
 rename_i t m x y aj;obtain⟨r,hr,h⟩:=fI h;obtain⟨r',aP,h⟩:=fI h;obtain⟨r2,cw,h⟩:=fI h;obtain⟨w',hrun,hp⟩:=xf (P:=P) am E hT (aq _ _ hr) (aq _ _ aP) (aq _ _ cw) h;have:(execOp a.eval o).run P w= .ok .skip w':=by simp only[execOp,aj,Sem.run_bind,hrun,Result.andThen_ok];rfl
 exact .skip this hp
 ):p:=k
theorem mP{p:Prop}(k:p:=by
 have h0:l.length=0:=hc jX
 exact RetIs.so rfl h0.symm (λk hk=>J) (λk hk=>J)
 ):p:=k
theorem mQ{p:Prop}(k:p:=by
 exact⟨⟨[],⟨⟨⟨rfl,rfl,eV.refl _⟩,trivial⟩,trivial,rfl⟩,rfl,trivial⟩⟩
 ):p:=k
theorem mR{p:Prop}(k:p:=by
 refine⟨λq r dM h1 h2=> ?_,λq h1=> ?_,λq r dM h1 h2=> ?_⟩
 ·simp at h1 h2;rw[hget q _ h1,hget r _ h2];exact ho.asc q r dM h1 h2
 ·simp at h1;rw[hget q _ h1];exact ho.old q h1
 ·simp at h1 h2;rw[hget q _ h1,hget r _ h2];exact ho.one q r dM h1 h2
 ):p:=k
theorem mS{p:Prop}(k:p:=by
 exact⟨(st,[],13),[(0,0),(1,1),(2,2)],λe=>absurd e (by show¬(13:Int)=0;decide),⟨⟨⟨rfl,rfl,rfl,rfl⟩,trivial⟩,⟨⟨rfl,rfl,rfl,xS s P st⟩,⟨rfl,rfl,trivial,trivial⟩,⟨rfl,rfl,trivial,trivial⟩,trivial⟩,rfl⟩,rfl,λh=>jC⟩
 ):p:=k
theorem mU{p:Prop}(k:p:=by
 refine⟨j+1,[],⟨J,λh=> ?_,λh=> ?_⟩,jM,rfl,rfl,rfl,rfl,rfl,⟨rfl,wr J J⟩,trivial⟩
 ·match j,hj1,hb with
  |0,_,hb=>exact hb
  |j+1,hj1,_=>exact hj1 J
 ·match j,hc,hb,h with
  |0,_,_,h=>omega
  |1,_,hb,_=>exact hb
 ):p:=k
theorem mV{p:Prop}(k:p:=by
 have h0:l.length=0:=hc jX
 exact⟨(),[(0,0)],trivial,⟨⟨⟨rfl,rfl,rfl⟩,trivial⟩,⟨⟨rfl,rfl,trivial,⟨rfl,rfl,h0.symm,λk hk=>absurd hk (by rw[h0];exact Nat.not_lt_zero k)⟩⟩,trivial⟩,rfl⟩,rfl,λh=>jC⟩
 ):p:=k
theorem mW{p:Prop}(k:p:=by
 rintro g ⟨j,o,hj,hg⟩
 match j with
 |0=>simp at hj;subst hj;exact .inl ⟨0,_,rfl,hg⟩
 |j+1=>simp at hj
 ):p:=k
theorem mX{p:Prop}(k:p:=by
 refine(M1 s P g0 o0 st hf i hfs hup (λh=>oc h) (λ_=>False) (λh=>by rw[hb] at h;cases h)).less λz hz=>⟨z,jv hl.1 (sp:=λ_=>False) (λ_ h=>h.elim) (λ_ h=>h.elim) z hz,rfl,rfl,rfl⟩
 ):p:=k
theorem mY{p:Prop}(k:p:=by
 intro j j' o o' g hj hj' _ _
 match j,j' with
 |0,0=>rfl
 |j+1,_=>simp at hj
 |0,j'+1=>simp at hj'
 ):p:=k
theorem mZ{p:Prop}(k:p:=by
 by_cases h2:j<off+cs.length
 ·rw[List.getElem_append_left jO,List.getElem_append_right jO,dif_pos J]
  congr 1
  simp;omega
 ·rw[List.getElem_append_right jO,dif_neg J];simp
  congr 1
  omega
 ):p:=k
theorem ma{p:Prop}(k:p:=by
 exact⟨(),[(0,1)],trivial,⟨⟨⟨rfl,rfl,rfl⟩,trivial⟩,⟨⟨rfl,rfl,trivial,⟨rfl,rfl,Nat.zero_add _,λk hk=>aDg (n:=l.length) k hk⟩⟩,trivial⟩,rfl⟩,rfl,λh=>jC⟩
 ):p:=k
theorem mc{p:Prop}(k:p:=by
 exact⟨(k+1,C,I),[],⟨jM,hl,jM,hI⟩,jM,rfl,rfl,rfl,rfl,rfl,⟨⟨rfl,wr J J⟩,rfl,rfl⟩,⟨eN.refl (.row 92 5 C.length (SF C)),eN.refl (.row 3 1 I.length (rI I))⟩⟩
 ):p:=k
theorem md{p:Prop}(k:p:=by
 exact⟨(st,[],13),[(0,0)],λe=>absurd e (by show¬(13:Int)=0;decide),⟨⟨⟨rfl,rfl,rfl,rfl⟩,trivial⟩,⟨⟨rfl,rfl,rfl,xS s P st⟩,trivial⟩,rfl⟩,rfl,λh=>jC⟩
 ):p:=k
theorem me{p:Prop}(k:p:=by
 exact⟨(st,[],4),[(0,0)],λe=>absurd e (by show¬(4:Int)=0;decide),⟨⟨⟨rfl,rfl,rfl,rfl⟩,trivial⟩,⟨⟨rfl,rfl,rfl,xS s P st⟩,trivial⟩,rfl⟩,rfl,λh=>jC⟩
 ):p:=k
theorem mf{p:Prop}(k:p:=by
 exact absurd (e1.trans e2.symm) (ho.one i j h hi2 hj2)
 ):p:=k
theorem mg{p:Prop}(k:p:=by
 exact absurd (e2.trans e1.symm) (ho.one j i h hj2 hi2)
 ):p:=k
theorem mj{p:Prop}(k:p:=by
 rename_i hn ht;obtain rfl:=zT hn;refine⟨.bool false,?_,_,h,.pure _ _ (.b _)⟩;unfold lD;rw[Sem.run_bind,M8];simp[binOp,M7 hT ht]
 ):p:=k
theorem mn{p:Prop}(k:p:=by
 rename_i hn ht;obtain rfl:=zT hn;refine⟨.bool true,?_,_,h,.pure _ _ (.b _)⟩;unfold lD;rw[Sem.run_bind,M8];simp[binOp,M7 hT ht]
 ):p:=k
theorem ms{p:Prop}(k:p:=by
 refine Or.inr (Or.inl ?_);refine⟨_,cB,?_⟩;refine⟨(),[],trivial,rfl,?_,?_,rfl⟩<;>(repeat' first|exact rfl|exact trivial|refine⟨?_,?_⟩|intro _ _)
 ):p:=k
theorem mu{p:Prop}(k:p:=by
 simp[Builtin.delete_,hts,run_underlying aF,Go.MapKept.run_getObj_map hh,kY es.isEmpty hkv,hfind,Go.MapKept.run_setObj_map _ hh]
 ):p:=k
theorem mw{p:Prop}(k:p:=by
 simp only[grow,putRow,mapBlock,Sort.ahead];rw[Array.getElem?_append_left (by simpa using hb),Array.getElem?_modify,if_neg (Ne.symm hne)]
 ):p:=k
theorem my{p:Prop}(k:p:=by
 have:=Rep.ag (β:=β) (n:=nid) (F:=F) (w:=w) az cells.toList (by simpa using hrel.1) (λj h1 h2=>(hrel.2 j h1 j2).1);simpa using this
 ):p:=k
theorem qR{p:Prop}(k:p:=by
 rw[show dG _ nid (AO.row e sz 0 λ_=>[]) b=(kI ((β.valAt nid (.slice none 0 0)).val nid)=some b) from rfl,hval] at hb;cases hb
 ):p:=k
theorem mz{p:Prop}(k:p:=by
 simp only[grow,putRow,mapBlock,Sort.ahead];rw[Array.getElem?_append_left (by simpa using hlt),Array.getElem?_modify,if_pos rfl,hh];rfl
 ):p:=k
theorem n9{p:Prop}(k:p:=by
 intro j j' o o' g h1 h2 _ _;cases j<;>cases j'<;>simp at h1 h2|-
 ):p:=k
theorem nA{p:Prop}(k:p:=by
 simp[Instr.mapUpdate,run_underlying aF,Go.MapKept.run_getObj_map hh,kY false hkv,hfind,Go.MapKept.run_setObj_map _ hh]
 ):p:=k
theorem qS{p:Prop}(k:p:=by
 have h:(!E9 l|| !aHw now)=true:=h;unfold Lift;rw[if_pos h];exact RetIs.soI rfl rfl (λ_ _=>rfl) (yC l) rfl
 ):p:=k
theorem nC{p:Prop}(k:p:=by
 refine⟨(),[(3,4),(4,3)],trivial,rfl,?_,?_,rfl⟩<;>(repeat' first|exact rfl|exact trivial|refine⟨?_,?_⟩|intro _ _)
 ):p:=k
theorem nD{p:Prop}(k:p:=by
 obtain⟨u,e1,e2⟩:=this.2 J;exact⟨u,by simpa using e1,by simp only[List.getElem_cons_succ,e2];congr 2;omega⟩
 ):p:=k
theorem nE{p:Prop}(k:p:=by
 rw[if_pos h];simp[List.getD,List.getElem?_append_left h]
 ):p:=k
theorem nF{p:Prop}(k:p:=by
 obtain⟨a,b,c,d,e⟩:=I.href x hx;exact⟨a,b,c,d,J⟩
 ):p:=k
theorem nG{p:Prop}(k:p:=by
 refine RetIs.b ?_;have h:((a.length:Int) !=b.length)=true:=h;simp at h;simp;intro he;exact h (by rw[he])
 ):p:=k
theorem nH{p:Prop}(k:p:=by
 exact⟨false,[],λh=>jC,⟨⟨⟨rfl,rfl,rfl⟩,trivial⟩,trivial,rfl⟩,rfl,λ_=>⟨rfl,trivial⟩⟩
 ):p:=k
theorem nI{p:Prop}(k:p:=by
 rw[cell_of_row w _ _ _ _ _ hh,e];exact hcell j hj'
 ):p:=k
theorem nJ{p:Prop}(k:p:=by
 rename_i x aj;obtain⟨r,hr,h⟩:=fI h;exact .any h (aq _ _ hr) λw'=>by simp[execOp,aj]
 ):p:=k
theorem nK{p:Prop}(k:p:=by
 obtain⟨x,hx,ex⟩:=List.mem_map.1 hm;injection ex with e1 e2;have:=(I.href x hx).2.2.2.2;omega
 ):p:=k
theorem nL{p:Prop}(k:p:=by
 obtain⟨x,hx,ex⟩:=List.mem_map.1 hm;injection ex with e1 e2;have:=(I.hq x hx).2.2.2.2;omega
 ):p:=k
theorem nM{p:Prop}(k:p:=by
 have e:k=q:=J;subst e;have e:=(Int.toNat_natCast k).symm;dsimp only
 repeat rw[if_pos e]
 rfl
 ):p:=k
theorem nN{p:Prop}(k:p:=by
 have hc:=iT hc;refine RetIs.b ?_;have hk2:k=a.length:=J
 subst hk2;simp[QC hl he]
 ):p:=k
theorem nO{p:Prop}(k:p:=by
 rw[if_neg h];have:k=l.length:=by simp at hk;omega
 subst this;simp[List.getD];rfl
 ):p:=k
theorem nP{p:Prop}(k:p:=by
 rintro(h1|h1|h1)
 ·exact .inr (.inl h1)
 ·exact .inl h1
 ·exact .inr (.inr h1)
 ):p:=k
theorem nQ{p:Prop}(k:p:=by
 rw[hu] at hu';obtain⟨rfl,_⟩:=TypeDesc.array.inj (Option.some.inj hu');omega
 ):p:=k
theorem qT{p:Prop}(k:p:=by
 have hc:=iT hc;refine RetIs.i ?_;exact(aIi p l λj hj=>hno j J).symm
 ):p:=k
theorem qU{p:Prop}(k:p:=by
 have hc:=iT hc;refine RetIs.i ?_;exact(aIq p l λj hj=>hno j J).symm
 ):p:=k
theorem nR{p:Prop}(k:p:=by exact⟨⟨rfl,rfl,eV.refl _⟩,trivial⟩):p:=k
theorem nS{p:Prop}(k:p:=by exact⟨rfl,rfl,trivial,trivial⟩):p:=k
theorem nT{p:Prop}(k:p:=by exact⟨rfl,rfl⟩):p:=k
theorem nU{p:Prop}(k:p:=by exact⟨⟨rfl,rfl,rfl⟩,trivial⟩):p:=k
theorem nV{p:Prop}(k:p:=by exact⟨rfl,wr J J⟩):p:=k
theorem nX{p:Prop}(k:p:=by exact⟨rfl,rfl,rfl,λq hq=>absurd hq (Nat.not_lt_zero q)⟩):p:=k
theorem nW{p:Prop}(k:p:=by exact⟨nR,⟨⟨rfl,rfl,rfl,⟨rfl,vX.refl _⟩⟩,nS,⟨rfl,rfl,rfl,eN.own E _⟩,nS,⟨rfl,rfl,trivial,eN.refl _⟩,⟨rfl,rfl,trivial,eN.refl _⟩,nS,trivial⟩,rfl⟩):p:=k
theorem nY{p:Prop}(k:p:=by exact⟨⟨rfl,rfl,rfl,rfl⟩,trivial⟩):p:=k
theorem nZ{p:Prop}(k:p:=by exact⟨rfl,rfl,rfl,⟨rfl,vX.refl _⟩⟩):p:=k
theorem na{p:Prop}(k:p:=by exact⟨0,[],⟨Nat.zero_le _,λj hj=>J⟩,rfl,rfl,rfl,rfl,rfl,nT,trivial⟩):p:=k
theorem nc{p:Prop}(k:p:=by exact⟨0,[],⟨Nat.zero_le _,λj hj=>absurd hj (Nat.not_lt_zero j)⟩,rfl,rfl,rfl,rfl,rfl,nT,trivial⟩):p:=k
theorem ng{p:Prop}(k:p:=by exact⟨[],⟨nR,trivial,rfl⟩,rfl,trivial⟩):p:=k
theorem nj{p:Prop}(k:p:=by exact⟨nU,⟨⟨rfl,rfl,trivial,⟨rfl,rfl,rfl,λq hq=>rfl⟩⟩,trivial⟩,rfl⟩):p:=k
theorem ni{p:Prop}(k:p:=by exact⟨rfl,rfl,trivial,eN.refl _⟩):p:=k
theorem nk{p:Prop}(k:p:=by exact⟨(),[(0,0),(1,1)],trivial,⟨nY,⟨⟨rfl,rfl,rfl,xS s P st⟩,nS,trivial⟩,rfl⟩,rfl,λh=>jC⟩):p:=k
theorem nm{p:Prop}(k:p:=by exact⟨(),[],trivial,rfl,rfl,rfl,rfl,rfl,by rw[e1];rfl,by rw[e1];exact eN.refl (.cells 64 _)⟩):p:=k
theorem np{p:Prop}(k:p:=by exact⟨0,[],Nat.zero_le _,rfl,rfl,rfl,rfl,rfl,⟨nT,rfl⟩,nX⟩):p:=k
theorem nr{p:Prop}(k:p:=by exact⟨rfl,rfl,λ_ _=>⟨rfl,rfl,rfl⟩⟩):p:=k
theorem ns{p:Prop}(k:p:=by exact⟨λi hi=>absurd hi (Nat.not_lt_zero i),rfl,.inr ⟨λi hi=>absurd hi (Nat.not_lt_zero i),rfl,rfl,λj hj=>absurd hj (Nat.not_lt_zero j),rfl,rfl,rfl⟩⟩):p:=k
theorem nu{p:Prop}(k:p:=by exact⟨z,jv hl.1 (λy hy e=>by rw[(hy e).2];exact .oth hk9 (hy e).1) h9 z hz,rfl,rfl,rfl⟩):p:=k
theorem nv{p:Prop}(k:p:=by exact⟨nY,⟨⟨rfl,rfl,rfl,xS s P st⟩,trivial⟩,rfl⟩):p:=k
theorem nw{p:Prop}(k:p:=by exact⟨nU,⟨⟨rfl,rfl,trivial,nX⟩,trivial⟩,rfl⟩):p:=k
theorem ny{p:Prop}(k:p:=by exact⟨(),[],trivial,⟨nR,⟨nZ,trivial⟩,rfl⟩,rfl,λh=>jC⟩):p:=k
theorem q6{p:Prop}(k:p:=by exact⟨rfl,λ_ _=>rfl⟩):p:=k
theorem q7{p:Prop}(k:p:=by exact⟨0,[],Nat.zero_le _,rfl,rfl,rfl,rfl,rfl,⟨nT,rfl⟩,⟨rfl,rfl,rfl,λj hj=>absurd hj (Nat.not_lt_zero j)⟩⟩):p:=k
theorem q8{p:Prop}(k:p:=by exact⟨λ_ _ _=>rfl,⟨rfl,rfl,by rw[hval],λk hk=>by rw[hval]⟩,rfl⟩):p:=k
theorem q9{p:Prop}(k:p:=by exact⟨nY,⟨⟨rfl,rfl,rfl,xS s P _⟩,trivial⟩,rfl⟩):p:=k
theorem qA{p:Prop}(k:p:=by exact⟨rfl,rfl,rfl,λk hk=>absurd hk (Nat.not_lt_zero k)⟩):p:=k
theorem qC{p:Prop}(k:p:=by exact⟨0,[],Nat.zero_le _,rfl,rfl,rfl,rfl,rfl,nT,trivial⟩):p:=k
theorem qD{p:Prop}(k:p:=by exact⟨(),[],trivial,rfl,rfl,rfl,rfl,rfl,congrArg AV.s er,trivial⟩):p:=k
theorem qE{p:Prop}(k:p:=by exact⟨rfl,rfl,trivial,⟨rfl,rfl,rfl,λk hk=>rfl⟩⟩):p:=k
theorem qF{p:Prop}(k:p:=by exact⟨rfl,rfl,rfl,⟨rfl,eV.refl _⟩⟩):p:=k
theorem qG{p:Prop}(k:p:=by exact⟨⟨rfl,rfl,rfl,Nat.le_refl _,λ_ _ _=>rfl⟩,Nat.le_refl _⟩):p:=k
theorem qH{p:Prop}(k:p:=by exact⟨(),[],trivial,⟨nR,⟨nZ,nS,trivial⟩,rfl⟩,rfl,λh=>jC⟩):p:=k
theorem qI{p:Prop}(k:p:=by exact⟨rfl,rfl,λk hk=>absurd hk (Nat.not_lt_zero k)⟩):p:=k
theorem qV{p:Prop}(k:p:=by exact⟨rfl,rfl,rfl,h3,λb ap hn=>h2 b ap λe=>hn ⟨0,_,rfl,by rw[e];simp[dG,hv,kI]⟩,Nat.le_add_right _ _⟩):p:=k
theorem qK{p:Prop}(k:p:=by exact⟨rfl,vX.refl _⟩):p:=k
theorem qL{p:Prop}(k:p:=by exact⟨rfl,rfl,rfl,eN.refl _⟩):p:=k
theorem qM{p:Prop}(k:p:=by exact⟨nU,⟨ni,trivial⟩,rfl⟩):p:=k
theorem qN{p:Prop}(k:p:=by exact⟨0,[],Nat.zero_le _,rfl,rfl,rfl,rfl,rfl,⟨nT,rfl,rfl⟩,trivial⟩):p:=k
theorem qO{p:Prop}(k:p:=by exact⟨(),[],trivial,⟨nR,trivial,rfl⟩,rfl,λh=>jC⟩):p:=k
theorem qP{p:Prop}(k:p:=by exact⟨0,[],Nat.zero_le _,rfl,rfl,rfl,rfl,rfl,⟨nT,nT⟩,trivial⟩):p:=k
theorem qW{p:Prop}(k:p:=by exact⟨k+1,[],J,jM,rfl,rfl,rfl,rfl,rfl,nV,trivial⟩):p:=k
theorem qX{p:Prop}(k:p:=by exact⟨⟨rfl,rfl,rfl,jS,λg _ hne=>vV w _ o g (λe=>hne (by rw[e]))⟩,Nat.le_refl _⟩):p:=k
set_option linter.defProp false
def aW:=@Bool.and_eq_true
def aM:=@decide_eq_true_eq
def aE:=@if_pos
def bT:=@Bool.or_eq_false_iff
def aB:=@if_neg
def jZ:=@ByteArray.size_extract
def aG:=@Nat.le_refl
def bD:=@List.length_append
def cD:=@List.length_singleton
def aQ:=@Int.toNat_natCast
def eJ:=@List.take_length
def cI:=@ByteArray.size_append
def bI:=@Nat.zero_le
def fW:=@congrArg
def cK:=@Option.some.inj
def kK:=@of_decide_eq_true
def dQ:=@Bool.not_eq_true'
def bH:=@decide_eq_false_iff_not
def hV:=@Bool.not_eq_false'
def fU:=@List.all_eq_true
def fL:=@List.mem_map
def cH:=@beq_iff_eq
def fC:=@List.length_map
def kR:=@Int.le_refl
def xT:=@List.length_replicate
def bS:=@List.take_succ_eq_append_getElem
def iQ:=@List.foldl_append
def fJ:=@List.map_append
def vC:=@List.sum_append
def cR:=@List.mem_append
def bV:=@List.mem_singleton
def iG:=@Nat.sub_self
def hY:=@And.intro
def aN:=@Or.inr
def eX:=@Or.inl
def dU:=@Nat.not_lt_zero
def fM:=@Int.eq_ofNat_of_zero_le
def eZ:=@Bool.or_eq_true
def iZ:=@Bool.and_eq_false_iff
def tK:=@Bool.false_and
def pB:=@Bool.and_false
def cT:=@List.length_take
def fR:=@List.take_of_length_le
def dR:=@Nat.zero_add
def sO:=@List.any_append
def oP:=@List.length_range
def iN:=@List.range_succ
def eR:=@List.getD_eq_getElem?_getD
def eY:=@List.getElem?_eq_none
def tW:=@Bool.and_eq_true_iff
def oL:=@Option.isSome_iff_exists
def xH:=@Bool.false_or
def bL:=@List.getElem?_eq_getElem
def vN:=@Bool.false_ne_true
def kM:=@Nat.lt_or_ge
def eS:=@Nat.lt_of_lt_of_le
def cO:=@Nat.le_trans
def eF:=@List.mem_cons
def kN:=@Nat.eq_of_beq_eq_true
def fZ:=@List.mem_cons_of_mem
def xU:=@Nat.le_of_ble_eq_true
def eP:=@Nat.le_succ
def gQ:=@List.pairwise_map
def iI:=@List.nodup_append
def vO:=@List.Pairwise.imp_of_mem
def oH:=@Classical.byContradiction
def jP:=@List.pairwise_cons
def sP:=@List.mem_mergeSort
def rM:=@List.prefix_refl
def kG:=@List.take_append_of_le_length
def g8:=@List.prefix_append
def fB:=@List.getElem?_append_left
def eC:=@List.mem_filter
def gH:=@decide_eq_true
def fO:=@List.mem_range
def gK:=@List.foldl_cons
def sR:=@Nat.add_sub_cancel
def oB:=@Nat.lt_irrefl
def pQ:=@List.length_nil
def dZ:=@List.getElem?_take
def cN:=@Array.getElem?_eq_some_iff
def fE:=@List.getElem_cons_zero
def fA:=@List.eq_nil_of_length_eq_zero
def eE:=@List.getElem?_drop
def gL:=@getElem!_pos
def lB:=@List.ext_getElem?
def pY:=@List.getElem?_map
def sB:=@Array.toList_mapIdx
def mi:=@List.getElem?_mapIdx
def lR:=@Option.map_some
def pC:=@Nat.le_add_right
def cU:=@List.getElem_of_mem
def uW:=@Nat.add_le_add_left
def bU:=@Nat.mul_le_mul_right
def bM:=@List.getElem?_eq_some_iff
def jQ:=@List.nodup_cons
def iA:=@Nat.succ_lt_succ
def fH:=@List.any_eq_false
def kC:=@List.any_eq_true
def l9:=@List.take_sublist
def sS:=@Nat.lt_or_gt_of_ne
def B9:=@Eq.trans
def lC:=@List.filter_eq_self
def lM:=@bne_iff_ne
def fY:=@bne_eq_false_iff_eq
def iB:=@List.length_drop
def cE:=@beq_eq_false_iff_ne
def gS:=@List.filter_append
def gC:=@List.length_filter_le
def oQ:=@List.all_eq_false
def fN:=@List.getElem_mem
def oI:=@List.drop_eq_getElem_cons
def iK:=@Int.natCast_nonneg
def pD:=@Nat.mul_le_mul
def sC:=@List.length_reverse
def iV:=@List.ext_getElem
def rN:=@Option.getD_some
def eW:=@List.findIdx?_eq_some_iff_getElem
def gF:=@List.findIdx?_eq_none_iff
def gZ:=@decide_eq_false
def rO:=@Nat.add_comm
def zG:=@List.drop_succ_cons
def dT:=@Option.some.injEq
def yG:=@Nat.ne_of_lt
def iL:=@Nat.add_zero
def kL:=@Nat.lt_trichotomy
def iS:=@Ne.symm
def fX:=@Array.getElem_push
def tX:=@dite_false
def tT:=@dite_true
def fS:=@Array.getElem?_eq_getElem
def tY:=@Array.getElem_modify
def iF:=@Prod.mk.injEq
def uS:=@if_true
def rG:=@dif_pos
def fV:=@Nat.add_mul
def tZ:=@Nat.mod_lt
def Cl:=@Array.getElem_toList
def iC:=@Nat.succ_mul
def g5:=@Nat.sub_mul
def iR:=@Nat.mul_comm
def vD:=@Nat.mul_add_mod
def kD:=@Nat.mod_eq_of_lt
def oC:=@Nat.lt_of_mul_lt_mul_right
def sK:=@dif_neg
def zN:=@Prod.ext
def lE:=@List.append_nil
def uA:=@beq_self_eq_true
def oX:=@List.flatMap_append
def oD:=@Bool.true_and
def pJ:=@List.find?_eq_none
def oM:=@List.find?_eq_some_iff_getElem
def uB:=@decide_eq_decide
def fT:=@Nat.add_assoc
def rP:=@Int.le_trans
def zH:=@Array.length_toList
def iO:=@List.getElem_map
def Cp:=@List.mem_of_mem_take
def xB:=@Nat.one_mul
def hJ:=@List.getElem_append_left
def kF:=@List.getElem_append_right
def wT:=@List.getElem_drop
def pZ:=@List.getElem_take
def pT:=@Array.getElem?_append_left
def gR:=@List.length_cons
def xJ:=@List.mem_flatMap
def gI:=@Nat.le_succ_of_le
def iD:=@List.length_set
def xC:=@List.filter_eq_nil_iff
def kX:=@Nat.succ_le_succ
def tJ:=@List.getElem?_set
def oY:=@List.map_congr_left
def gP:=@List.map_cons
def iW:=@List.filter_cons
def gD:=@List.append_assoc
def oU:=@List.filter_append_perm
def vE:=@List.filter_map
def rH:=@List.Perm.refl
def v5:=@Array.ext
def tL:=@List.mem_append_right
def iE:=@List.mem_append_left
def pE:=@List.foldl_nil
def p3:=@Bool.or_true
def rQ:=@Nat.sub_zero
def oV:=@List.filter_cons_of_neg
def oW:=@List.filter_cons_of_pos
def oN:=@List.getElem?_take_of_lt
def wH:=@List.nodup_nil
def hM:=@Bool.eq_iff_iff
def lS:=@List.cons.injEq
def kW:=@List.getElem?_cons_succ
def jU:=@List.mem_of_getElem?
def jF:=@Array.getD_eq_getD_getElem?
def M3:=@Iff.rfl
def g9:=@Nat.eq_zero_or_pos
def oE:=@List.drop_drop
def lI:=@List.drop_append_of_le_length
def p4:=@List.map_nil
def tM:=@Array.getElem?_modify
def pF:=@Array.getElem?_setIfInBounds
def y0:=@Prod.mk.inj
def sH:=@List.pairwise_singleton
def gA:=@Nat.lt_succ_self
def vP:=@List.length_erase_of_mem
def p5:=@List.getElem_inj
def gJ:=@List.getElem?_append_right
def uO:=@Int.tmod_eq_emod_of_nonneg
def kZ:=@Exists.intro
def zO:=@if_false
def p6:=@Array.mem_filter
def lU:=@List.getD_cons_succ
def vQ:=@Nat.lt_or_eq_of_le
def zI:=@List.getElem_mapIdx
def p7:=@List.zipIdx_cons
def j7:=@Bool.and_true
def uC:=@Bool.not_eq_true
def pU:=@List.nodup_iff_pairwise_ne
def gN:=@List.pairwise_iff_getElem
def uD:=@List.pairwise_append
def xK:=@List.cons_append
def lH:=@List.take_append_drop
def m1:=@Int.emod_eq_of_lt
def zQ:=@Int.mul_nonneg
def tI:=@Int.mul_le_mul_of_nonneg_left
def p8:=@List.drop_length
def xL:=@List.length_tail
def yH:=@Int.ediv_nonneg
def p9:=@Int.ediv_le_self
def uP:=@Int.tdiv_eq_ediv_of_nonneg
def C0:=@Array.ext'
def wP:=@List.length_eq_zero_iff
def yI:=@Nat.pow_le_pow_right
def sU:=@of_decide_eq_false
def rR:=@Nat.add_right_cancel_iff
def yJ:=@List.filter_nil
def pK:=@List.map_map
def uQ:=@List.perm_ext_iff_of_nodup
def lO:=@Bool.eq_false_iff
def uX:=@Int.toNat_of_nonneg
def tG:=@List.getElem_cons_succ
def vF:=@List.nil_append
def uY:=@List.mem_map_of_mem
def oF:=@List.getElem_range
def q5:=@Nat.div_eq_of_lt
def Pf:=@Nat.div_lt_of_lt_mul
def vG:=@Nat.div_add_mod
def pG:=@List.dropLast_concat_getLast
def pL:=@Bool.false_eq_true
def r3:=@List.range'_succ
def zR:=@List.drop_left
def n3:=@not_false_eq_true
def i1:=@Nat.lt_of_le_of_lt
def wQ:=@Nat.le_mul_of_pos_right
def vH:=@Array.mapM_eq_mapM_toList
def i2:=@List.getElem?_tail
def wR:=@List.pairwise_mergeSort
def r4:=@Bool.not_not
def uE:=@List.mem_of_mem_drop
def vJ:=@List.mem_of_find?_eq_some
def hX:=@List.mem_cons_self
def jJ:=@Nat.lt_succ_of_lt
def iU:=@Nat.lt_of_succ_lt_succ
def n4:=@Nat.or_lt_two_pow
def zJ:=@Array.toList_append
def uT:=@Nat.min_def
def vR:=@Nat.le_of_lt
def r5:=@List.perm_middle
end
