/-
  Several texts in one: Ckn, Cko, Ckp, Ckm, Ckq, Cks, Ckv, Ckw, Cl2p, Ckr, Ckt.
-/
import Derived.Test.YtnookbebiacaeaaMg21

section
namespace Go.Proofs.Ytnookbebiacaeaa
open Go.Eng Go.RowKit
def sPut (st : St) (t : Nat) (x : ByteArray) : St × Dn :=
 match (st.fs t).find? (fun p => bytesEq p.2 x) with
 | some p => (st, (p.1, noB, 0))
 | none => (putS st t x, (st.nx t, noB, 0))
def sDrop (st : St) (t : Nat) (n : Int) : St × Dn :=
 match mget (st.fs t) n with
 | some x => (dropS st t n x, (0, noB, 0))
 | none => (st, (0, noB, 4))
def sDo (st : St) (o : Opn) : St × Dn :=
 if 0 ≤ o.t ∧ o.t < 12 then
  (if o.d = 0 then sPut st o.t.toNat o.x else if o.d = 1 then (st, getD0 (mget (st.fs o.t.toNat) o.n)) else if o.d = 2 then sDrop st o.t.toNat o.n else (st, (0, noB, 0)))
 else
  (if o.d = 0 then (st, (0, noB, 1)) else if o.d = 1 then (st, (0, noB, 4)) else if o.d = 2 then (st, (0, noB, 4)) else (st, (0, noB, 0)))
structure SOk (st : St) (m : Nat) : Prop where
 t : ∀ t, t < 12 → TOk (st.fs t) (st.nx t) m
 u : UB st.us 100000
theorem find_at {L : List (Int × ByteArray)} {p : Int × ByteArray} {x : ByteArray} (h : L.find? (fun p => bytesEq p.2 x) = some p) : ∃ i, i < L.length ∧ L.getD i dFl = p ∧ p.2 = x ∧ ∀ j, j < i → (L.getD j dFl).2 ≠ x := by
 rw [List.find?_eq_some_iff_getElem] at h
 obtain ⟨hp, i, hi, he, hj⟩ := h
 refine ⟨i, hi, by rw [gdI hi, he], bytes_eq.1 hp, fun j hji e => ?_⟩
 have := hj j hji
 rw [gdI (by omega)] at e
 rw [bytes_eq.2 e] at this
 cases this
theorem find_no {L : List (Int × ByteArray)} {x : ByteArray} (h : L.find? (fun p => bytesEq p.2 x) = none) : ∀ j, j < L.length → (L.getD j dFl).2 ≠ x := by
 intro j hj e
 rw [List.find?_eq_none] at h
 exact h _ (getD_memD dFl hj) (bytes_eq.2 e)
set_option maxRecDepth 20000 in
set_option maxHeartbeats 8000000 in
theorem do_fn (st : St) (B : Bn) (o : Opn) (m : Nat) (hS : SOk st m) (hm : m ≤ 200) (hB : BOk st B) (hx : o.x.size ≤ 200) (F : St × Dn) (hF : F = sDo st o) :
  CtrM Try.prog 57 true (storeO st B) [.p 0 0, .ag o.av] (fun B' : Bn => BOk F.1 B') (fun B' => storeO F.1 B') (fun _ => []) (fun _ => .ag (dnA F.2)) := by
 refine fn_of_execM tabOk Try.func57 (by kernel_rfl) rfl (N := Try.f57.ntmps) rfl (res := [.cell 4 73]) rfl true false (storeO st B) _ _ _ _ rfl (fun h => by cases h) [] ?_
 unfold sDo at hF
 by_cases hr : 0 ≤ o.t ∧ o.t < 12
 ·rw [if_pos hr] at hF
  obtain ⟨t, ht⟩ : ∃ t : Nat, o.t = t := ⟨o.t.toNat, by omega⟩
  have ht12 : t < 12 := by omega
  have hT := hS.t t ht12
  rw [ht, Int.toNat_natCast] at hF
  repeat refine Or.inl ?_
  refine ⟨fun h => ?_, fun h => ?_⟩
  ·have h : (o.d == 0) = true := h
   rw [beq_iff_eq] at h
   rw [if_pos h] at hF
   unfold sPut at hF
   cases hfd : (st.fs t).find? (fun p => bytesEq p.2 o.x) with
   | some p =>
    rw [hfd] at hF
    dsimp only at hF
    subst hF
    obtain ⟨i, h1, h2, h3, h4⟩ := find_at hfd
    have c := put_same st B t m o.x ht12 hm hT hx i h1 (by rw [h2]; exact h3) h4
    rw [← ht, h2] at c
    refine Or.inr (Or.inr ?_)
    refine ⟨true, [0, 1, 2, 3, 4, 5, 6, 7, 8, 9, 10, 11, 12, 13], rfl, Unit, _, _, _, _, c, fun y hy => ?_⟩
    repeat refine Or.inl ?_
    exact ⟨B, [], hB, ⟨⟨⟨rfl, rfl, AVEq.refl _⟩, trivial⟩, ⟨⟨rfl, rfl, rfl, ⟨rfl, AVsEq.refl _⟩⟩, ⟨rfl, rfl, trivial, AOEq.refl _⟩, ⟨rfl, rfl, trivial, AOEq.refl _⟩, ⟨rfl, rfl, trivial, AOEq.refl _⟩, ⟨rfl, rfl, trivial, AOEq.refl _⟩, ⟨rfl, rfl, trivial, AOEq.refl _⟩, ⟨rfl, rfl, trivial, AOEq.refl _⟩, ⟨rfl, rfl, trivial, AOEq.refl _⟩, ⟨rfl, rfl, trivial, AOEq.refl _⟩, ⟨rfl, rfl, trivial, AOEq.refl _⟩, ⟨rfl, rfl, trivial, AOEq.refl _⟩, ⟨rfl, rfl, trivial, AOEq.refl _⟩, ⟨rfl, rfl, trivial, AOEq.refl _⟩, ⟨rfl, rfl, trivial, AOEq.refl _⟩, trivial⟩, rfl⟩, rfl, fun h => by cases h⟩
   | none =>
    rw [hfd] at hF
    dsimp only at hF
    subst hF
    have c := put_new st B t m o.x ht12 hm hT hx hB hS.u (find_no hfd)
    rw [← ht] at c
    refine Or.inr (Or.inr ?_)
    refine ⟨true, [0, 1, 2, 3, 4, 5, 6, 7, 8, 9, 10, 11, 12, 13], rfl, Bn, _, _, _, _, c, fun y hy => ?_⟩
    repeat refine Or.inl ?_
    exact ⟨y, [], hy, ⟨⟨⟨rfl, rfl, AVEq.refl _⟩, trivial⟩, ⟨⟨rfl, rfl, rfl, ⟨rfl, AVsEq.refl _⟩⟩, ⟨rfl, rfl, trivial, AOEq.refl _⟩, ⟨rfl, rfl, trivial, AOEq.refl _⟩, ⟨rfl, rfl, trivial, AOEq.refl _⟩, ⟨rfl, rfl, trivial, AOEq.refl _⟩, ⟨rfl, rfl, trivial, AOEq.refl _⟩, ⟨rfl, rfl, trivial, AOEq.refl _⟩, ⟨rfl, rfl, trivial, AOEq.refl _⟩, ⟨rfl, rfl, trivial, AOEq.refl _⟩, ⟨rfl, rfl, trivial, AOEq.refl _⟩, ⟨rfl, rfl, trivial, AOEq.refl _⟩, ⟨rfl, rfl, trivial, AOEq.refl _⟩, ⟨rfl, rfl, trivial, AOEq.refl _⟩, ⟨rfl, rfl, trivial, AOEq.refl _⟩, trivial⟩, rfl⟩, rfl, fun h => by cases h⟩
  ·have h : (o.d == 0) = false := h
   rw [beq_eq_false_iff_ne] at h
   rw [if_neg h] at hF
   repeat refine Or.inl ?_
   refine ⟨fun h2 => ?_, fun h2 => ?_⟩
   ·have h2 : (o.d == 1) = true := h2
    rw [beq_iff_eq] at h2
    rw [if_pos h2] at hF
    have c := get_fn st B t o.n ht12 (fun p hp => Nat.le_trans (hT.sz p hp) (by decide))
    rw [← ht] at c
    refine Or.inr (Or.inr ?_)
    refine ⟨true, [0, 1, 2, 3, 4, 5, 6, 7, 8, 9, 10, 11, 12, 13], rfl, Unit, _, _, _, _, c, fun y hy => ?_⟩
    clear hy
    subst hF
    cases hg : mget (st.fs t) o.n with
    | none =>
     repeat refine Or.inl ?_
     exact ⟨B, [], hB, ⟨⟨⟨rfl, rfl, AVEq.refl _⟩, trivial⟩, ⟨⟨rfl, rfl, rfl, ⟨rfl, AVsEq.refl _⟩⟩, ⟨rfl, rfl, trivial, AOEq.refl _⟩, ⟨rfl, rfl, trivial, AOEq.refl _⟩, ⟨rfl, rfl, trivial, AOEq.refl _⟩, ⟨rfl, rfl, trivial, AOEq.refl _⟩, ⟨rfl, rfl, trivial, AOEq.refl _⟩, ⟨rfl, rfl, trivial, AOEq.refl _⟩, ⟨rfl, rfl, trivial, AOEq.refl _⟩, ⟨rfl, rfl, trivial, AOEq.refl _⟩, ⟨rfl, rfl, trivial, AOEq.refl _⟩, ⟨rfl, rfl, trivial, AOEq.refl _⟩, ⟨rfl, rfl, trivial, AOEq.refl _⟩, ⟨rfl, rfl, trivial, AOEq.refl _⟩, ⟨rfl, rfl, trivial, AOEq.refl _⟩, trivial⟩, rfl⟩, rfl, fun h => by cases h⟩
    | some z =>
     repeat refine Or.inl ?_
     exact ⟨B, [], hB, ⟨⟨⟨rfl, rfl, AVEq.refl _⟩, trivial⟩, ⟨⟨rfl, rfl, rfl, ⟨rfl, AVsEq.refl _⟩⟩, ⟨rfl, rfl, trivial, AOEq.refl _⟩, ⟨rfl, rfl, trivial, AOEq.refl _⟩, ⟨rfl, rfl, trivial, AOEq.refl _⟩, ⟨rfl, rfl, trivial, AOEq.refl _⟩, ⟨rfl, rfl, trivial, AOEq.refl _⟩, ⟨rfl, rfl, trivial, AOEq.refl _⟩, ⟨rfl, rfl, trivial, AOEq.refl _⟩, ⟨rfl, rfl, trivial, AOEq.refl _⟩, ⟨rfl, rfl, trivial, AOEq.refl _⟩, ⟨rfl, rfl, trivial, AOEq.refl _⟩, ⟨rfl, rfl, trivial, AOEq.refl _⟩, ⟨rfl, rfl, trivial, AOEq.refl _⟩, ⟨rfl, rfl, trivial, AOEq.refl _⟩, trivial⟩, rfl⟩, rfl, fun h => by cases h⟩
   ·have h2 : (o.d == 1) = false := h2
    rw [beq_eq_false_iff_ne] at h2
    rw [if_neg h2] at hF
    repeat refine Or.inl ?_
    refine ⟨fun h3 => ?_, fun h3 => ?_⟩
    ·have h3 : (o.d == 2) = true := h3
     rw [beq_iff_eq] at h3
     rw [if_pos h3] at hF
     unfold sDrop at hF
     cases hg : mget (st.fs t) o.n with
     | none =>
      rw [hg] at hF
      dsimp only at hF
      subst hF
      have c := drop_no st B t o.n ht12 hg
      rw [← ht] at c
      refine Or.inr (Or.inr ?_)
      refine ⟨true, [0, 1, 2, 3, 4, 5, 6, 7, 8, 9, 10, 11, 12, 13], rfl, Unit, _, _, _, _, c, fun y hy => ?_⟩
      repeat refine Or.inl ?_
      exact ⟨B, [], hB, ⟨⟨⟨rfl, rfl, AVEq.refl _⟩, trivial⟩, ⟨⟨rfl, rfl, rfl, ⟨rfl, AVsEq.refl _⟩⟩, ⟨rfl, rfl, trivial, AOEq.refl _⟩, ⟨rfl, rfl, trivial, AOEq.refl _⟩, ⟨rfl, rfl, trivial, AOEq.refl _⟩, ⟨rfl, rfl, trivial, AOEq.refl _⟩, ⟨rfl, rfl, trivial, AOEq.refl _⟩, ⟨rfl, rfl, trivial, AOEq.refl _⟩, ⟨rfl, rfl, trivial, AOEq.refl _⟩, ⟨rfl, rfl, trivial, AOEq.refl _⟩, ⟨rfl, rfl, trivial, AOEq.refl _⟩, ⟨rfl, rfl, trivial, AOEq.refl _⟩, ⟨rfl, rfl, trivial, AOEq.refl _⟩, ⟨rfl, rfl, trivial, AOEq.refl _⟩, ⟨rfl, rfl, trivial, AOEq.refl _⟩, trivial⟩, rfl⟩, rfl, fun h => by cases h⟩
     | some z =>
      rw [hg] at hF
      dsimp only at hF
      subst hF
      have hz : z.size ≤ 200 := by
       obtain ⟨i, g1, g2, g3⟩ := mget_some hg dFl
       rw [← g3]
       exact hT.sz _ (getD_memD dFl g1)
      have c := drop_fn st B t o.n z ht12 hg (Nat.le_trans hz (by decide)) hB hS.u
      rw [← ht] at c
      refine Or.inr (Or.inr ?_)
      refine ⟨true, [0, 1, 2, 3, 4, 5, 6, 7, 8, 9, 10, 11, 12, 13], rfl, Bn, _, _, _, _, c, fun y hy => ?_⟩
      repeat refine Or.inl ?_
      exact ⟨y, [], hy, ⟨⟨⟨rfl, rfl, AVEq.refl _⟩, trivial⟩, ⟨⟨rfl, rfl, rfl, ⟨rfl, AVsEq.refl _⟩⟩, ⟨rfl, rfl, trivial, AOEq.refl _⟩, ⟨rfl, rfl, trivial, AOEq.refl _⟩, ⟨rfl, rfl, trivial, AOEq.refl _⟩, ⟨rfl, rfl, trivial, AOEq.refl _⟩, ⟨rfl, rfl, trivial, AOEq.refl _⟩, ⟨rfl, rfl, trivial, AOEq.refl _⟩, ⟨rfl, rfl, trivial, AOEq.refl _⟩, ⟨rfl, rfl, trivial, AOEq.refl _⟩, ⟨rfl, rfl, trivial, AOEq.refl _⟩, ⟨rfl, rfl, trivial, AOEq.refl _⟩, ⟨rfl, rfl, trivial, AOEq.refl _⟩, ⟨rfl, rfl, trivial, AOEq.refl _⟩, ⟨rfl, rfl, trivial, AOEq.refl _⟩, trivial⟩, rfl⟩, rfl, fun h => by cases h⟩
    ·have h3 : (o.d == 2) = false := h3
     rw [beq_eq_false_iff_ne] at h3
     rw [if_neg h3] at hF
     subst hF
     exact ⟨B, [], hB, ⟨⟨⟨rfl, rfl, AVEq.refl _⟩, trivial⟩, ⟨⟨rfl, rfl, rfl, ⟨rfl, AVsEq.refl _⟩⟩, ⟨rfl, rfl, trivial, AOEq.refl _⟩, ⟨rfl, rfl, trivial, AOEq.refl _⟩, ⟨rfl, rfl, trivial, AOEq.refl _⟩, ⟨rfl, rfl, trivial, AOEq.refl _⟩, ⟨rfl, rfl, trivial, AOEq.refl _⟩, ⟨rfl, rfl, trivial, AOEq.refl _⟩, ⟨rfl, rfl, trivial, AOEq.refl _⟩, ⟨rfl, rfl, trivial, AOEq.refl _⟩, ⟨rfl, rfl, trivial, AOEq.refl _⟩, ⟨rfl, rfl, trivial, AOEq.refl _⟩, ⟨rfl, rfl, trivial, AOEq.refl _⟩, ⟨rfl, rfl, trivial, AOEq.refl _⟩, ⟨rfl, rfl, trivial, AOEq.refl _⟩, trivial⟩, rfl⟩, rfl, fun h => by cases h⟩
 ·rw [if_neg hr] at hF
  repeat refine Or.inl ?_
  refine ⟨fun h => ?_, fun h => ?_⟩
  ·have h : (o.d == 0) = true := h
   rw [beq_iff_eq] at h
   rw [if_pos h] at hF
   subst hF
   refine Or.inr (Or.inr ?_)
   refine ⟨true, [0, 1, 2, 3, 4, 5, 6, 7, 8, 9, 10, 11, 12, 13], rfl, Unit, _, _, _, _, put_none st B o.t o.x hr, fun y hy => ?_⟩
   repeat refine Or.inl ?_
   exact ⟨B, [], hB, ⟨⟨⟨rfl, rfl, AVEq.refl _⟩, trivial⟩, ⟨⟨rfl, rfl, rfl, ⟨rfl, AVsEq.refl _⟩⟩, ⟨rfl, rfl, trivial, AOEq.refl _⟩, ⟨rfl, rfl, trivial, AOEq.refl _⟩, ⟨rfl, rfl, trivial, AOEq.refl _⟩, ⟨rfl, rfl, trivial, AOEq.refl _⟩, ⟨rfl, rfl, trivial, AOEq.refl _⟩, ⟨rfl, rfl, trivial, AOEq.refl _⟩, ⟨rfl, rfl, trivial, AOEq.refl _⟩, ⟨rfl, rfl, trivial, AOEq.refl _⟩, ⟨rfl, rfl, trivial, AOEq.refl _⟩, ⟨rfl, rfl, trivial, AOEq.refl _⟩, ⟨rfl, rfl, trivial, AOEq.refl _⟩, ⟨rfl, rfl, trivial, AOEq.refl _⟩, ⟨rfl, rfl, trivial, AOEq.refl _⟩, trivial⟩, rfl⟩, rfl, fun h => by cases h⟩
  ·have h : (o.d == 0) = false := h
   rw [beq_eq_false_iff_ne] at h
   rw [if_neg h] at hF
   repeat refine Or.inl ?_
   refine ⟨fun h2 => ?_, fun h2 => ?_⟩
   ·have h2 : (o.d == 1) = true := h2
    rw [beq_iff_eq] at h2
    rw [if_pos h2] at hF
    subst hF
    refine Or.inr (Or.inr ?_)
    refine ⟨true, [0, 1, 2, 3, 4, 5, 6, 7, 8, 9, 10, 11, 12, 13], rfl, Unit, _, _, _, _, get_none st B o.t o.n hr, fun y hy => ?_⟩
    repeat refine Or.inl ?_
    exact ⟨B, [], hB, ⟨⟨⟨rfl, rfl, AVEq.refl _⟩, trivial⟩, ⟨⟨rfl, rfl, rfl, ⟨rfl, AVsEq.refl _⟩⟩, ⟨rfl, rfl, trivial, AOEq.refl _⟩, ⟨rfl, rfl, trivial, AOEq.refl _⟩, ⟨rfl, rfl, trivial, AOEq.refl _⟩, ⟨rfl, rfl, trivial, AOEq.refl _⟩, ⟨rfl, rfl, trivial, AOEq.refl _⟩, ⟨rfl, rfl, trivial, AOEq.refl _⟩, ⟨rfl, rfl, trivial, AOEq.refl _⟩, ⟨rfl, rfl, trivial, AOEq.refl _⟩, ⟨rfl, rfl, trivial, AOEq.refl _⟩, ⟨rfl, rfl, trivial, AOEq.refl _⟩, ⟨rfl, rfl, trivial, AOEq.refl _⟩, ⟨rfl, rfl, trivial, AOEq.refl _⟩, ⟨rfl, rfl, trivial, AOEq.refl _⟩, trivial⟩, rfl⟩, rfl, fun h => by cases h⟩
   ·have h2 : (o.d == 1) = false := h2
    rw [beq_eq_false_iff_ne] at h2
    rw [if_neg h2] at hF
    repeat refine Or.inl ?_
    refine ⟨fun h3 => ?_, fun h3 => ?_⟩
    ·have h3 : (o.d == 2) = true := h3
     rw [beq_iff_eq] at h3
     rw [if_pos h3] at hF
     subst hF
     refine Or.inr (Or.inr ?_)
     refine ⟨true, [0, 1, 2, 3, 4, 5, 6, 7, 8, 9, 10, 11, 12, 13], rfl, Unit, _, _, _, _, drop_none st B o.t o.n hr, fun y hy => ?_⟩
     repeat refine Or.inl ?_
     exact ⟨B, [], hB, ⟨⟨⟨rfl, rfl, AVEq.refl _⟩, trivial⟩, ⟨⟨rfl, rfl, rfl, ⟨rfl, AVsEq.refl _⟩⟩, ⟨rfl, rfl, trivial, AOEq.refl _⟩, ⟨rfl, rfl, trivial, AOEq.refl _⟩, ⟨rfl, rfl, trivial, AOEq.refl _⟩, ⟨rfl, rfl, trivial, AOEq.refl _⟩, ⟨rfl, rfl, trivial, AOEq.refl _⟩, ⟨rfl, rfl, trivial, AOEq.refl _⟩, ⟨rfl, rfl, trivial, AOEq.refl _⟩, ⟨rfl, rfl, trivial, AOEq.refl _⟩, ⟨rfl, rfl, trivial, AOEq.refl _⟩, ⟨rfl, rfl, trivial, AOEq.refl _⟩, ⟨rfl, rfl, trivial, AOEq.refl _⟩, ⟨rfl, rfl, trivial, AOEq.refl _⟩, ⟨rfl, rfl, trivial, AOEq.refl _⟩, trivial⟩, rfl⟩, rfl, fun h => by cases h⟩
    ·have h3 : (o.d == 2) = false := h3
     rw [beq_eq_false_iff_ne] at h3
     rw [if_neg h3] at hF
     subst hF
     exact ⟨B, [], hB, ⟨⟨⟨rfl, rfl, AVEq.refl _⟩, trivial⟩, ⟨⟨rfl, rfl, rfl, ⟨rfl, AVsEq.refl _⟩⟩, ⟨rfl, rfl, trivial, AOEq.refl _⟩, ⟨rfl, rfl, trivial, AOEq.refl _⟩, ⟨rfl, rfl, trivial, AOEq.refl _⟩, ⟨rfl, rfl, trivial, AOEq.refl _⟩, ⟨rfl, rfl, trivial, AOEq.refl _⟩, ⟨rfl, rfl, trivial, AOEq.refl _⟩, ⟨rfl, rfl, trivial, AOEq.refl _⟩, ⟨rfl, rfl, trivial, AOEq.refl _⟩, ⟨rfl, rfl, trivial, AOEq.refl _⟩, ⟨rfl, rfl, trivial, AOEq.refl _⟩, ⟨rfl, rfl, trivial, AOEq.refl _⟩, ⟨rfl, rfl, trivial, AOEq.refl _⟩, ⟨rfl, rfl, trivial, AOEq.refl _⟩, trivial⟩, rfl⟩, rfl, fun h => by cases h⟩
end Go.Proofs.Ytnookbebiacaeaa
end

section
namespace Go.Proofs.Ytnookbebiacaeaa
open Go.Eng
def GoodU (us : List (Chk × Int)) : Prop := (mkeys us).Nodup ∧ ∀ c v, mget us c = some v → 0 < v
theorem good_nil : GoodU [] := ⟨by simp [mkeys], fun c v h => by cases h⟩
theorem cnt_some {us : List (Chk × Int)} {c : Chk} {v : Int} (h : mget us c = some v) : cntU us c = v := by unfold cntU; rw [h]; rfl
theorem cnt_nn {us : List (Chk × Int)} (h : GoodU us) (c : Chk) : 0 ≤ cntU us c := by
 unfold cntU
 cases hm : mget us c with
 | none => exact Int.le_refl 0
 | some v => exact Int.le_of_lt (h.2 c v hm)
theorem good_inc {us : List (Chk × Int)} (h : GoodU us) (c : Chk) : GoodU (incU us c) := by
 refine ⟨nodup_incU h.1 c, fun d v hd => ?_⟩
 unfold incU at hd
 rw [mget_mset] at hd
 split at hd
 ·have := cnt_nn h c
  have := Option.some.inj hd
  omega
 ·exact h.2 d v hd
theorem good_dec {us : List (Chk × Int)} (h : GoodU us) {c : Chk} (hc : 0 < cntU us c) : GoodU (decU us c) := by
 refine ⟨nodup_decU h.1 c, fun d v hd => ?_⟩
 unfold decU at hd
 by_cases h0 : cntU us c - 1 = 0
 ·rw [if_pos h0, mget_mdel (nodup_mset h.1 _ _)] at hd
  split at hd
  ·cases hd
  ·rename_i hne
   rw [mget_mset, if_neg hne] at hd
   exact h.2 d v hd
 ·rw [if_neg h0, mget_mset] at hd
  split at hd
  ·have := Option.some.inj hd
   omega
  ·exact h.2 d v hd
def ckn : List Chk → Chk → Nat
 | [], _ => 0
 | d :: r, c => (if c = d then 1 else 0) + ckn r c
theorem ckn_cons (d : Chk) (r : List Chk) (c : Chk) : ckn (d :: r) c = (if c = d then 1 else 0) + ckn r c := rfl
theorem ckn_app : ∀ (l m : List Chk) (c : Chk), ckn (l ++ m) c = ckn l c + ckn m c
 | [], m, c => by simp [ckn]
 | d :: r, m, c => by
  rw [List.cons_append, ckn_cons, ckn_cons, ckn_app r m c]
  omega
theorem ckn_pos : ∀ {l : List Chk} {c : Chk}, 0 < ckn l c ↔ c ∈ l
 | [], c => by simp [ckn]
 | d :: r, c => by
  rw [ckn_cons, List.mem_cons, ← ckn_pos (l := r)]
  by_cases h : c = d
  ·rw [if_pos h]
   simp [h]
   omega
  ·rw [if_neg h]
   simp [h]
theorem incs_good : ∀ {l : List Chk} {us : List (Chk × Int)}, GoodU us → GoodU (incs us l) ∧ ∀ c, cntU (incs us l) c = cntU us c + (ckn l c : Nat)
 | [], us, h => ⟨h, fun c => by show cntU us c = _; simp [ckn]⟩
 | a :: r, us, h => by
  obtain ⟨h1, h2⟩ := incs_good (l := r) (good_inc h a)
  refine ⟨h1, fun c => ?_⟩
  have e : incs us (a :: r) = incs (incU us a) r := rfl
  rw [e, h2 c, cnt_incU, ckn_cons]
  by_cases hc : c = a
  ·rw [if_pos hc, if_pos hc]
   omega
  ·rw [if_neg hc, if_neg hc]
   omega
theorem decs_good : ∀ {l : List Chk} {us : List (Chk × Int)}, GoodU us → (∀ c, ((ckn l c : Nat) : Int) ≤ cntU us c) → GoodU (decs us l) ∧ ∀ c, cntU (decs us l) c = cntU us c - (ckn l c : Nat)
 | [], us, h, _ => ⟨h, fun c => by show cntU us c = _; simp [ckn]⟩
 | a :: r, us, h, hc => by
  have ha : 0 < cntU us a := by
   have := hc a
   rw [ckn_cons] at this
   rw [if_pos rfl] at this
   omega
  obtain ⟨h1, h2⟩ := decs_good (l := r) (good_dec h ha) (fun c => by
   have := hc c
   rw [ckn_cons] at this
   rw [cnt_decU h.1]
   by_cases hca : c = a
   ·rw [if_pos hca] at this ⊢
    omega
   ·rw [if_neg hca] at this ⊢
    omega)
  refine ⟨h1, fun c => ?_⟩
  have e : decs us (a :: r) = decs (decU us a) r := rfl
  rw [e, h2 c, cnt_decU h.1, ckn_cons]
  by_cases hca : c = a
  ·rw [if_pos hca, if_pos hca]
   omega
  ·rw [if_neg hca, if_neg hca]
   omega
theorem mem_addP {acc : List ByteArray} {p q : ByteArray} : q ∈ addP acc p ↔ q ∈ acc ∨ q = p := by
 unfold addP
 split
 ·rename_i h
  rw [hasS_iff] at h
  constructor
  ·exact .inl
  ·rintro (h1 | rfl)
   ·exact h1
   ·exact h
 ·simp
theorem nodup_addP {acc : List ByteArray} (h : acc.Nodup) (p : ByteArray) : (addP acc p).Nodup := by
 unfold addP
 split
 ·exact h
 ·rename_i hn
  rw [List.nodup_append]
  refine ⟨h, by simp, fun a ha b hb e => hn ?_⟩
  rw [hasS_iff]
  rw [List.mem_singleton.1 hb] at e
  rw [← e]
  exact ha
theorem foldP_spec : ∀ (l acc : List ByteArray), acc.Nodup → (l.foldl addP acc).Nodup ∧ ∀ q, q ∈ l.foldl addP acc ↔ q ∈ acc ∨ q ∈ l
 | [], acc, h => ⟨h, by simp⟩
 | p :: r, acc, h => by
  obtain ⟨h1, h2⟩ := foldP_spec r (addP acc p) (nodup_addP h p)
  refine ⟨h1, fun q => ?_⟩
  rw [List.foldl_cons, h2 q, mem_addP, List.mem_cons, or_assoc]
theorem kept_aux : ∀ (ts acc : List ByteArray), acc.Nodup → (ts.foldl (fun acc x => (rDv x).foldl addP acc) acc).Nodup ∧ ∀ q, q ∈ ts.foldl (fun acc x => (rDv x).foldl addP acc) acc ↔ q ∈ acc ∨ ∃ x ∈ ts, q ∈ rDv x
 | [], acc, h => ⟨h, by simp⟩
 | x :: r, acc, h => by
  obtain ⟨g1, g2⟩ := foldP_spec (rDv x) acc h
  obtain ⟨h1, h2⟩ := kept_aux r _ g1
  refine ⟨h1, fun q => ?_⟩
  rw [List.foldl_cons, h2 q, g2 q]
  simp only [List.mem_cons, exists_eq_or_imp, or_assoc]
theorem kept_spec (ts : List ByteArray) : (keptL ts).Nodup ∧ ∀ q, q ∈ keptL ts ↔ ∃ x ∈ ts, q ∈ rDv x := by
 obtain ⟨h1, h2⟩ := kept_aux ts [] (by simp)
 exact ⟨h1, fun q => by rw [show keptL ts = ts.foldl (fun acc x => (rDv x).foldl addP acc) [] from rfl, h2 q]; simp⟩
def allC (ts : List ByteArray) : List Chk := ts.flatMap divL
theorem uses_len {us : List (Chk × Int)} {ts : List ByteArray} (h : GoodU us) (hc : ∀ c, cntU us c = (ckn (allC ts) c : Nat)) : us.length = (keptL ts).length := by
 have hk := kept_spec ts
 have hmem : ∀ c, c ∈ mkeys us ↔ c ∈ allC ts := by
  intro c
  rw [mem_mkeys]
  have e := hc c
  constructor
  ·intro hs
   cases hm : mget us c with
   | none => rw [hm] at hs; cases hs
   | some v =>
    have := h.2 c v hm
    rw [cnt_some hm] at e
    exact ckn_pos.1 (by omega)
  ·intro hcm
   have := ckn_pos.2 hcm
   cases hm : mget us c with
   | none =>
    unfold cntU at e
    rw [hm] at e
    simp at e
    omega
   | some v => rfl
 have hperm : ((mkeys us).map fun c : Chk => c.1).Perm (keptL ts) := by
  refine (List.perm_ext_iff_of_nodup ?_ hk.1).2 fun q => ?_
  ·rw [List.Nodup, List.pairwise_map]
   exact h.1.imp fun hab e => hab (Subtype.ext e)
  ·rw [hk.2 q, List.mem_map]
   constructor
   ·rintro ⟨c, hcm, rfl⟩
    obtain ⟨x, hx, hcx⟩ := List.mem_flatMap.1 ((hmem c).1 hcm)
    exact ⟨x, hx, List.mem_map.2 ⟨c, hcx, rfl⟩⟩
   ·rintro ⟨x, hx, hq⟩
    obtain ⟨c, hcx, rfl⟩ := List.mem_map.1 hq
    exact ⟨c, (hmem c).2 (List.mem_flatMap.2 ⟨x, hx, hcx⟩), rfl⟩
 have := hperm.length_eq
 rw [List.length_map] at this
 rw [← this]
 simp [mkeys]
end Go.Proofs.Ytnookbebiacaeaa
end

section
namespace Go.Proofs.Ytnookbebiacaeaa
open Go.Eng
def vw (R : List Fl) (t : Int) : List (Int × ByteArray) := (R.filter fun f => f.1 == t).map fun f => (f.2.1, f.2.2)
theorem vw_cons (f : Fl) (r : List Fl) (t : Int) : vw (f :: r) t = (if f.1 = t then [(f.2.1, f.2.2)] else []) ++ vw r t := by
 unfold vw
 rw [List.filter_cons]
 by_cases h : f.1 = t
 ·rw [if_pos (by simpa using h), if_pos h]
  rfl
 ·rw [if_neg (by simpa using h), if_neg h]
  rfl
theorem vw_snoc (R : List Fl) (f : Fl) (t : Int) : vw (R ++ [f]) t = vw R t ++ if f.1 = t then [(f.2.1, f.2.2)] else [] := by
 induction R with
 | nil => rw [List.nil_append, vw_cons]; simp [vw]
 | cons g r ih => rw [List.cons_append, vw_cons, vw_cons, ih, List.append_assoc]
theorem vw_find (R : List Fl) (t : Int) (x : ByteArray) : (vw R t).find? (fun p => bytesEq p.2 x) = (R.find? fun f => f.1 == t && bytesEq f.2.2 x).map fun f => (f.2.1, f.2.2) := by
 induction R with
 | nil => rfl
 | cons f r ih =>
  rw [vw_cons, List.find?_append, ih, List.find?_cons]
  by_cases h : f.1 = t
  ·rw [if_pos h]
   have e : (f.1 == t) = true := by simpa using h
   cases hb : bytesEq f.2.2 x with
   | true => simp [e, hb]
   | false => simp [e, hb]
  ·rw [if_neg h]
   have e : (f.1 == t) = false := by simpa using h
   simp [e]
theorem vw_get (R : List Fl) (t n : Int) : mget (vw R t) n = rGet R t n := by
 unfold rGet
 induction R with
 | nil => rfl
 | cons f r ih =>
  rw [vw_cons, List.find?_cons]
  by_cases h : f.1 = t
  ·rw [if_pos h, List.singleton_append]
   have e : (f.1 == t) = true := by simpa using h
   simp only [mget]
   by_cases h2 : f.2.1 = n
   ·rw [if_pos h2]
    have e2 : hitF t n f = true := by simp [hitF, h, h2]
    rw [e2]
    rfl
   ·rw [if_neg h2, ih]
    have e2 : hitF t n f = false := by simp [hitF, h2]
    rw [e2]
  ·rw [if_neg h, List.nil_append, ih]
   have e2 : hitF t n f = false := by simp [hitF, h]
   rw [e2]
theorem vw_erase (t n : Int) : ∀ (R : List Fl), R.any (hitF t n) = true → ∀ s, vw (R.eraseIdx (R.findIdx (hitF t n))) s = if s = t then mdel (vw R t) n else vw R s
 | [], h, _ => by cases h
 | f :: r, h, s => by
  rw [List.findIdx_cons]
  cases hf : hitF t n f with
  | true =>
   have hft : f.1 = t ∧ f.2.1 = n := by simpa [hitF] using hf
   rw [cond_true, List.eraseIdx_zero, List.tail_cons, vw_cons f r t, if_pos hft.1, List.singleton_append]
   simp only [mdel]
   rw [if_pos hft.2]
   by_cases hs : s = t
   ·rw [if_pos hs, hs]
   ·rw [if_neg hs, vw_cons, if_neg (by rw [hft.1]; exact Ne.symm hs), List.nil_append]
  | false =>
   have hr : r.any (hitF t n) = true := by
    rw [List.any_cons, hf, Bool.false_or] at h
    exact h
   rw [cond_false, List.eraseIdx_cons_succ, vw_cons, vw_erase t n r hr s]
   by_cases hs : s = t
   ·subst hs
    rw [if_pos rfl, if_pos rfl, vw_cons]
    by_cases hfs : f.1 = s
    ·rw [if_pos hfs, List.singleton_append, List.singleton_append]
     simp only [mdel]
     rw [if_neg]
     intro e
     rw [show hitF s n f = true by simp [hitF, hfs, e]] at hf
     cases hf
    ·rw [if_neg hfs, List.nil_append, List.nil_append]
   ·rw [if_neg hs, if_neg hs, vw_cons]
theorem allC_snoc (R : List Fl) (f : Fl) : allC (rTxt (R ++ [f])) = allC (rTxt R) ++ divL f.2.2 := by
 unfold allC rTxt
 rw [List.map_append, List.flatMap_append]
 simp
theorem allC_erase : ∀ (R : List Fl) (i : Nat), i < R.length → ∀ c, ckn (allC (rTxt (R.eraseIdx i))) c + ckn (divL (R.getD i dFf).2.2) c = ckn (allC (rTxt R)) c
 | [], i, hi, _ => by simp at hi
 | f :: r, 0, _, c => by
  have e : allC (rTxt (f :: r)) = divL f.2.2 ++ allC (rTxt r) := by simp [allC, rTxt]
  rw [e, ckn_app]
  simp
  omega
 | f :: r, i + 1, hi, c => by
  have e : ∀ l, allC (rTxt (f :: l)) = divL f.2.2 ++ allC (rTxt l) := fun l => by simp [allC, rTxt]
  rw [List.eraseIdx_cons_succ, e, e, ckn_app, ckn_app]
  have := allC_erase r i (by simpa using hi) c
  rw [List.getD_cons_succ]
  omega
theorem ckn_le (l : List Chk) (c : Chk) : ckn l c ≤ l.length := by
 induction l with
 | nil => simp [ckn]
 | cons d r ih =>
  rw [ckn_cons, List.length_cons]
  split <;> omega
theorem allC_len {ts : List ByteArray} (h : ∀ x ∈ ts, x.size ≤ 200) : (allC ts).length ≤ 200 * ts.length := by
 induction ts with
 | nil => simp [allC]
 | cons x r ih =>
  have e : allC (x :: r) = divL x ++ allC r := by simp [allC]
  have h1 := div_len x
  have h2 := h x (by simp)
  have h3 := ih fun y hy => h y (by simp [hy])
  rw [e, List.length_append, List.length_cons, Nat.mul_succ]
  omega
end Go.Proofs.Ytnookbebiacaeaa
end

section
namespace Go.Proofs.Ytnookbebiacaeaa
open Go.Eng Go.RowKit
def st0 : St := ⟨fun _ => [], fun _ => 0, []⟩
def b0 : Bn := ⟨fun _ => 0, 0, fun _ _ => 0, fun _ => 0⟩
theorem b0_ok : BOk st0 b0 := fun _ _ => ⟨fun i hi => absurd hi (Nat.not_lt_zero i), fun i _ hi => absurd hi (Nat.not_lt_zero i)⟩
def newC : Nat → List AV
 | 0 => [.mo 0, .val (.map none), .i .i64 0, .val (.map none), .i .i64 0, .val (.map none), .i .i64 0, .val (.map none), .i .i64 0, .val (.map none), .i .i64 0, .val (.map none), .i .i64 0, .val (.map none), .i .i64 0, .val (.map none), .i .i64 0, .val (.map none), .i .i64 0, .val (.map none), .i .i64 0, .val (.map none), .i .i64 0, .val (.map none), .i .i64 0]
 | 1 => [.mo 0, .mo 2, .i .i64 0, .val (.map none), .i .i64 0, .val (.map none), .i .i64 0, .val (.map none), .i .i64 0, .val (.map none), .i .i64 0, .val (.map none), .i .i64 0, .val (.map none), .i .i64 0, .val (.map none), .i .i64 0, .val (.map none), .i .i64 0, .val (.map none), .i .i64 0, .val (.map none), .i .i64 0, .val (.map none), .i .i64 0]
 | 2 => [.mo 0, .mo 2, .i .i64 0, .mo 3, .i .i64 0, .val (.map none), .i .i64 0, .val (.map none), .i .i64 0, .val (.map none), .i .i64 0, .val (.map none), .i .i64 0, .val (.map none), .i .i64 0, .val (.map none), .i .i64 0, .val (.map none), .i .i64 0, .val (.map none), .i .i64 0, .val (.map none), .i .i64 0, .val (.map none), .i .i64 0]
 | 3 => [.mo 0, .mo 2, .i .i64 0, .mo 3, .i .i64 0, .mo 4, .i .i64 0, .val (.map none), .i .i64 0, .val (.map none), .i .i64 0, .val (.map none), .i .i64 0, .val (.map none), .i .i64 0, .val (.map none), .i .i64 0, .val (.map none), .i .i64 0, .val (.map none), .i .i64 0, .val (.map none), .i .i64 0, .val (.map none), .i .i64 0]
 | 4 => [.mo 0, .mo 2, .i .i64 0, .mo 3, .i .i64 0, .mo 4, .i .i64 0, .mo 5, .i .i64 0, .val (.map none), .i .i64 0, .val (.map none), .i .i64 0, .val (.map none), .i .i64 0, .val (.map none), .i .i64 0, .val (.map none), .i .i64 0, .val (.map none), .i .i64 0, .val (.map none), .i .i64 0, .val (.map none), .i .i64 0]
 | 5 => [.mo 0, .mo 2, .i .i64 0, .mo 3, .i .i64 0, .mo 4, .i .i64 0, .mo 5, .i .i64 0, .mo 6, .i .i64 0, .val (.map none), .i .i64 0, .val (.map none), .i .i64 0, .val (.map none), .i .i64 0, .val (.map none), .i .i64 0, .val (.map none), .i .i64 0, .val (.map none), .i .i64 0, .val (.map none), .i .i64 0]
 | 6 => [.mo 0, .mo 2, .i .i64 0, .mo 3, .i .i64 0, .mo 4, .i .i64 0, .mo 5, .i .i64 0, .mo 6, .i .i64 0, .mo 7, .i .i64 0, .val (.map none), .i .i64 0, .val (.map none), .i .i64 0, .val (.map none), .i .i64 0, .val (.map none), .i .i64 0, .val (.map none), .i .i64 0, .val (.map none), .i .i64 0]
 | 7 => [.mo 0, .mo 2, .i .i64 0, .mo 3, .i .i64 0, .mo 4, .i .i64 0, .mo 5, .i .i64 0, .mo 6, .i .i64 0, .mo 7, .i .i64 0, .mo 8, .i .i64 0, .val (.map none), .i .i64 0, .val (.map none), .i .i64 0, .val (.map none), .i .i64 0, .val (.map none), .i .i64 0, .val (.map none), .i .i64 0]
 | 8 => [.mo 0, .mo 2, .i .i64 0, .mo 3, .i .i64 0, .mo 4, .i .i64 0, .mo 5, .i .i64 0, .mo 6, .i .i64 0, .mo 7, .i .i64 0, .mo 8, .i .i64 0, .mo 9, .i .i64 0, .val (.map none), .i .i64 0, .val (.map none), .i .i64 0, .val (.map none), .i .i64 0, .val (.map none), .i .i64 0]
 | 9 => [.mo 0, .mo 2, .i .i64 0, .mo 3, .i .i64 0, .mo 4, .i .i64 0, .mo 5, .i .i64 0, .mo 6, .i .i64 0, .mo 7, .i .i64 0, .mo 8, .i .i64 0, .mo 9, .i .i64 0, .mo 10, .i .i64 0, .val (.map none), .i .i64 0, .val (.map none), .i .i64 0, .val (.map none), .i .i64 0]
 | 10 => [.mo 0, .mo 2, .i .i64 0, .mo 3, .i .i64 0, .mo 4, .i .i64 0, .mo 5, .i .i64 0, .mo 6, .i .i64 0, .mo 7, .i .i64 0, .mo 8, .i .i64 0, .mo 9, .i .i64 0, .mo 10, .i .i64 0, .mo 11, .i .i64 0, .val (.map none), .i .i64 0, .val (.map none), .i .i64 0]
 | 11 => [.mo 0, .mo 2, .i .i64 0, .mo 3, .i .i64 0, .mo 4, .i .i64 0, .mo 5, .i .i64 0, .mo 6, .i .i64 0, .mo 7, .i .i64 0, .mo 8, .i .i64 0, .mo 9, .i .i64 0, .mo 10, .i .i64 0, .mo 11, .i .i64 0, .mo 12, .i .i64 0, .val (.map none), .i .i64 0]
 | _ => [.mo 0, .mo 2, .i .i64 0, .mo 3, .i .i64 0, .mo 4, .i .i64 0, .mo 5, .i .i64 0, .mo 6, .i .i64 0, .mo 7, .i .i64 0, .mo 8, .i .i64 0, .mo 9, .i .i64 0, .mo 10, .i .i64 0, .mo 11, .i .i64 0, .mo 12, .i .i64 0, .mo 13, .i .i64 0]
def newM (k j : Nat) : AO := match Nat.blt j k with
 | true => .mp 0 (fun _ => .u) (fun _ => .u) (fun _ => 0) 0
 | false => .dead
def newO (k : Nat) : List OE := [⟨1, [], .cells 151 (newC k)⟩, ⟨2, [], newM k 0⟩, ⟨3, [], newM k 1⟩, ⟨4, [], newM k 2⟩, ⟨5, [], newM k 3⟩, ⟨6, [], newM k 4⟩, ⟨7, [], newM k 5⟩, ⟨8, [], newM k 6⟩, ⟨9, [], newM k 7⟩, ⟨10, [], newM k 8⟩, ⟨11, [], newM k 9⟩, ⟨12, [], newM k 10⟩, ⟨13, [], newM k 11⟩]
theorem cases13 {t : Nat} (h : t ≤ 12) : t = 0 ∨ t = 1 ∨ t = 2 ∨ t = 3 ∨ t = 4 ∨ t = 5 ∨ t = 6 ∨ t = 7 ∨ t = 8 ∨ t = 9 ∨ t = 10 ∨ t = 11 ∨ t = 12 := by omega
set_option maxRecDepth 20000 in
set_option maxHeartbeats 8000000 in
theorem new55_fn : CtrM Try.prog 55 true [] [] (fun _ : Unit => True) (fun _ => []) (fun _ => storeO st0 b0) (fun _ => .p 0 0) := by
 refine fn_of_execM tabOk Try.func55 (by kernel_rfl) rfl (N := Try.f55.ntmps) rfl (res := [.tmp 0]) rfl true false [] _ _ _ _ rfl (fun h => by cases h) [(1000001, [.nw, .nw, .nw, .nw, .nw, .nw, .nw, .nw, .nw, .nw, .nw, .nw])] ?_
 repeat refine Or.inl ?_
 refine ⟨[], Nat, fun k => k ≤ 12, fun k => [⟨6, [], .i .i64 k⟩], newO, fun k => 12 - k,
  ⟨0, [], Nat.zero_le _, rfl, rfl, rfl, rfl, rfl, ⟨rfl, rfl⟩, ?_⟩, ?_⟩
 ·exact ⟨⟨rfl, AVsEq.refl _⟩, trivial, trivial, trivial, trivial, trivial, trivial, trivial, trivial, trivial, trivial, trivial, trivial⟩
 intro k hk
 have hk : k ≤ 12 := hk
 rcases cases13 hk with rfl | rfl | rfl | rfl | rfl | rfl | rfl | rfl | rfl | rfl | rfl | rfl | rfl
 ·refine .inl ⟨fun _ => ?_, fun hc => (by cases hc)⟩
  repeat refine Or.inl ?_
  refine ⟨⟨by decide, by decide⟩, ?_⟩
  refine ⟨1, [(2, 14)], (by decide), (by decide), rfl, rfl, rfl, rfl, rfl, ⟨rfl, rfl⟩, ⟨⟨rfl, AVsEq.refl _⟩, ⟨rfl, rfl, fun i hi => absurd hi (Nat.not_lt_zero i)⟩, trivial, trivial, trivial, trivial, trivial, trivial, trivial, trivial, trivial, trivial, trivial⟩⟩
 ·refine .inl ⟨fun _ => ?_, fun hc => (by cases hc)⟩
  repeat refine Or.inl ?_
  refine ⟨⟨by decide, by decide⟩, ?_⟩
  refine ⟨2, [(3, 14)], (by decide), (by decide), rfl, rfl, rfl, rfl, rfl, ⟨rfl, rfl⟩, ⟨⟨rfl, AVsEq.refl _⟩, ⟨rfl, rfl, fun i hi => absurd hi (Nat.not_lt_zero i)⟩, ⟨rfl, rfl, fun i hi => absurd hi (Nat.not_lt_zero i)⟩, trivial, trivial, trivial, trivial, trivial, trivial, trivial, trivial, trivial, trivial⟩⟩
 ·refine .inl ⟨fun _ => ?_, fun hc => (by cases hc)⟩
  repeat refine Or.inl ?_
  refine ⟨⟨by decide, by decide⟩, ?_⟩
  refine ⟨3, [(4, 14)], (by decide), (by decide), rfl, rfl, rfl, rfl, rfl, ⟨rfl, rfl⟩, ⟨⟨rfl, AVsEq.refl _⟩, ⟨rfl, rfl, fun i hi => absurd hi (Nat.not_lt_zero i)⟩, ⟨rfl, rfl, fun i hi => absurd hi (Nat.not_lt_zero i)⟩, ⟨rfl, rfl, fun i hi => absurd hi (Nat.not_lt_zero i)⟩, trivial, trivial, trivial, trivial, trivial, trivial, trivial, trivial, trivial⟩⟩
 ·refine .inl ⟨fun _ => ?_, fun hc => (by cases hc)⟩
  repeat refine Or.inl ?_
  refine ⟨⟨by decide, by decide⟩, ?_⟩
  refine ⟨4, [(5, 14)], (by decide), (by decide), rfl, rfl, rfl, rfl, rfl, ⟨rfl, rfl⟩, ⟨⟨rfl, AVsEq.refl _⟩, ⟨rfl, rfl, fun i hi => absurd hi (Nat.not_lt_zero i)⟩, ⟨rfl, rfl, fun i hi => absurd hi (Nat.not_lt_zero i)⟩, ⟨rfl, rfl, fun i hi => absurd hi (Nat.not_lt_zero i)⟩, ⟨rfl, rfl, fun i hi => absurd hi (Nat.not_lt_zero i)⟩, trivial, trivial, trivial, trivial, trivial, trivial, trivial, trivial⟩⟩
 ·refine .inl ⟨fun _ => ?_, fun hc => (by cases hc)⟩
  repeat refine Or.inl ?_
  refine ⟨⟨by decide, by decide⟩, ?_⟩
  refine ⟨5, [(6, 14)], (by decide), (by decide), rfl, rfl, rfl, rfl, rfl, ⟨rfl, rfl⟩, ⟨⟨rfl, AVsEq.refl _⟩, ⟨rfl, rfl, fun i hi => absurd hi (Nat.not_lt_zero i)⟩, ⟨rfl, rfl, fun i hi => absurd hi (Nat.not_lt_zero i)⟩, ⟨rfl, rfl, fun i hi => absurd hi (Nat.not_lt_zero i)⟩, ⟨rfl, rfl, fun i hi => absurd hi (Nat.not_lt_zero i)⟩, ⟨rfl, rfl, fun i hi => absurd hi (Nat.not_lt_zero i)⟩, trivial, trivial, trivial, trivial, trivial, trivial, trivial⟩⟩
 ·refine .inl ⟨fun _ => ?_, fun hc => (by cases hc)⟩
  repeat refine Or.inl ?_
  refine ⟨⟨by decide, by decide⟩, ?_⟩
  refine ⟨6, [(7, 14)], (by decide), (by decide), rfl, rfl, rfl, rfl, rfl, ⟨rfl, rfl⟩, ⟨⟨rfl, AVsEq.refl _⟩, ⟨rfl, rfl, fun i hi => absurd hi (Nat.not_lt_zero i)⟩, ⟨rfl, rfl, fun i hi => absurd hi (Nat.not_lt_zero i)⟩, ⟨rfl, rfl, fun i hi => absurd hi (Nat.not_lt_zero i)⟩, ⟨rfl, rfl, fun i hi => absurd hi (Nat.not_lt_zero i)⟩, ⟨rfl, rfl, fun i hi => absurd hi (Nat.not_lt_zero i)⟩, ⟨rfl, rfl, fun i hi => absurd hi (Nat.not_lt_zero i)⟩, trivial, trivial, trivial, trivial, trivial, trivial⟩⟩
 ·refine .inl ⟨fun _ => ?_, fun hc => (by cases hc)⟩
  repeat refine Or.inl ?_
  refine ⟨⟨by decide, by decide⟩, ?_⟩
  refine ⟨7, [(8, 14)], (by decide), (by decide), rfl, rfl, rfl, rfl, rfl, ⟨rfl, rfl⟩, ⟨⟨rfl, AVsEq.refl _⟩, ⟨rfl, rfl, fun i hi => absurd hi (Nat.not_lt_zero i)⟩, ⟨rfl, rfl, fun i hi => absurd hi (Nat.not_lt_zero i)⟩, ⟨rfl, rfl, fun i hi => absurd hi (Nat.not_lt_zero i)⟩, ⟨rfl, rfl, fun i hi => absurd hi (Nat.not_lt_zero i)⟩, ⟨rfl, rfl, fun i hi => absurd hi (Nat.not_lt_zero i)⟩, ⟨rfl, rfl, fun i hi => absurd hi (Nat.not_lt_zero i)⟩, ⟨rfl, rfl, fun i hi => absurd hi (Nat.not_lt_zero i)⟩, trivial, trivial, trivial, trivial, trivial⟩⟩
 ·refine .inl ⟨fun _ => ?_, fun hc => (by cases hc)⟩
  repeat refine Or.inl ?_
  refine ⟨⟨by decide, by decide⟩, ?_⟩
  refine ⟨8, [(9, 14)], (by decide), (by decide), rfl, rfl, rfl, rfl, rfl, ⟨rfl, rfl⟩, ⟨⟨rfl, AVsEq.refl _⟩, ⟨rfl, rfl, fun i hi => absurd hi (Nat.not_lt_zero i)⟩, ⟨rfl, rfl, fun i hi => absurd hi (Nat.not_lt_zero i)⟩, ⟨rfl, rfl, fun i hi => absurd hi (Nat.not_lt_zero i)⟩, ⟨rfl, rfl, fun i hi => absurd hi (Nat.not_lt_zero i)⟩, ⟨rfl, rfl, fun i hi => absurd hi (Nat.not_lt_zero i)⟩, ⟨rfl, rfl, fun i hi => absurd hi (Nat.not_lt_zero i)⟩, ⟨rfl, rfl, fun i hi => absurd hi (Nat.not_lt_zero i)⟩, ⟨rfl, rfl, fun i hi => absurd hi (Nat.not_lt_zero i)⟩, trivial, trivial, trivial, trivial⟩⟩
 ·refine .inl ⟨fun _ => ?_, fun hc => (by cases hc)⟩
  repeat refine Or.inl ?_
  refine ⟨⟨by decide, by decide⟩, ?_⟩
  refine ⟨9, [(10, 14)], (by decide), (by decide), rfl, rfl, rfl, rfl, rfl, ⟨rfl, rfl⟩, ⟨⟨rfl, AVsEq.refl _⟩, ⟨rfl, rfl, fun i hi => absurd hi (Nat.not_lt_zero i)⟩, ⟨rfl, rfl, fun i hi => absurd hi (Nat.not_lt_zero i)⟩, ⟨rfl, rfl, fun i hi => absurd hi (Nat.not_lt_zero i)⟩, ⟨rfl, rfl, fun i hi => absurd hi (Nat.not_lt_zero i)⟩, ⟨rfl, rfl, fun i hi => absurd hi (Nat.not_lt_zero i)⟩, ⟨rfl, rfl, fun i hi => absurd hi (Nat.not_lt_zero i)⟩, ⟨rfl, rfl, fun i hi => absurd hi (Nat.not_lt_zero i)⟩, ⟨rfl, rfl, fun i hi => absurd hi (Nat.not_lt_zero i)⟩, ⟨rfl, rfl, fun i hi => absurd hi (Nat.not_lt_zero i)⟩, trivial, trivial, trivial⟩⟩
 ·refine .inl ⟨fun _ => ?_, fun hc => (by cases hc)⟩
  repeat refine Or.inl ?_
  refine ⟨⟨by decide, by decide⟩, ?_⟩
  refine ⟨10, [(11, 14)], (by decide), (by decide), rfl, rfl, rfl, rfl, rfl, ⟨rfl, rfl⟩, ⟨⟨rfl, AVsEq.refl _⟩, ⟨rfl, rfl, fun i hi => absurd hi (Nat.not_lt_zero i)⟩, ⟨rfl, rfl, fun i hi => absurd hi (Nat.not_lt_zero i)⟩, ⟨rfl, rfl, fun i hi => absurd hi (Nat.not_lt_zero i)⟩, ⟨rfl, rfl, fun i hi => absurd hi (Nat.not_lt_zero i)⟩, ⟨rfl, rfl, fun i hi => absurd hi (Nat.not_lt_zero i)⟩, ⟨rfl, rfl, fun i hi => absurd hi (Nat.not_lt_zero i)⟩, ⟨rfl, rfl, fun i hi => absurd hi (Nat.not_lt_zero i)⟩, ⟨rfl, rfl, fun i hi => absurd hi (Nat.not_lt_zero i)⟩, ⟨rfl, rfl, fun i hi => absurd hi (Nat.not_lt_zero i)⟩, ⟨rfl, rfl, fun i hi => absurd hi (Nat.not_lt_zero i)⟩, trivial, trivial⟩⟩
 ·refine .inl ⟨fun _ => ?_, fun hc => (by cases hc)⟩
  repeat refine Or.inl ?_
  refine ⟨⟨by decide, by decide⟩, ?_⟩
  refine ⟨11, [(12, 14)], (by decide), (by decide), rfl, rfl, rfl, rfl, rfl, ⟨rfl, rfl⟩, ⟨⟨rfl, AVsEq.refl _⟩, ⟨rfl, rfl, fun i hi => absurd hi (Nat.not_lt_zero i)⟩, ⟨rfl, rfl, fun i hi => absurd hi (Nat.not_lt_zero i)⟩, ⟨rfl, rfl, fun i hi => absurd hi (Nat.not_lt_zero i)⟩, ⟨rfl, rfl, fun i hi => absurd hi (Nat.not_lt_zero i)⟩, ⟨rfl, rfl, fun i hi => absurd hi (Nat.not_lt_zero i)⟩, ⟨rfl, rfl, fun i hi => absurd hi (Nat.not_lt_zero i)⟩, ⟨rfl, rfl, fun i hi => absurd hi (Nat.not_lt_zero i)⟩, ⟨rfl, rfl, fun i hi => absurd hi (Nat.not_lt_zero i)⟩, ⟨rfl, rfl, fun i hi => absurd hi (Nat.not_lt_zero i)⟩, ⟨rfl, rfl, fun i hi => absurd hi (Nat.not_lt_zero i)⟩, ⟨rfl, rfl, fun i hi => absurd hi (Nat.not_lt_zero i)⟩, trivial⟩⟩
 ·refine .inl ⟨fun _ => ?_, fun hc => (by cases hc)⟩
  repeat refine Or.inl ?_
  refine ⟨⟨by decide, by decide⟩, ?_⟩
  refine ⟨12, [(13, 14)], (by decide), (by decide), rfl, rfl, rfl, rfl, rfl, ⟨rfl, rfl⟩, ⟨⟨rfl, AVsEq.refl _⟩, ⟨rfl, rfl, fun i hi => absurd hi (Nat.not_lt_zero i)⟩, ⟨rfl, rfl, fun i hi => absurd hi (Nat.not_lt_zero i)⟩, ⟨rfl, rfl, fun i hi => absurd hi (Nat.not_lt_zero i)⟩, ⟨rfl, rfl, fun i hi => absurd hi (Nat.not_lt_zero i)⟩, ⟨rfl, rfl, fun i hi => absurd hi (Nat.not_lt_zero i)⟩, ⟨rfl, rfl, fun i hi => absurd hi (Nat.not_lt_zero i)⟩, ⟨rfl, rfl, fun i hi => absurd hi (Nat.not_lt_zero i)⟩, ⟨rfl, rfl, fun i hi => absurd hi (Nat.not_lt_zero i)⟩, ⟨rfl, rfl, fun i hi => absurd hi (Nat.not_lt_zero i)⟩, ⟨rfl, rfl, fun i hi => absurd hi (Nat.not_lt_zero i)⟩, ⟨rfl, rfl, fun i hi => absurd hi (Nat.not_lt_zero i)⟩, ⟨rfl, rfl, fun i hi => absurd hi (Nat.not_lt_zero i)⟩⟩⟩
 ·refine .inl ⟨fun hc => (by cases hc), fun _ => ?_⟩
  repeat refine Or.inl ?_
  exact ⟨(), [(0, 1), (1, 0)], trivial, ⟨⟨⟨rfl, rfl, AVEq.refl _⟩, trivial⟩, ⟨⟨rfl, rfl, rfl, ⟨rfl, AVsEq.refl _⟩⟩, ⟨rfl, rfl, trivial, ⟨rfl, rfl, fun i hi => absurd hi (Nat.not_lt_zero i)⟩⟩, ⟨rfl, rfl, trivial, ⟨rfl, rfl, fun i hi => absurd hi (Nat.not_lt_zero i)⟩⟩, ⟨rfl, rfl, trivial, ⟨rfl, rfl, fun i hi => absurd hi (Nat.not_lt_zero i)⟩⟩, ⟨rfl, rfl, trivial, ⟨rfl, rfl, fun i hi => absurd hi (Nat.not_lt_zero i)⟩⟩, ⟨rfl, rfl, trivial, ⟨rfl, rfl, fun i hi => absurd hi (Nat.not_lt_zero i)⟩⟩, ⟨rfl, rfl, trivial, ⟨rfl, rfl, fun i hi => absurd hi (Nat.not_lt_zero i)⟩⟩, ⟨rfl, rfl, trivial, ⟨rfl, rfl, fun i hi => absurd hi (Nat.not_lt_zero i)⟩⟩, ⟨rfl, rfl, trivial, ⟨rfl, rfl, fun i hi => absurd hi (Nat.not_lt_zero i)⟩⟩, ⟨rfl, rfl, trivial, ⟨rfl, rfl, fun i hi => absurd hi (Nat.not_lt_zero i)⟩⟩, ⟨rfl, rfl, trivial, ⟨rfl, rfl, fun i hi => absurd hi (Nat.not_lt_zero i)⟩⟩, ⟨rfl, rfl, trivial, ⟨rfl, rfl, fun i hi => absurd hi (Nat.not_lt_zero i)⟩⟩, ⟨rfl, rfl, trivial, ⟨rfl, rfl, fun i hi => absurd hi (Nat.not_lt_zero i)⟩⟩, ⟨rfl, rfl, trivial, ⟨rfl, rfl, fun i hi => absurd hi (Nat.not_lt_zero i)⟩⟩, trivial⟩, rfl⟩, rfl, fun h => (by cases h)⟩
end Go.Proofs.Ytnookbebiacaeaa
end

section
namespace Go.Proofs.Ytnookbebiacaeaa
open Go.Eng
structure Rel (st : St) (R : List Fl) (N : List Int) (m : Nat) : Prop where
 fs : ∀ t : Nat, t < 12 → st.fs t = vw R t
 tn : ∀ f ∈ R, 0 ≤ f.1 ∧ f.1 < 12
 nl : N.length = 12
 nx : ∀ t : Nat, t < 12 → N.getD t 0 = st.nx t
 ok : ∀ t : Nat, t < 12 → TOk (st.fs t) (st.nx t) m
 len : R.length ≤ m
 sz : ∀ f ∈ R, f.2.2.size ≤ 200
 gu : GoodU st.us
 cu : ∀ c, cntU st.us c = (ckn (allC (rTxt R)) c : Nat)
theorem TOk.more {L : List (Int × ByteArray)} {nx : Int} {m : Nat} (h : TOk L nx m) : TOk L nx (m + 1) :=
 ⟨h.asc, h.lo, Nat.le_succ_of_le h.len, h.n0, by have := h.nm; omega, h.sz⟩
theorem Rel.more {st : St} {R : List Fl} {N : List Int} {m : Nat} (h : Rel st R N m) : Rel st R N (m + 1) :=
 ⟨h.fs, h.tn, h.nl, h.nx, fun t ht => (h.ok t ht).more, Nat.le_succ_of_le h.len, h.sz, h.gu, h.cu⟩
theorem TOk.put {L : List (Int × ByteArray)} {nx : Int} {m : Nat} (h : TOk L nx m) {x : ByteArray} (hx : x.size ≤ 200) : TOk (L ++ [(nx, x)]) (nx + 1) (m + 1) := by
 have e : mkeys (L ++ [(nx, x)]) = mkeys L ++ [nx] := by simp [mkeys]
 refine ⟨?_, ?_, by have := h.len; simp; omega, by have := h.n0; omega, by have := h.nm; omega, ?_⟩
 ·rw [e, List.pairwise_append]
  refine ⟨h.asc, by simp, fun a ha b hb => ?_⟩
  rw [List.mem_singleton.1 hb]
  exact (h.lo a ha).2
 ·intro k hk
  rw [e] at hk
  rcases List.mem_append.1 hk with hk | hk
  ·have := h.lo k hk
   omega
  ·rw [List.mem_singleton.1 hk]
   have := h.n0
   omega
 ·intro p hp
  rcases List.mem_append.1 hp with hp | hp
  ·exact h.sz p hp
  ·rw [List.mem_singleton.1 hp]
   exact hx
theorem mdel_sub {α γ : Type} [DecidableEq α] : ∀ (L : List (α × γ)) (k : α), (mdel L k).Sublist L
 | [], _ => List.Sublist.refl _
 | p :: r, k => by
  simp only [mdel]
  split
  ·exact List.sublist_cons_self p r
  ·exact (mdel_sub r k).cons_cons p
theorem TOk.del {L : List (Int × ByteArray)} {nx : Int} {m : Nat} (h : TOk L nx m) (n : Int) : TOk (mdel L n) nx m := by
 have hs := mdel_sub L n
 have hm : (mkeys (mdel L n)).Sublist (mkeys L) := hs.map _
 exact ⟨h.asc.sublist hm, fun k hk => h.lo k (hm.subset hk), Nat.le_trans hs.length_le h.len, h.n0, h.nm, fun p hp => h.sz p (hs.subset hp)⟩
theorem Rel.ub {st : St} {R : List Fl} {N : List Int} {m : Nat} (h : Rel st R N m) (hm : m ≤ 200) : UB st.us 100000 := by
 refine ⟨h.gu.1, fun c => ?_⟩
 rw [h.cu c]
 have h1 := ckn_le (allC (rTxt R)) c
 have h2 := allC_len (ts := rTxt R) (fun x hx => by
  unfold rTxt at hx
  obtain ⟨f, hf, rfl⟩ := List.mem_map.1 hx
  exact h.sz f hf)
 have h3 : (rTxt R).length = R.length := by unfold rTxt; rw [List.length_map]
 have h4 := h.len
 omega
theorem Rel.sok {st : St} {R : List Fl} {N : List Int} {m : Nat} (h : Rel st R N m) (hm : m ≤ 200) : SOk st m := ⟨h.ok, h.ub hm⟩
theorem Rel.start : Rel st0 [] (List.replicate 12 0) 0 :=
 ⟨fun t _ => rfl, fun f hf => (by cases hf), rfl, fun t ht => by
   show (List.replicate 12 (0 : Int)).getD t 0 = 0
   unfold List.getD
   rw [List.getElem?_replicate, if_pos ht]
   rfl, fun t _ => ⟨List.Pairwise.nil, fun k hk => (by cases hk), Nat.le_refl _, Int.le_refl _, Int.le_refl _, fun p hp => (by cases hp)⟩, Nat.le_refl _, fun f hf => (by cases hf), good_nil, fun c => rfl⟩
theorem Rel.step {st : St} {R : List Fl} {N : List Int} {m : Nat} (h : Rel st R N m) (o : Opn) (hx : o.x.size ≤ 200) :
  (sDo st o).2 = (rDo R N o).2 ∧ Rel (sDo st o).1 (rDo R N o).1.1 (rDo R N o).1.2 (m + 1) := by
 unfold sDo rDo
 by_cases hr : 0 ≤ o.t ∧ o.t < 12
 ·rw [if_pos hr]
  obtain ⟨t, ht⟩ : ∃ t : Nat, o.t = t := ⟨o.t.toNat, by omega⟩
  have ht12 : t < 12 := by omega
  have htn : o.t.toNat = t := by omega
  by_cases h0 : o.d = 0
  ·rw [if_pos h0, if_pos h0, htn]
   unfold sPut rPut
   rw [if_neg (by omega), h.fs t ht12, vw_find, ← ht]
   cases hfd : R.find? (fun f => f.1 == o.t && bytesEq f.2.2 o.x) with
   | some f => exact ⟨rfl, h.more⟩
   | none =>
    dsimp only [Option.map_none]
    rw [htn, h.nx t ht12]
    refine ⟨rfl, ?_⟩
    obtain ⟨g1, g2⟩ := incs_good (l := divL o.x) h.gu
    refine ⟨fun s hs => ?_, ?_, by rw [List.length_set]; exact h.nl, fun s hs => ?_, fun s hs => ?_, by have := h.len; simp; omega, ?_, g1, fun c => ?_⟩
    ·show upd st.fs t (st.fs t ++ [(st.nx t, o.x)]) s = _
     unfold upd
     rw [vw_snoc, ht]
     by_cases e : s = t
     ·rw [if_pos e, if_pos (by rw [e]), e, h.fs t ht12]
     ·rw [if_neg e, if_neg (by omega), List.append_nil, h.fs s hs]
    ·intro f hf
     rcases List.mem_append.1 hf with hf | hf
     ·exact h.tn f hf
     ·rw [List.mem_singleton.1 hf]
      exact hr
    ·show (N.set t (st.nx t + 1)).getD s 0 = upd st.nx t (st.nx t + 1) s
     rw [getD_setD 0 N t _ (by rw [h.nl]; exact ht12) s]
     unfold upd
     split
     ·rfl
     ·exact h.nx s hs
    ·show TOk (upd st.fs t (st.fs t ++ [(st.nx t, o.x)]) s) (upd st.nx t (st.nx t + 1) s) (m + 1)
     unfold upd
     by_cases e : s = t
     ·rw [if_pos e, if_pos e]
      exact (h.ok t ht12).put hx
     ·rw [if_neg e, if_neg e]
      exact (h.ok s hs).more
    ·intro f hf
     rcases List.mem_append.1 hf with hf | hf
     ·exact h.sz f hf
     ·rw [List.mem_singleton.1 hf]
      exact hx
    ·show cntU (incs st.us (divL o.x)) c = _
     rw [g2 c, allC_snoc, ckn_app, h.cu c]
     simp
  ·rw [if_neg h0, if_neg h0]
   by_cases h1 : o.d = 1
   ·rw [if_pos h1, if_pos h1, htn, h.fs t ht12, vw_get, ht]
    exact ⟨rfl, h.more⟩
   ·rw [if_neg h1, if_neg h1]
    by_cases h2 : o.d = 2
    ·rw [if_pos h2, if_pos h2, htn]
     unfold sDrop rDrop
     rw [h.fs t ht12, vw_get, ht]
     by_cases ha : rAt R t o.n < 0
     ·rw [if_pos ha]
      have e : rGet R t o.n = none := by unfold rGet; rw [(at_neg ha).1]; rfl
      rw [e]
      exact ⟨rfl, h.more⟩
     ·rw [if_neg ha]
      obtain ⟨a1, a2, a3⟩ := at_pos ha
      have e : rGet R t o.n = some (R.getD (rAt R t o.n).toNat dFf).2.2 := by unfold rGet; rw [a2]; rfl
      rw [e]
      refine ⟨rfl, ?_⟩
      have hany : R.any (hitF t o.n) = true := by
       unfold rAt at ha
       by_cases hh : R.any (hitF t o.n) = true
       ·exact hh
       ·rw [if_neg hh] at ha
        exact absurd (by decide) ha
      have hidx : (rAt R t o.n).toNat = R.findIdx (hitF t o.n) := by
       unfold rAt
       rw [if_pos hany, Int.toNat_natCast]
      have hce : ∀ c, ckn (allC (rTxt (R.eraseIdx (rAt R t o.n).toNat))) c + ckn (divL (R.getD (rAt R t o.n).toNat dFf).2.2) c = ckn (allC (rTxt R)) c := allC_erase R _ a1
      obtain ⟨g1, g2⟩ := decs_good (l := divL (R.getD (rAt R t o.n).toNat dFf).2.2) h.gu (fun c => by
       rw [h.cu c]
       have := hce c
       omega)
      have hsub : (R.eraseIdx (rAt R t o.n).toNat).Sublist R := List.eraseIdx_sublist ..
      refine ⟨fun s hs => ?_, fun f hf => h.tn f (hsub.subset hf), h.nl, h.nx, fun s hs => ?_, Nat.le_succ_of_le (Nat.le_trans hsub.length_le h.len), fun f hf => h.sz f (hsub.subset hf), g1, fun c => ?_⟩
      ·show upd st.fs t (mdel (st.fs t) o.n) s = _
       rw [hidx, vw_erase t o.n R hany s]
       unfold upd
       by_cases e2 : s = t
       ·rw [if_pos e2, if_pos (by rw [e2]), h.fs t ht12]
       ·rw [if_neg e2, if_neg (by omega), h.fs s hs]
      ·show TOk (upd st.fs t (mdel (st.fs t) o.n) s) (st.nx s) (m + 1)
       unfold upd
       by_cases e2 : s = t
       ·rw [if_pos e2, e2]
        exact ((h.ok t ht12).del o.n).more
       ·rw [if_neg e2]
        exact (h.ok s hs).more
      ·show cntU (decs st.us (divL (R.getD (rAt R t o.n).toNat dFf).2.2)) c = ((ckn (allC (rTxt (R.eraseIdx (rAt R t o.n).toNat))) c : Nat) : Int)
       rw [g2 c, h.cu c]
       have := hce c
       omega
    ·rw [if_neg h2, if_neg h2]
     exact ⟨rfl, h.more⟩
 ·rw [if_neg hr]
  have hno : R.find? (hitF o.t o.n) = none := by
   rw [List.find?_eq_none]
   intro f hf hp
   have := h.tn f hf
   have e : f.1 = o.t := by
    have : (f.1 == o.t && f.2.1 == o.n) = true := hp
    rw [Bool.and_eq_true, beq_iff_eq] at this
    exact this.1
   rw [e] at this
   exact hr this
  by_cases h0 : o.d = 0
  ·rw [if_pos h0, if_pos h0]
   unfold rPut
   rw [if_pos (by omega)]
   exact ⟨rfl, h.more⟩
  ·rw [if_neg h0, if_neg h0]
   by_cases h1 : o.d = 1
   ·rw [if_pos h1, if_pos h1]
    have e : rGet R o.t o.n = none := by unfold rGet; rw [hno]; rfl
    rw [e]
    exact ⟨rfl, h.more⟩
   ·rw [if_neg h1, if_neg h1]
    by_cases h2 : o.d = 2
    ·rw [if_pos h2, if_pos h2]
     unfold rDrop
     have ha : rAt R o.t o.n < 0 := by
      unfold rAt
      rw [if_neg]
      ·decide
      ·intro hh
       obtain ⟨f, hf, hp⟩ := List.any_eq_true.1 hh
       exact List.find?_eq_none.1 hno f hf hp
     rw [if_pos ha]
     exact ⟨rfl, h.more⟩
    ·rw [if_neg h2, if_neg h2]
     exact ⟨rfl, h.more⟩
end Go.Proofs.Ytnookbebiacaeaa
end

section
namespace Go.Proofs.Ytnookbebiacaeaa
open Go.Eng Go.RowKit
def tri (l : List Opn) : Nat → St × (List Fl × List Int)
 | 0 => (st0, ([], List.replicate 12 0))
 | k + 1 => ((sDo (tri l k).1 (l.getD k dOp)).1, (rDo (tri l k).2.1 (tri l k).2.2 (l.getD k dOp)).1)
theorem tri_rel {l : List Opn} (hz : ∀ o ∈ l, o.x.size ≤ 200) : ∀ k, k ≤ l.length → Rel (tri l k).1 (tri l k).2.1 (tri l k).2.2 k
 | 0, _ => Rel.start
 | k + 1, h => ((tri_rel hz k (by omega)).step _ (hz _ (getD_memD dOp (by omega)))).2
def usedV (st : St) (t : Int) : Int := if 0 ≤ t ∧ t < 12 then (usedL (st.fs t.toNat) : Int) else 0
theorem used_any (st : St) (B : Bn) (t : Int) (m : Nat) (hm : m ≤ 200) (hS : SOk st m) (hB : BOk st B) : CtrM Try.prog 59 true (storeO st B) [.p 0 0, .i .i64 t] (fun _ : Unit => True) (fun _ => storeO st B) (fun _ => []) (fun _ => .i .i64 (usedV st t)) := by
 unfold usedV
 by_cases h : 0 ≤ t ∧ t < 12
 ·rw [if_pos h]
  have hT := hS.t t.toNat (by omega)
  have c := used_fn st B t.toNat (by omega) (Nat.le_trans hT.len (by omega)) (fun p hp => Nat.le_trans (hT.sz p hp) (by decide)) (hB t.toNat (by omega))
  rw [show ((t.toNat : Nat) : Int) = t by omega] at c
  exact c
 ·rw [if_neg h]
  exact used_none st B t h
theorem usedL_vw (R : List Fl) (t : Int) : usedL (vw R t) = rUsed R t := by
 unfold usedL rUsed vw
 rw [List.map_map]
 rfl
theorem vw_none {R : List Fl} (ht : ∀ f ∈ R, 0 ≤ f.1 ∧ f.1 < 12) {t : Int} (h : ¬ (0 ≤ t ∧ t < 12)) : R.filter (fun f => f.1 == t) = [] := by
 rw [List.filter_eq_nil_iff]
 intro f hf e
 have e : f.1 = t := by simpa using e
 have := ht f hf
 rw [e] at this
 exact h this
theorem rel_used {st : St} {R : List Fl} {N : List Int} {m : Nat} (h : Rel st R N m) (t : Int) : usedV st t = rUsed R t := by
 unfold usedV
 by_cases hr : 0 ≤ t ∧ t < 12
 ·rw [if_pos hr, h.fs t.toNat (by omega), usedL_vw, show ((t.toNat : Nat) : Int) = t by omega]
 ·rw [if_neg hr]
  unfold rUsed
  rw [vw_none h.tn hr]
  rfl
theorem rel_len {st : St} {R : List Fl} {N : List Int} {m : Nat} (h : Rel st R N m) : st.us.length = (keptL (rTxt R)).length := uses_len h.gu h.cu
theorem rel_names {st : St} {R : List Fl} {N : List Int} {m : Nat} (h : Rel st R N m) {t : Nat} (ht : t < 12) : sortI (mkeys (st.fs t)) = rNames R t := by
 rw [sortI_id (h.ok t ht).asc, h.fs t ht]
 unfold mkeys vw rNames
 rw [List.map_map]
 rfl
theorem dn_eq (d : Dn) : eqAVs (dnA d) (dnA d) = true := by
 have hb : bytesEq d.2.1 d.2.1 = true := bytes_eq.2 rfl
 show ((d.1 == d.1) && (bytesEq d.2.1 d.2.1 && (d.2.2 == d.2.2))) = true
 rw [hb]
 simp
end Go.Proofs.Ytnookbebiacaeaa
end

section
namespace Go.Proofs.Ytnookbebiacaeaa
open Go.Eng
def SameT (s s' : St) (t : Int) : Prop := ∀ j : Nat, (j : Int) = t → s.fs j = s'.fs j ∧ s.nx j = s'.nx j
theorem SameT.refl (s : St) (t : Int) : SameT s s t := fun _ _ => ⟨rfl, rfl⟩
theorem upd_eq {α : Type} (f : Nat → α) (t : Nat) (v : α) : upd f t v t = v := by unfold upd; rw [if_pos rfl]
def Good (s : St) (m : Nat) : Prop := ∃ R N, Rel s R N m
theorem Good.start : Good st0 0 := ⟨_, _, Rel.start⟩
theorem Good.more {s : St} {m : Nat} (h : Good s m) : Good s (m + 1) := by
 obtain ⟨R, N, h⟩ := h
 exact ⟨R, N, h.more⟩
theorem Good.step {s : St} {m : Nat} (h : Good s m) (o : Opn) (hx : o.x.size ≤ 200) : Good (sDo s o).1 (m + 1) := by
 obtain ⟨R, N, h⟩ := h
 exact ⟨_, _, (h.step o hx).2⟩
theorem Good.sok {s : St} {m : Nat} (h : Good s m) (hm : m ≤ 200) : SOk s m := by
 obtain ⟨R, N, h⟩ := h
 exact h.sok hm
end Go.Proofs.Ytnookbebiacaeaa
end

section
namespace Go.Proofs.Ytnookbebiacaeaa
open Go.Eng
theorem asc_nd {L : List (Int × ByteArray)} (h : (mkeys L).Pairwise (· < ·)) : (mkeys L).Nodup := h.imp fun hab e => by omega
theorem mget_key {L : List (Int × ByteArray)} (h : (mkeys L).Pairwise (· < ·)) : ∀ {i : Nat}, i < L.length → mget L (L.getD i dFl).1 = some (L.getD i dFl).2 := by
 induction L with
 | nil => intro i hi; exact absurd hi (Nat.not_lt_zero i)
 | cons p r ih =>
  intro i hi
  have hp : (mkeys (p :: r)) = p.1 :: mkeys r := rfl
  rw [hp, List.pairwise_cons] at h
  cases i with
  | zero =>
   show mget (p :: r) p.1 = some p.2
   simp [mget]
  | succ i =>
   have hi : i < r.length := by simpa using hi
   rw [List.getD_cons_succ]
   have hm : (r.getD i dFl).1 ∈ mkeys r := List.mem_map.2 ⟨_, getD_memD dFl hi, rfl⟩
   have := h.1 _ hm
   simp only [mget]
   rw [if_neg (by omega)]
   exact ih h.2 hi
theorem Rel.tight {st : St} {R : List Fl} {N : List Int} {m : Nat} (h : Rel st R N (m + 1)) (h1 : R.length ≤ m) (h2 : ∀ t, t < 12 → (st.fs t).length ≤ m ∧ st.nx t ≤ m) : Rel st R N m :=
 ⟨h.fs, h.tn, h.nl, h.nx, fun t ht => ⟨(h.ok t ht).asc, (h.ok t ht).lo, (h2 t ht).1, (h.ok t ht).n0, (h2 t ht).2, (h.ok t ht).sz⟩, h1, h.sz, h.gu, h.cu⟩
theorem sDrop_some {s : St} {t : Nat} {n : Int} {x : ByteArray} (ht : t < 12) (hm : mget (s.fs t) n = some x) : sDo s ⟨2, t, n, noB⟩ = (dropS s t n x, (0, noB, 0)) := by
 unfold sDo
 have e : (⟨2, (t : Int), n, noB⟩ : Opn).t.toNat = t := Int.toNat_natCast t
 rw [if_pos ⟨by show (0 : Int) ≤ t; omega, by show (t : Int) < 12; omega⟩, if_neg (by show ¬ (2 : Int) = 0; decide), if_neg (by show ¬ (2 : Int) = 1; decide), if_pos rfl, e]
 unfold sDrop
 show (match mget (s.fs t) n with | some x => _ | none => _) = _
 rw [hm]
theorem Good.drop {s : St} {m : Nat} (h : Good s m) {t : Nat} {n : Int} {x : ByteArray} (ht : t < 12) (hm : mget (s.fs t) n = some x) : Good (dropS s t n x) m := by
 obtain ⟨R, N, h⟩ := h
 have hs := (h.step ⟨2, t, n, noB⟩ (by show noB.size ≤ 200; decide)).2
 rw [sDrop_some ht hm] at hs
 have hl : (rDo R N ⟨2, t, n, noB⟩).1.1.length ≤ R.length := by
  unfold rDo
  rw [if_neg (by show ¬ (2 : Int) = 0; decide), if_neg (by show ¬ (2 : Int) = 1; decide), if_pos rfl]
  unfold rDrop
  split
  ·exact Nat.le_refl _
  ·exact (List.eraseIdx_sublist ..).length_le
 refine ⟨_, _, hs.tight (Nat.le_trans hl h.len) fun j hj => ⟨?_, (h.ok j hj).nm⟩⟩
 show (upd s.fs t (mdel (s.fs t) n) j).length ≤ m
 unfold upd
 split
 ·exact Nat.le_trans (mdel_sub _ _).length_le (h.ok t ht).len
 ·exact (h.ok j hj).len
theorem Good.put {s : St} {m : Nat} (h : Good s m) {t : Nat} {x : ByteArray} (ht : t < 12) (he : s.fs t = []) (hx : x.size ≤ 200) : Good (putS s t x) (m + 1) := by
 have hs := h.step ⟨0, t, 0, x⟩ hx
 have e : (⟨0, (t : Int), 0, x⟩ : Opn).t.toNat = t := Int.toNat_natCast t
 have : sDo s ⟨0, t, 0, x⟩ = (putS s t x, (s.nx t, noB, 0)) := by
  unfold sDo
  rw [if_pos ⟨by show (0 : Int) ≤ t; omega, by show (t : Int) < 12; omega⟩, if_pos rfl, e]
  unfold sPut
  rw [he]
  rfl
 rwa [this] at hs
end Go.Proofs.Ytnookbebiacaeaa
end

section
namespace Go.Proofs.Ytnookbebiacaeaa
open Go.Eng
theorem err_in {s : St} {o : Opn} (hd : o.d = 0 ∨ o.d = 2) (he : (sDo s o).2.2.2 = 0) : 0 ≤ o.t ∧ o.t < 12 := by
 by_cases hr : 0 ≤ o.t ∧ o.t < 12
 ·exact hr
 ·unfold sDo at he
  rw [if_neg hr] at he
  rcases hd with h | h
  ·rw [if_pos h] at he
   have he : (1 : Int) = 0 := he
   exact absurd he (by decide)
  ·rw [if_neg (by omega), if_neg (by omega), if_pos h] at he
   have he : (4 : Int) = 0 := he
   exact absurd he (by decide)
theorem put_again {s : St} {o : Opn} {m : Nat} (hg : Good (sDo s o).1 m) (hm : m ≤ 200) (hd : o.d = 0) (he : (sDo s o).2.2.2 = 0) :
  ∃ t : Nat, t < 12 ∧ o.t = t ∧ mget ((sDo s o).1.fs t) (sDo s o).2.1 = some o.x ∧ ((sDo s o).1, ((sDo s o).2.1, noB, (0 : Int))) = sDo (sDo s o).1 ⟨0, o.t, 0, o.x⟩ := by
 have hr := err_in (.inl hd) he
 refine ⟨o.t.toNat, by omega, by omega, ?_⟩
 have hT := (hg.sok hm).t o.t.toNat (by omega)
 have key : ∃ p, ((sDo s o).1.fs o.t.toNat).find? (fun p => bytesEq p.2 o.x) = some p ∧ p.1 = (sDo s o).2.1 := by
  unfold sDo
  rw [if_pos hr, if_pos hd]
  unfold sPut
  cases hf : (s.fs o.t.toNat).find? (fun p => bytesEq p.2 o.x) with
  | some p => exact ⟨p, hf, rfl⟩
  | none =>
   refine ⟨(s.nx o.t.toNat, o.x), ?_, rfl⟩
   show (upd s.fs o.t.toNat (s.fs o.t.toNat ++ [(s.nx o.t.toNat, o.x)]) o.t.toNat).find? _ = _
   rw [upd_eq, List.find?_append, hf]
   have : bytesEq o.x o.x = true := bytes_eq.2 rfl
   simp [this]
 obtain ⟨p, h1, h2⟩ := key
 obtain ⟨i, g1, g2, g3, _⟩ := find_at h1
 refine ⟨?_, ?_⟩
 ·have := mget_key hT.asc g1
  rw [g2, h2, g3] at this
  exact this
 ·generalize (sDo s o).1 = s1 at h1
  generalize (sDo s o).2.1 = n1 at h2
  unfold sDo
  dsimp only
  rw [if_pos hr, if_pos rfl]
  unfold sPut
  rw [h1]
  dsimp only
  rw [h2]
theorem drop_again {s : St} {o : Opn} {m : Nat} (hg : Good s m) (hm : m ≤ 200) (hd : o.d = 2) (he : (sDo s o).2.2.2 = 0) :
  ∃ t : Nat, t < 12 ∧ o.t = t ∧ mget ((sDo s o).1.fs t) o.n = none := by
 have hr := err_in (.inr hd) he
 refine ⟨o.t.toNat, by omega, by omega, ?_⟩
 have hT := (hg.sok hm).t o.t.toNat (by omega)
 unfold sDo at he ⊢
 rw [if_pos hr, if_neg (by omega), if_neg (by omega), if_pos hd] at he ⊢
 unfold sDrop at he ⊢
 cases hf : mget (s.fs o.t.toNat) o.n with
 | none =>
  rw [hf] at he
  have he : (4 : Int) = 0 := he
  exact absurd he (by decide)
 | some x =>
  show mget (upd s.fs o.t.toNat (mdel (s.fs o.t.toNat) o.n) o.t.toNat) o.n = none
  rw [upd_eq, mget_mdel (asc_nd hT.asc), if_pos rfl]
def runS (s : St) (l : List Opn) : Nat → St
 | 0 => s
 | k + 1 => (sDo (runS s l k) (l.getD k dOp)).1
def ansS (s : St) (l : List Opn) (k : Nat) : Dn := (sDo (runS s l k) (l.getD k dOp)).2
theorem runS_good {s : St} {l : List Opn} {m : Nat} (h : Good s m) (hz : ∀ o ∈ l, o.x.size ≤ 200) : ∀ k, k ≤ l.length → Good (runS s l k) (m + k)
 | 0, _ => h
 | k + 1, hk => (runS_good h hz k (by omega)).step _ (hz _ (getD_memD dOp (by omega)))
def rD (a : Nat → Dn) (k : Nat) : List AV := dnA (a k)
theorem snocD_row (a : Nat → Dn) (n : Nat) : AOEq (.row 73 3 (n + 1) (rD a)) (.row 73 3 (n + 1) (catG n (rD a) (rowOf 3 (dnA (a n))))) := by
 refine ⟨rfl, rfl, rfl, fun k hk => ?_⟩
 unfold catG
 by_cases h : k < n
 ·rw [if_pos h]
 ·have : k = n := by omega
  subst this
  rw [if_neg h]
  simp
  rfl
end Go.Proofs.Ytnookbebiacaeaa
end

section
namespace Go.Proofs.Ytnookbebiacaeaa
open Go.Eng Go.RowKit
theorem CtrM.unitB {P : Program} {f : FuncId} {ins : List AO} {args : List AV} {Y : Type} {spec : Y → Prop} {outs : Y → List AO} {r : AV} (y : Y) (hy : spec y) {o : List AO} (ho : outs y = o)
  (h : CtrM P f true ins args (fun _ : Unit => True) (fun _ => o) (fun _ => []) (fun _ => r)) : CtrM P f true ins args spec outs (fun _ => []) (fun _ => r) := by
 subst ho
 refine ⟨h.1, fun F w β vs h1 h2 h3 h4 h5 h6 h7 => (h.2 F w β vs h1 h2 h3 h4 h5 h6 h7).mono ?_⟩
 rintro e w' ⟨v, β', _, h8, _, h9⟩
 exact ⟨v, β', y, h8, hy, h9⟩
theorem put_o (st : St) (B : Bn) (t : Int) (x : ByteArray) (m : Nat) (hS : SOk st m) (hm : m ≤ 200) (hB : BOk st B) (hx : x.size ≤ 200) (F : St × Dn) (hF : F = sDo st ⟨0, t, 0, x⟩) :
  CtrM Try.prog 69 true (storeO st B) [.p 0 0, .i .i64 t, .s x] (fun B' : Bn => BOk F.1 B') (fun B' => storeO F.1 B') (fun _ => []) (fun _ => .tup [.i .i64 F.2.1, .i .i64 F.2.2.2]) := by
 unfold sDo at hF
 dsimp only at hF
 by_cases hr : 0 ≤ t ∧ t < 12
 ·rw [if_pos hr, if_pos rfl] at hF
  have hT := hS.t t.toNat (by omega)
  have ett : ((t.toNat : Nat) : Int) = t := by omega
  unfold sPut at hF
  cases hfd : (st.fs t.toNat).find? (fun p => bytesEq p.2 x) with
  | some p =>
   rw [hfd] at hF
   dsimp only at hF
   subst hF
   obtain ⟨i, h1, h2, h3, h4⟩ := find_at hfd
   have c := put_same st B t.toNat m x (by omega) hm hT hx i h1 (by rw [h2]; exact h3) h4
   rw [ett, h2] at c
   exact CtrM.unitB B hB rfl c
  | none =>
   rw [hfd] at hF
   dsimp only at hF
   subst hF
   have c := put_new st B t.toNat m x (by omega) hm hT hx hB hS.u (find_no hfd)
   rw [ett] at c
   exact c
 ·rw [if_neg hr, if_pos rfl] at hF
  subst hF
  exact CtrM.unitB B hB rfl (put_none st B t x hr)
def sA : ByteArray := ⟨#[97]⟩
def sB : ByteArray := ⟨#[98]⟩
def sX : ByteArray := ⟨#[120]⟩
def smL : List Opn := [⟨0, 0, 0, sA⟩, ⟨0, 0, 0, sB⟩, ⟨0, 0, 0, sA⟩, ⟨0, 1, 0, sB⟩, ⟨2, 0, 1, noB⟩, ⟨0, 0, 0, sB⟩, ⟨0, 12, 0, sX⟩]
theorem smK : (keptL [sA, sB, sB]).length = 2 := by kernel_rfl
end Go.Proofs.Ytnookbebiacaeaa
end

section
namespace Go.Proofs.Ytnookbebiacaeaa
open Go.Eng Go.RowKit
theorem smZ : ∀ o ∈ smL, o.x.size ≤ 200 := by
 intro o ho
 simp only [smL, List.mem_cons, List.not_mem_nil, or_false] at ho
 rcases ho with rfl | rfl | rfl | rfl | rfl | rfl | rfl <;> decide
theorem smRel (k : Nat) (h : k ≤ 7) : Rel (tri smL k).1 (tri smL k).2.1 (tri smL k).2.2 k := tri_rel smZ k h
theorem smSt (k : Nat) (h : k < 7) (d : Dn) (hd : (rDo (tri smL k).2.1 (tri smL k).2.2 (smL.getD k dOp)).2 = d) : ((tri smL (k + 1)).1, d) = sDo (tri smL k).1 (smL.getD k dOp) := by
 have := ((smRel k (by omega)).step (smL.getD k dOp) (smZ _ (getD_memD dOp h))).1
 rw [hd] at this
 exact Prod.ext rfl this.symm
theorem smPut (k : Nat) (h : k < 7) (t : Int) (x : ByteArray) (ho : smL.getD k dOp = ⟨0, t, 0, x⟩) (d : Dn) (hd : (rDo (tri smL k).2.1 (tri smL k).2.2 (smL.getD k dOp)).2 = d) (hx : x.size ≤ 200) (B : Bn) (hB : BOk (tri smL k).1 B) :
  CtrM Try.prog 69 true (storeO (tri smL k).1 B) [.p 0 0, .i .i64 t, .s x] (fun B' : Bn => BOk (tri smL (k + 1)).1 B') (fun B' => storeO (tri smL (k + 1)).1 B') (fun _ => []) (fun _ => .tup [.i .i64 d.1, .i .i64 d.2.2]) :=
 put_o (tri smL k).1 B t x k ((smRel k (by omega)).sok (by omega)) (by omega) hB hx ((tri smL (k + 1)).1, d) (by rw [← ho]; exact smSt k h d hd)
theorem smUsed (k : Nat) (h : k ≤ 7) (t : Int) (n : Nat) (hn : rUsed (tri smL k).2.1 t = n) (B : Bn) (hB : BOk (tri smL k).1 B) :
  CtrM Try.prog 59 true (storeO (tri smL k).1 B) [.p 0 0, .i .i64 t] (fun _ : Unit => True) (fun _ => storeO (tri smL k).1 B) (fun _ => []) (fun _ => .i .i64 (n : Int)) := by
 have c := used_any (tri smL k).1 B t k (by omega) ((smRel k h).sok (by omega)) hB
 rw [rel_used (smRel k h), hn] at c
 exact c
theorem smChunks (k : Nat) (h : k ≤ 7) (n : Nat) (hn : (keptL (rTxt (tri smL k).2.1)).length = n) (B : Bn) :
  CtrM Try.prog 61 true (storeO (tri smL k).1 B) [.p 0 0] (fun _ : Unit => True) (fun _ => storeO (tri smL k).1 B) (fun _ => []) (fun _ => .i .i64 (n : Int)) := by
 have c := chunks_fn (tri smL k).1 B
 rw [rel_len (smRel k h), hn] at c
 exact c
theorem smGet (k : Nat) (h : k ≤ 7) (t : Nat) (ht : t < 12) (n : Int) (y : Option ByteArray) (hy : rGet (tri smL k).2.1 t n = y) (B : Bn) :
  CtrM Try.prog 66 true (storeO (tri smL k).1 B) [.p 0 0, .i .i64 t, .i .i64 n] (fun _ : Unit => True) (fun _ => storeO (tri smL k).1 B) (fun _ => []) (fun _ => getR y) := by
 have hR := smRel k h
 have c := get_fn (tri smL k).1 B t n ht (fun p hp => Nat.le_trans ((hR.ok t ht).sz p hp) (by decide))
 rw [hR.fs t ht, vw_get, hy] at c
 exact c
theorem smDrop (B : Bn) (hB : BOk (tri smL 4).1 B) : CtrM Try.prog 68 true (storeO (tri smL 4).1 B) [.p 0 0, .i .i64 (0 : Nat), .i .i64 1] (fun B' : Bn => BOk (tri smL 5).1 B') (fun B' => storeO (tri smL 5).1 B') (fun _ => []) (fun _ => .i .i64 0) := by
 have hR := smRel 4 (by decide)
 have hg : mget ((tri smL 4).1.fs 0) 1 = some sB := by
  rw [hR.fs 0 (by decide), vw_get]
  kernel_rfl
 have e : (tri smL 5).1 = dropS (tri smL 4).1 0 1 sB := by
  show (sDo (tri smL 4).1 ⟨2, 0, 1, noB⟩).1 = _
  unfold sDo
  dsimp only
  rw [if_pos (by decide), if_neg (by decide), if_neg (by decide), if_pos rfl]
  unfold sDrop
  rw [show ((0 : Int).toNat) = 0 from rfl, hg]
 rw [e]
 exact drop_fn (tri smL 4).1 B 0 1 sB (by decide) hg (by decide) hB (hR.ub (by decide))
theorem smNames (B : Bn) : CtrM Try.prog 64 true (storeO (tri smL 7).1 B) [.p 0 0, .i .i64 (0 : Nat)] (fun _ : Unit => True) (fun _ => storeO (tri smL 7).1 B) (fun _ => [.row 3 1 2 (rI [0, 2])]) (fun _ => .so 14) := by
 have hR := smRel 7 (by decide)
 have hT := hR.ok 0 (by decide)
 have c := names_fn (tri smL 7).1 B 0 (by decide) (hT.wf (by decide)) (by have := hT.len; omega)
 have hn := rel_names hR (t := 0) (by decide)
 have hr : rNames (tri smL 7).2.1 ((0 : Nat) : Int) = [0, 2] := by kernel_rfl
 have hl : ((tri smL 7).1.fs 0).length = 2 := by
  have e := congrArg List.length (hn.trans hr)
  rw [sortI_length] at e
  simpa [mkeys] using e
 rw [hn, hr, hl] at c
 exact c
set_option maxRecDepth 20000 in
set_option maxHeartbeats 16000000 in
theorem small53_fn : Ctr Try.prog 53 [] [] (.b true) := by
 refine fn_of_exec tabOk Try.func53 (by kernel_rfl) rfl (N := Try.f53.ntmps) rfl (res := [.tmp 0]) rfl rfl [] ?_
 refine Or.inr (Or.inr ?_)
 refine ⟨true, [], rfl, Unit, _, _, _, _, new55_fn, fun _ _ => ?_⟩
 repeat refine Or.inl ?_
 refine ⟨fun hc => (by cases hc), fun _ => ?_⟩
 refine Or.inr (Or.inr ?_)
 refine ⟨true, [0, 1, 2, 3, 4, 5, 6, 7, 8, 9, 10, 11, 12, 13], rfl, Bn, _, _, _, _, smPut 0 (by decide) 0 sA rfl (0, noB, 0) (by kernel_rfl) (by decide) b0 b0_ok, fun B1 h1 => ?_⟩
 refine Or.inr (Or.inr ?_)
 refine ⟨true, [0, 1, 2, 3, 4, 5, 6, 7, 8, 9, 10, 11, 12, 13], rfl, Bn, _, _, _, _, smPut 1 (by decide) 0 sB rfl (1, noB, 0) (by kernel_rfl) (by decide) B1 h1, fun B2 h2 => ?_⟩
 refine Or.inr (Or.inr ?_)
 refine ⟨true, [0, 1, 2, 3, 4, 5, 6, 7, 8, 9, 10, 11, 12, 13], rfl, Bn, _, _, _, _, smPut 2 (by decide) 0 sA rfl (0, noB, 0) (by kernel_rfl) (by decide) B2 h2, fun B3 h3 => ?_⟩
 refine Or.inr (Or.inr ?_)
 refine ⟨true, [0, 1, 2, 3, 4, 5, 6, 7, 8, 9, 10, 11, 12, 13], rfl, Bn, _, _, _, _, smPut 3 (by decide) 1 sB rfl (0, noB, 0) (by kernel_rfl) (by decide) B3 h3, fun B4 h4 => ?_⟩
 refine Or.inr (Or.inl ⟨⟨⟨rfl, rfl⟩, trivial⟩, ?_⟩)
 refine Or.inr (Or.inr ?_)
 refine ⟨true, [0, 1, 2, 3, 4, 5, 6, 7, 8, 9, 10, 11, 12, 13], rfl, Unit, _, _, _, _, smChunks 4 (by decide) 2 (by kernel_rfl) B4, fun _ _ => ?_⟩
 refine Or.inr (Or.inl ⟨⟨⟨rfl, rfl⟩, trivial⟩, ?_⟩)
 refine Or.inr (Or.inr ?_)
 refine ⟨true, [0, 1, 2, 3, 4, 5, 6, 7, 8, 9, 10, 11, 12, 13], rfl, Unit, _, _, _, _, smUsed 4 (by decide) 0 2 (by kernel_rfl) B4 h4, fun _ _ => ?_⟩
 refine Or.inr (Or.inl ⟨⟨⟨rfl, rfl⟩, trivial⟩, ?_⟩)
 refine Or.inr (Or.inr ?_)
 refine ⟨true, [0, 1, 2, 3, 4, 5, 6, 7, 8, 9, 10, 11, 12, 13], rfl, Unit, _, _, _, _, smUsed 4 (by decide) 1 1 (by kernel_rfl) B4 h4, fun _ _ => ?_⟩
 refine Or.inr (Or.inr ?_)
 refine ⟨true, [0, 1, 2, 3, 4, 5, 6, 7, 8, 9, 10, 11, 12, 13], rfl, Bn, _, _, _, _, smDrop B4 h4, fun B5 h5 => ?_⟩
 refine Or.inr (Or.inr ?_)
 refine ⟨true, [0, 1, 2, 3, 4, 5, 6, 7, 8, 9, 10, 11, 12, 13], rfl, Unit, _, _, _, _, smGet 5 (by decide) 0 (by decide) 1 none (by kernel_rfl) B5, fun _ _ => ?_⟩
 refine Or.inr (Or.inr ?_)
 refine ⟨true, [0, 1, 2, 3, 4, 5, 6, 7, 8, 9, 10, 11, 12, 13], rfl, Unit, _, _, _, _, smGet 5 (by decide) 1 (by decide) 0 (some sB) (by kernel_rfl) B5, fun _ _ => ?_⟩
 refine Or.inr (Or.inl ⟨⟨⟨rfl, by kernel_rfl⟩, trivial⟩, ?_⟩)
 refine Or.inr (Or.inr ?_)
 refine ⟨true, [0, 1, 2, 3, 4, 5, 6, 7, 8, 9, 10, 11, 12, 13], rfl, Unit, _, _, _, _, smChunks 5 (by decide) 2 (by kernel_rfl) B5, fun _ _ => ?_⟩
 refine Or.inr (Or.inr ?_)
 refine ⟨true, [0, 1, 2, 3, 4, 5, 6, 7, 8, 9, 10, 11, 12, 13], rfl, Bn, _, _, _, _, smPut 5 (by decide) 0 sB rfl (2, noB, 0) (by kernel_rfl) (by decide) B5 h5, fun B6 h6 => ?_⟩
 refine Or.inr (Or.inr ?_)
 refine ⟨true, [0, 1, 2, 3, 4, 5, 6, 7, 8, 9, 10, 11, 12, 13], rfl, Bn, _, _, _, _, smPut 6 (by decide) 12 sX rfl (0, noB, 1) (by kernel_rfl) (by decide) B6 h6, fun B7 h7 => ?_⟩
 refine Or.inr (Or.inl ⟨⟨⟨rfl, by kernel_rfl⟩, trivial⟩, ?_⟩)
 refine Or.inr (Or.inr ?_)
 refine ⟨true, [0, 1, 2, 3, 4, 5, 6, 7, 8, 9, 10, 11, 12, 13], rfl, Unit, _, _, _, _, smNames B7, fun _ _ => ?_⟩
 have c63 : Ctr Try.prog 63 [.rs 1 2 (rI [0, 2]), .rs 1 2 (rowOf 1 [.i .i64 0, .i .i64 2])] [] (.b true) := by
  have := ints_fn [0, 2] [0, 2] (by decide) (by decide)
  rw [decide_eq_true rfl] at this
  refine Ctr.of_eq (args := [.rs 1 2 (rI [0, 2]), .rs 1 2 (rI [0, 2])]) ⟨AVEq.refl _, rfl, rfl, fun k hk => ?_⟩ this
  match k, hk with
  | 0, _ => rfl
  | 1, _ => rfl
 refine Or.inl (Or.inl ⟨_, _, ⟨fun _ => c63, ?_⟩⟩)
 exact RetIs.b (by kernel_rfl)
end Go.Proofs.Ytnookbebiacaeaa
end
