/-
  Several texts in one: Ckd.
-/
import Derived.Test.YtnookbebiacaeaaMg19

section
namespace Go.Proofs.Ytnookbebiacaeaa
open Go.Eng Go.RowKit
set_option maxRecDepth 20000 in
set_option maxHeartbeats 8000000 in
theorem put_same (st : St) (B : Bn) (t m : Nat) (x : ByteArray) (h : t < 12) (hm : m ≤ 200) (hT : TOk (st.fs t) (st.nx t) m) (hx : x.size ≤ 200) (i : Nat) (hi : i < (st.fs t).length) (hix : ((st.fs t).getD i dFl).2 = x) (hlt : ∀ j, j < i → ((st.fs t).getD j dFl).2 ≠ x) :
  CtrM Try.prog 69 true (storeO st B) [.p 0 0, .i .i64 t, .s x] (fun _ : Unit => True) (fun _ => storeO st B) (fun _ => []) (fun _ => .tup [.i .i64 ((st.fs t).getD i dFl).1, .i .i64 0]) := by
 refine fn_of_execM tabOk Try.func69 (by kernel_rfl) rfl (N := Try.f69.ntmps) rfl (res := [.tmp 6, .tmp 7]) rfl true false (storeO st B) _ _ _ _ rfl (fun h => by cases h) [] ?_
 have hso : sortI (mkeys (st.fs t)) = mkeys (st.fs t) := sortI_id hT.asc
 have hkF := keysFile (st.fs t)
 have hdx := div_len x
 have hnd := hT.nodup
 have hTl := hT.len
 rcases cases12 h with rfl | rfl | rfl | rfl | rfl | rfl | rfl | rfl | rfl | rfl | rfl | rfl
 ·refine Or.inr (Or.inr ?_)
  refine ⟨true, [0, 1, 2, 3, 4, 5, 6, 7, 8, 9, 10, 11, 12, 13], rfl, Unit, _, _, _, _, of_fn st B 0 (by decide), fun _ _ => ?_⟩
  repeat refine Or.inl ?_
  refine ⟨fun hc => (by cases hc), fun _ => ?_⟩
  refine ⟨fun hc => (by have hc : decide ((x.size : Int) > 65536) = true := hc; rw [decide_eq_true_eq] at hc; omega), fun _ => ?_⟩
  refine Or.inl ⟨_, _, (divided_fn x (by omega)).frz, ?_⟩
  refine Or.inl (Or.inr (Or.inr ?_))
  refine ⟨true, [0, 1, 2, 3, 4, 5, 6, 7, 8, 9, 10, 11, 12, 13], rfl, Unit, _, _, _, _, names_fn st B 0 (by decide) (hT.wf (by omega)) (by have := hT.len; omega), fun _ _ => ?_⟩
  repeat refine Or.inl ?_
  refine ⟨[], Nat, fun k => k ≤ (st.fs 0).length ∧ (∀ j, j < k → ((st.fs 0).getD j dFl).2 ≠ x) ∧ k ≤ i, fun k => [⟨34, [], .i .i64 k⟩], fun k => [], fun k => (st.fs 0).length - k,
   ⟨0, [], ⟨Nat.zero_le _, fun j hj => absurd hj (Nat.not_lt_zero j), Nat.zero_le _⟩, rfl, rfl, rfl, rfl, rfl, ⟨rfl, rfl⟩, trivial⟩, ?_⟩
  rintro k ⟨hk, hno, hki⟩
  have hk : k ≤ (st.fs 0).length := hk
  refine .inl ⟨fun hc => ?_, fun hc => ?_⟩
  ·have hc := dlt hc
   have hc : (k : Int) < (st.fs 0).length := hc
   have ek : ((k : Nat) : Int).toNat = k := Int.toNat_natCast _
   repeat refine Or.inl ?_
   refine ⟨⟨by omega, by omega⟩, ?_⟩
   have hl := lookF (st.fs 0) ((mkeys (st.fs 0)).getD ((k : Nat) : Int).toNat 0)
   rw [ek, mkeys_getD, mget_at hnd (by omega)] at hl
   have hgk : AV.i .i64 ((sortI (mkeys (st.fs 0))).getD ((k : Nat) : Int).toNat 0) = AV.i .i64 ((st.fs 0).getD k dFl).1 := by rw [hso, ek, mkeys_getD]
   rw [← hgk] at hl
   have hsk : ((st.fs 0).getD k dFl).2.size ≤ 200 := hT.sz _ (getD_memD dFl (by omega))
   have hdk := div_len ((st.fs 0).getD k dFl).2
   refine ⟨by omega, ?_⟩
   refine ⟨_, _, ⟨hkF, rfl, hl⟩, ?_⟩
   refine Or.inl ⟨_, _, equal_fn (divL ((st.fs 0).getD k dFl).2) (divL x) (by omega) (by omega), ?_⟩
   refine ⟨fun h2 => ?_, fun h2 => ?_⟩
   ·have h2 : decide (divL ((st.fs 0).getD k dFl).2 = divL x) = true := h2
    rw [bytes_dif, decide_eq_true_eq] at h2
    have hki2 : k = i := by
     rcases Nat.lt_trichotomy k i with h3 | h3 | h3
     ·exact absurd h2 (hlt k h3)
     ·exact h3
     ·omega
    have hav : AVEq (.tup [.i .i64 ((st.fs 0).getD i dFl).1, .i .i64 0]) (.tup [.i .i64 ((sortI (mkeys (st.fs 0))).getD ((k : Nat) : Int).toNat 0), .i .i64 0]) := by
     rw [hgk, hki2]
     exact AVEq.refl _
    exact ⟨(), [], trivial, ⟨⟨⟨rfl, rfl, hav⟩, trivial⟩, ⟨⟨rfl, rfl, rfl, ⟨rfl, AVsEq.refl _⟩⟩, ⟨rfl, rfl, trivial, AOEq.refl _⟩, ⟨rfl, rfl, trivial, AOEq.refl _⟩, ⟨rfl, rfl, trivial, AOEq.refl _⟩, ⟨rfl, rfl, trivial, AOEq.refl _⟩, ⟨rfl, rfl, trivial, AOEq.refl _⟩, ⟨rfl, rfl, trivial, AOEq.refl _⟩, ⟨rfl, rfl, trivial, AOEq.refl _⟩, ⟨rfl, rfl, trivial, AOEq.refl _⟩, ⟨rfl, rfl, trivial, AOEq.refl _⟩, ⟨rfl, rfl, trivial, AOEq.refl _⟩, ⟨rfl, rfl, trivial, AOEq.refl _⟩, ⟨rfl, rfl, trivial, AOEq.refl _⟩, ⟨rfl, rfl, trivial, AOEq.refl _⟩, trivial⟩, rfl⟩, rfl, fun h => by cases h⟩
   ·have h2 : decide (divL ((st.fs 0).getD k dFl).2 = divL x) = false := h2
    rw [bytes_dif, decide_eq_false_iff_not] at h2
    have hki2 : k ≠ i := fun e => h2 (by rw [e]; exact hix)
    refine ⟨k + 1, [], ⟨by omega, fun j hj => ?_, by omega⟩, by dsimp only; omega, rfl, rfl, rfl, rfl, rfl, ⟨rfl, wr (by omega) (by omega)⟩, trivial⟩
    by_cases hjk : j = k
    ·rw [hjk]; exact h2
    ·exact hno j (by omega)
  ·exfalso
   have hc := dnlt hc
   have hc : ((st.fs 0).length : Int) ≤ (k : Nat) := hc
   omega
 ·refine Or.inr (Or.inr ?_)
  refine ⟨true, [0, 1, 2, 3, 4, 5, 6, 7, 8, 9, 10, 11, 12, 13], rfl, Unit, _, _, _, _, of_fn st B 1 (by decide), fun _ _ => ?_⟩
  repeat refine Or.inl ?_
  refine ⟨fun hc => (by cases hc), fun _ => ?_⟩
  refine ⟨fun hc => (by have hc : decide ((x.size : Int) > 65536) = true := hc; rw [decide_eq_true_eq] at hc; omega), fun _ => ?_⟩
  refine Or.inl ⟨_, _, (divided_fn x (by omega)).frz, ?_⟩
  refine Or.inl (Or.inr (Or.inr ?_))
  refine ⟨true, [0, 1, 2, 3, 4, 5, 6, 7, 8, 9, 10, 11, 12, 13], rfl, Unit, _, _, _, _, names_fn st B 1 (by decide) (hT.wf (by omega)) (by have := hT.len; omega), fun _ _ => ?_⟩
  repeat refine Or.inl ?_
  refine ⟨[], Nat, fun k => k ≤ (st.fs 1).length ∧ (∀ j, j < k → ((st.fs 1).getD j dFl).2 ≠ x) ∧ k ≤ i, fun k => [⟨34, [], .i .i64 k⟩], fun k => [], fun k => (st.fs 1).length - k,
   ⟨0, [], ⟨Nat.zero_le _, fun j hj => absurd hj (Nat.not_lt_zero j), Nat.zero_le _⟩, rfl, rfl, rfl, rfl, rfl, ⟨rfl, rfl⟩, trivial⟩, ?_⟩
  rintro k ⟨hk, hno, hki⟩
  have hk : k ≤ (st.fs 1).length := hk
  refine .inl ⟨fun hc => ?_, fun hc => ?_⟩
  ·have hc := dlt hc
   have hc : (k : Int) < (st.fs 1).length := hc
   have ek : ((k : Nat) : Int).toNat = k := Int.toNat_natCast _
   repeat refine Or.inl ?_
   refine ⟨⟨by omega, by omega⟩, ?_⟩
   have hl := lookF (st.fs 1) ((mkeys (st.fs 1)).getD ((k : Nat) : Int).toNat 0)
   rw [ek, mkeys_getD, mget_at hnd (by omega)] at hl
   have hgk : AV.i .i64 ((sortI (mkeys (st.fs 1))).getD ((k : Nat) : Int).toNat 0) = AV.i .i64 ((st.fs 1).getD k dFl).1 := by rw [hso, ek, mkeys_getD]
   rw [← hgk] at hl
   have hsk : ((st.fs 1).getD k dFl).2.size ≤ 200 := hT.sz _ (getD_memD dFl (by omega))
   have hdk := div_len ((st.fs 1).getD k dFl).2
   refine ⟨by omega, ?_⟩
   refine ⟨_, _, ⟨hkF, rfl, hl⟩, ?_⟩
   refine Or.inl ⟨_, _, equal_fn (divL ((st.fs 1).getD k dFl).2) (divL x) (by omega) (by omega), ?_⟩
   refine ⟨fun h2 => ?_, fun h2 => ?_⟩
   ·have h2 : decide (divL ((st.fs 1).getD k dFl).2 = divL x) = true := h2
    rw [bytes_dif, decide_eq_true_eq] at h2
    have hki2 : k = i := by
     rcases Nat.lt_trichotomy k i with h3 | h3 | h3
     ·exact absurd h2 (hlt k h3)
     ·exact h3
     ·omega
    have hav : AVEq (.tup [.i .i64 ((st.fs 1).getD i dFl).1, .i .i64 0]) (.tup [.i .i64 ((sortI (mkeys (st.fs 1))).getD ((k : Nat) : Int).toNat 0), .i .i64 0]) := by
     rw [hgk, hki2]
     exact AVEq.refl _
    exact ⟨(), [], trivial, ⟨⟨⟨rfl, rfl, hav⟩, trivial⟩, ⟨⟨rfl, rfl, rfl, ⟨rfl, AVsEq.refl _⟩⟩, ⟨rfl, rfl, trivial, AOEq.refl _⟩, ⟨rfl, rfl, trivial, AOEq.refl _⟩, ⟨rfl, rfl, trivial, AOEq.refl _⟩, ⟨rfl, rfl, trivial, AOEq.refl _⟩, ⟨rfl, rfl, trivial, AOEq.refl _⟩, ⟨rfl, rfl, trivial, AOEq.refl _⟩, ⟨rfl, rfl, trivial, AOEq.refl _⟩, ⟨rfl, rfl, trivial, AOEq.refl _⟩, ⟨rfl, rfl, trivial, AOEq.refl _⟩, ⟨rfl, rfl, trivial, AOEq.refl _⟩, ⟨rfl, rfl, trivial, AOEq.refl _⟩, ⟨rfl, rfl, trivial, AOEq.refl _⟩, ⟨rfl, rfl, trivial, AOEq.refl _⟩, trivial⟩, rfl⟩, rfl, fun h => by cases h⟩
   ·have h2 : decide (divL ((st.fs 1).getD k dFl).2 = divL x) = false := h2
    rw [bytes_dif, decide_eq_false_iff_not] at h2
    have hki2 : k ≠ i := fun e => h2 (by rw [e]; exact hix)
    refine ⟨k + 1, [], ⟨by omega, fun j hj => ?_, by omega⟩, by dsimp only; omega, rfl, rfl, rfl, rfl, rfl, ⟨rfl, wr (by omega) (by omega)⟩, trivial⟩
    by_cases hjk : j = k
    ·rw [hjk]; exact h2
    ·exact hno j (by omega)
  ·exfalso
   have hc := dnlt hc
   have hc : ((st.fs 1).length : Int) ≤ (k : Nat) := hc
   omega
 ·refine Or.inr (Or.inr ?_)
  refine ⟨true, [0, 1, 2, 3, 4, 5, 6, 7, 8, 9, 10, 11, 12, 13], rfl, Unit, _, _, _, _, of_fn st B 2 (by decide), fun _ _ => ?_⟩
  repeat refine Or.inl ?_
  refine ⟨fun hc => (by cases hc), fun _ => ?_⟩
  refine ⟨fun hc => (by have hc : decide ((x.size : Int) > 65536) = true := hc; rw [decide_eq_true_eq] at hc; omega), fun _ => ?_⟩
  refine Or.inl ⟨_, _, (divided_fn x (by omega)).frz, ?_⟩
  refine Or.inl (Or.inr (Or.inr ?_))
  refine ⟨true, [0, 1, 2, 3, 4, 5, 6, 7, 8, 9, 10, 11, 12, 13], rfl, Unit, _, _, _, _, names_fn st B 2 (by decide) (hT.wf (by omega)) (by have := hT.len; omega), fun _ _ => ?_⟩
  repeat refine Or.inl ?_
  refine ⟨[], Nat, fun k => k ≤ (st.fs 2).length ∧ (∀ j, j < k → ((st.fs 2).getD j dFl).2 ≠ x) ∧ k ≤ i, fun k => [⟨34, [], .i .i64 k⟩], fun k => [], fun k => (st.fs 2).length - k,
   ⟨0, [], ⟨Nat.zero_le _, fun j hj => absurd hj (Nat.not_lt_zero j), Nat.zero_le _⟩, rfl, rfl, rfl, rfl, rfl, ⟨rfl, rfl⟩, trivial⟩, ?_⟩
  rintro k ⟨hk, hno, hki⟩
  have hk : k ≤ (st.fs 2).length := hk
  refine .inl ⟨fun hc => ?_, fun hc => ?_⟩
  ·have hc := dlt hc
   have hc : (k : Int) < (st.fs 2).length := hc
   have ek : ((k : Nat) : Int).toNat = k := Int.toNat_natCast _
   repeat refine Or.inl ?_
   refine ⟨⟨by omega, by omega⟩, ?_⟩
   have hl := lookF (st.fs 2) ((mkeys (st.fs 2)).getD ((k : Nat) : Int).toNat 0)
   rw [ek, mkeys_getD, mget_at hnd (by omega)] at hl
   have hgk : AV.i .i64 ((sortI (mkeys (st.fs 2))).getD ((k : Nat) : Int).toNat 0) = AV.i .i64 ((st.fs 2).getD k dFl).1 := by rw [hso, ek, mkeys_getD]
   rw [← hgk] at hl
   have hsk : ((st.fs 2).getD k dFl).2.size ≤ 200 := hT.sz _ (getD_memD dFl (by omega))
   have hdk := div_len ((st.fs 2).getD k dFl).2
   refine ⟨by omega, ?_⟩
   refine ⟨_, _, ⟨hkF, rfl, hl⟩, ?_⟩
   refine Or.inl ⟨_, _, equal_fn (divL ((st.fs 2).getD k dFl).2) (divL x) (by omega) (by omega), ?_⟩
   refine ⟨fun h2 => ?_, fun h2 => ?_⟩
   ·have h2 : decide (divL ((st.fs 2).getD k dFl).2 = divL x) = true := h2
    rw [bytes_dif, decide_eq_true_eq] at h2
    have hki2 : k = i := by
     rcases Nat.lt_trichotomy k i with h3 | h3 | h3
     ·exact absurd h2 (hlt k h3)
     ·exact h3
     ·omega
    have hav : AVEq (.tup [.i .i64 ((st.fs 2).getD i dFl).1, .i .i64 0]) (.tup [.i .i64 ((sortI (mkeys (st.fs 2))).getD ((k : Nat) : Int).toNat 0), .i .i64 0]) := by
     rw [hgk, hki2]
     exact AVEq.refl _
    exact ⟨(), [], trivial, ⟨⟨⟨rfl, rfl, hav⟩, trivial⟩, ⟨⟨rfl, rfl, rfl, ⟨rfl, AVsEq.refl _⟩⟩, ⟨rfl, rfl, trivial, AOEq.refl _⟩, ⟨rfl, rfl, trivial, AOEq.refl _⟩, ⟨rfl, rfl, trivial, AOEq.refl _⟩, ⟨rfl, rfl, trivial, AOEq.refl _⟩, ⟨rfl, rfl, trivial, AOEq.refl _⟩, ⟨rfl, rfl, trivial, AOEq.refl _⟩, ⟨rfl, rfl, trivial, AOEq.refl _⟩, ⟨rfl, rfl, trivial, AOEq.refl _⟩, ⟨rfl, rfl, trivial, AOEq.refl _⟩, ⟨rfl, rfl, trivial, AOEq.refl _⟩, ⟨rfl, rfl, trivial, AOEq.refl _⟩, ⟨rfl, rfl, trivial, AOEq.refl _⟩, ⟨rfl, rfl, trivial, AOEq.refl _⟩, trivial⟩, rfl⟩, rfl, fun h => by cases h⟩
   ·have h2 : decide (divL ((st.fs 2).getD k dFl).2 = divL x) = false := h2
    rw [bytes_dif, decide_eq_false_iff_not] at h2
    have hki2 : k ≠ i := fun e => h2 (by rw [e]; exact hix)
    refine ⟨k + 1, [], ⟨by omega, fun j hj => ?_, by omega⟩, by dsimp only; omega, rfl, rfl, rfl, rfl, rfl, ⟨rfl, wr (by omega) (by omega)⟩, trivial⟩
    by_cases hjk : j = k
    ·rw [hjk]; exact h2
    ·exact hno j (by omega)
  ·exfalso
   have hc := dnlt hc
   have hc : ((st.fs 2).length : Int) ≤ (k : Nat) := hc
   omega
 ·refine Or.inr (Or.inr ?_)
  refine ⟨true, [0, 1, 2, 3, 4, 5, 6, 7, 8, 9, 10, 11, 12, 13], rfl, Unit, _, _, _, _, of_fn st B 3 (by decide), fun _ _ => ?_⟩
  repeat refine Or.inl ?_
  refine ⟨fun hc => (by cases hc), fun _ => ?_⟩
  refine ⟨fun hc => (by have hc : decide ((x.size : Int) > 65536) = true := hc; rw [decide_eq_true_eq] at hc; omega), fun _ => ?_⟩
  refine Or.inl ⟨_, _, (divided_fn x (by omega)).frz, ?_⟩
  refine Or.inl (Or.inr (Or.inr ?_))
  refine ⟨true, [0, 1, 2, 3, 4, 5, 6, 7, 8, 9, 10, 11, 12, 13], rfl, Unit, _, _, _, _, names_fn st B 3 (by decide) (hT.wf (by omega)) (by have := hT.len; omega), fun _ _ => ?_⟩
  repeat refine Or.inl ?_
  refine ⟨[], Nat, fun k => k ≤ (st.fs 3).length ∧ (∀ j, j < k → ((st.fs 3).getD j dFl).2 ≠ x) ∧ k ≤ i, fun k => [⟨34, [], .i .i64 k⟩], fun k => [], fun k => (st.fs 3).length - k,
   ⟨0, [], ⟨Nat.zero_le _, fun j hj => absurd hj (Nat.not_lt_zero j), Nat.zero_le _⟩, rfl, rfl, rfl, rfl, rfl, ⟨rfl, rfl⟩, trivial⟩, ?_⟩
  rintro k ⟨hk, hno, hki⟩
  have hk : k ≤ (st.fs 3).length := hk
  refine .inl ⟨fun hc => ?_, fun hc => ?_⟩
  ·have hc := dlt hc
   have hc : (k : Int) < (st.fs 3).length := hc
   have ek : ((k : Nat) : Int).toNat = k := Int.toNat_natCast _
   repeat refine Or.inl ?_
   refine ⟨⟨by omega, by omega⟩, ?_⟩
   have hl := lookF (st.fs 3) ((mkeys (st.fs 3)).getD ((k : Nat) : Int).toNat 0)
   rw [ek, mkeys_getD, mget_at hnd (by omega)] at hl
   have hgk : AV.i .i64 ((sortI (mkeys (st.fs 3))).getD ((k : Nat) : Int).toNat 0) = AV.i .i64 ((st.fs 3).getD k dFl).1 := by rw [hso, ek, mkeys_getD]
   rw [← hgk] at hl
   have hsk : ((st.fs 3).getD k dFl).2.size ≤ 200 := hT.sz _ (getD_memD dFl (by omega))
   have hdk := div_len ((st.fs 3).getD k dFl).2
   refine ⟨by omega, ?_⟩
   refine ⟨_, _, ⟨hkF, rfl, hl⟩, ?_⟩
   refine Or.inl ⟨_, _, equal_fn (divL ((st.fs 3).getD k dFl).2) (divL x) (by omega) (by omega), ?_⟩
   refine ⟨fun h2 => ?_, fun h2 => ?_⟩
   ·have h2 : decide (divL ((st.fs 3).getD k dFl).2 = divL x) = true := h2
    rw [bytes_dif, decide_eq_true_eq] at h2
    have hki2 : k = i := by
     rcases Nat.lt_trichotomy k i with h3 | h3 | h3
     ·exact absurd h2 (hlt k h3)
     ·exact h3
     ·omega
    have hav : AVEq (.tup [.i .i64 ((st.fs 3).getD i dFl).1, .i .i64 0]) (.tup [.i .i64 ((sortI (mkeys (st.fs 3))).getD ((k : Nat) : Int).toNat 0), .i .i64 0]) := by
     rw [hgk, hki2]
     exact AVEq.refl _
    exact ⟨(), [], trivial, ⟨⟨⟨rfl, rfl, hav⟩, trivial⟩, ⟨⟨rfl, rfl, rfl, ⟨rfl, AVsEq.refl _⟩⟩, ⟨rfl, rfl, trivial, AOEq.refl _⟩, ⟨rfl, rfl, trivial, AOEq.refl _⟩, ⟨rfl, rfl, trivial, AOEq.refl _⟩, ⟨rfl, rfl, trivial, AOEq.refl _⟩, ⟨rfl, rfl, trivial, AOEq.refl _⟩, ⟨rfl, rfl, trivial, AOEq.refl _⟩, ⟨rfl, rfl, trivial, AOEq.refl _⟩, ⟨rfl, rfl, trivial, AOEq.refl _⟩, ⟨rfl, rfl, trivial, AOEq.refl _⟩, ⟨rfl, rfl, trivial, AOEq.refl _⟩, ⟨rfl, rfl, trivial, AOEq.refl _⟩, ⟨rfl, rfl, trivial, AOEq.refl _⟩, ⟨rfl, rfl, trivial, AOEq.refl _⟩, trivial⟩, rfl⟩, rfl, fun h => by cases h⟩
   ·have h2 : decide (divL ((st.fs 3).getD k dFl).2 = divL x) = false := h2
    rw [bytes_dif, decide_eq_false_iff_not] at h2
    have hki2 : k ≠ i := fun e => h2 (by rw [e]; exact hix)
    refine ⟨k + 1, [], ⟨by omega, fun j hj => ?_, by omega⟩, by dsimp only; omega, rfl, rfl, rfl, rfl, rfl, ⟨rfl, wr (by omega) (by omega)⟩, trivial⟩
    by_cases hjk : j = k
    ·rw [hjk]; exact h2
    ·exact hno j (by omega)
  ·exfalso
   have hc := dnlt hc
   have hc : ((st.fs 3).length : Int) ≤ (k : Nat) := hc
   omega
 ·refine Or.inr (Or.inr ?_)
  refine ⟨true, [0, 1, 2, 3, 4, 5, 6, 7, 8, 9, 10, 11, 12, 13], rfl, Unit, _, _, _, _, of_fn st B 4 (by decide), fun _ _ => ?_⟩
  repeat refine Or.inl ?_
  refine ⟨fun hc => (by cases hc), fun _ => ?_⟩
  refine ⟨fun hc => (by have hc : decide ((x.size : Int) > 65536) = true := hc; rw [decide_eq_true_eq] at hc; omega), fun _ => ?_⟩
  refine Or.inl ⟨_, _, (divided_fn x (by omega)).frz, ?_⟩
  refine Or.inl (Or.inr (Or.inr ?_))
  refine ⟨true, [0, 1, 2, 3, 4, 5, 6, 7, 8, 9, 10, 11, 12, 13], rfl, Unit, _, _, _, _, names_fn st B 4 (by decide) (hT.wf (by omega)) (by have := hT.len; omega), fun _ _ => ?_⟩
  repeat refine Or.inl ?_
  refine ⟨[], Nat, fun k => k ≤ (st.fs 4).length ∧ (∀ j, j < k → ((st.fs 4).getD j dFl).2 ≠ x) ∧ k ≤ i, fun k => [⟨34, [], .i .i64 k⟩], fun k => [], fun k => (st.fs 4).length - k,
   ⟨0, [], ⟨Nat.zero_le _, fun j hj => absurd hj (Nat.not_lt_zero j), Nat.zero_le _⟩, rfl, rfl, rfl, rfl, rfl, ⟨rfl, rfl⟩, trivial⟩, ?_⟩
  rintro k ⟨hk, hno, hki⟩
  have hk : k ≤ (st.fs 4).length := hk
  refine .inl ⟨fun hc => ?_, fun hc => ?_⟩
  ·have hc := dlt hc
   have hc : (k : Int) < (st.fs 4).length := hc
   have ek : ((k : Nat) : Int).toNat = k := Int.toNat_natCast _
   repeat refine Or.inl ?_
   refine ⟨⟨by omega, by omega⟩, ?_⟩
   have hl := lookF (st.fs 4) ((mkeys (st.fs 4)).getD ((k : Nat) : Int).toNat 0)
   rw [ek, mkeys_getD, mget_at hnd (by omega)] at hl
   have hgk : AV.i .i64 ((sortI (mkeys (st.fs 4))).getD ((k : Nat) : Int).toNat 0) = AV.i .i64 ((st.fs 4).getD k dFl).1 := by rw [hso, ek, mkeys_getD]
   rw [← hgk] at hl
   have hsk : ((st.fs 4).getD k dFl).2.size ≤ 200 := hT.sz _ (getD_memD dFl (by omega))
   have hdk := div_len ((st.fs 4).getD k dFl).2
   refine ⟨by omega, ?_⟩
   refine ⟨_, _, ⟨hkF, rfl, hl⟩, ?_⟩
   refine Or.inl ⟨_, _, equal_fn (divL ((st.fs 4).getD k dFl).2) (divL x) (by omega) (by omega), ?_⟩
   refine ⟨fun h2 => ?_, fun h2 => ?_⟩
   ·have h2 : decide (divL ((st.fs 4).getD k dFl).2 = divL x) = true := h2
    rw [bytes_dif, decide_eq_true_eq] at h2
    have hki2 : k = i := by
     rcases Nat.lt_trichotomy k i with h3 | h3 | h3
     ·exact absurd h2 (hlt k h3)
     ·exact h3
     ·omega
    have hav : AVEq (.tup [.i .i64 ((st.fs 4).getD i dFl).1, .i .i64 0]) (.tup [.i .i64 ((sortI (mkeys (st.fs 4))).getD ((k : Nat) : Int).toNat 0), .i .i64 0]) := by
     rw [hgk, hki2]
     exact AVEq.refl _
    exact ⟨(), [], trivial, ⟨⟨⟨rfl, rfl, hav⟩, trivial⟩, ⟨⟨rfl, rfl, rfl, ⟨rfl, AVsEq.refl _⟩⟩, ⟨rfl, rfl, trivial, AOEq.refl _⟩, ⟨rfl, rfl, trivial, AOEq.refl _⟩, ⟨rfl, rfl, trivial, AOEq.refl _⟩, ⟨rfl, rfl, trivial, AOEq.refl _⟩, ⟨rfl, rfl, trivial, AOEq.refl _⟩, ⟨rfl, rfl, trivial, AOEq.refl _⟩, ⟨rfl, rfl, trivial, AOEq.refl _⟩, ⟨rfl, rfl, trivial, AOEq.refl _⟩, ⟨rfl, rfl, trivial, AOEq.refl _⟩, ⟨rfl, rfl, trivial, AOEq.refl _⟩, ⟨rfl, rfl, trivial, AOEq.refl _⟩, ⟨rfl, rfl, trivial, AOEq.refl _⟩, ⟨rfl, rfl, trivial, AOEq.refl _⟩, trivial⟩, rfl⟩, rfl, fun h => by cases h⟩
   ·have h2 : decide (divL ((st.fs 4).getD k dFl).2 = divL x) = false := h2
    rw [bytes_dif, decide_eq_false_iff_not] at h2
    have hki2 : k ≠ i := fun e => h2 (by rw [e]; exact hix)
    refine ⟨k + 1, [], ⟨by omega, fun j hj => ?_, by omega⟩, by dsimp only; omega, rfl, rfl, rfl, rfl, rfl, ⟨rfl, wr (by omega) (by omega)⟩, trivial⟩
    by_cases hjk : j = k
    ·rw [hjk]; exact h2
    ·exact hno j (by omega)
  ·exfalso
   have hc := dnlt hc
   have hc : ((st.fs 4).length : Int) ≤ (k : Nat) := hc
   omega
 ·refine Or.inr (Or.inr ?_)
  refine ⟨true, [0, 1, 2, 3, 4, 5, 6, 7, 8, 9, 10, 11, 12, 13], rfl, Unit, _, _, _, _, of_fn st B 5 (by decide), fun _ _ => ?_⟩
  repeat refine Or.inl ?_
  refine ⟨fun hc => (by cases hc), fun _ => ?_⟩
  refine ⟨fun hc => (by have hc : decide ((x.size : Int) > 65536) = true := hc; rw [decide_eq_true_eq] at hc; omega), fun _ => ?_⟩
  refine Or.inl ⟨_, _, (divided_fn x (by omega)).frz, ?_⟩
  refine Or.inl (Or.inr (Or.inr ?_))
  refine ⟨true, [0, 1, 2, 3, 4, 5, 6, 7, 8, 9, 10, 11, 12, 13], rfl, Unit, _, _, _, _, names_fn st B 5 (by decide) (hT.wf (by omega)) (by have := hT.len; omega), fun _ _ => ?_⟩
  repeat refine Or.inl ?_
  refine ⟨[], Nat, fun k => k ≤ (st.fs 5).length ∧ (∀ j, j < k → ((st.fs 5).getD j dFl).2 ≠ x) ∧ k ≤ i, fun k => [⟨34, [], .i .i64 k⟩], fun k => [], fun k => (st.fs 5).length - k,
   ⟨0, [], ⟨Nat.zero_le _, fun j hj => absurd hj (Nat.not_lt_zero j), Nat.zero_le _⟩, rfl, rfl, rfl, rfl, rfl, ⟨rfl, rfl⟩, trivial⟩, ?_⟩
  rintro k ⟨hk, hno, hki⟩
  have hk : k ≤ (st.fs 5).length := hk
  refine .inl ⟨fun hc => ?_, fun hc => ?_⟩
  ·have hc := dlt hc
   have hc : (k : Int) < (st.fs 5).length := hc
   have ek : ((k : Nat) : Int).toNat = k := Int.toNat_natCast _
   repeat refine Or.inl ?_
   refine ⟨⟨by omega, by omega⟩, ?_⟩
   have hl := lookF (st.fs 5) ((mkeys (st.fs 5)).getD ((k : Nat) : Int).toNat 0)
   rw [ek, mkeys_getD, mget_at hnd (by omega)] at hl
   have hgk : AV.i .i64 ((sortI (mkeys (st.fs 5))).getD ((k : Nat) : Int).toNat 0) = AV.i .i64 ((st.fs 5).getD k dFl).1 := by rw [hso, ek, mkeys_getD]
   rw [← hgk] at hl
   have hsk : ((st.fs 5).getD k dFl).2.size ≤ 200 := hT.sz _ (getD_memD dFl (by omega))
   have hdk := div_len ((st.fs 5).getD k dFl).2
   refine ⟨by omega, ?_⟩
   refine ⟨_, _, ⟨hkF, rfl, hl⟩, ?_⟩
   refine Or.inl ⟨_, _, equal_fn (divL ((st.fs 5).getD k dFl).2) (divL x) (by omega) (by omega), ?_⟩
   refine ⟨fun h2 => ?_, fun h2 => ?_⟩
   ·have h2 : decide (divL ((st.fs 5).getD k dFl).2 = divL x) = true := h2
    rw [bytes_dif, decide_eq_true_eq] at h2
    have hki2 : k = i := by
     rcases Nat.lt_trichotomy k i with h3 | h3 | h3
     ·exact absurd h2 (hlt k h3)
     ·exact h3
     ·omega
    have hav : AVEq (.tup [.i .i64 ((st.fs 5).getD i dFl).1, .i .i64 0]) (.tup [.i .i64 ((sortI (mkeys (st.fs 5))).getD ((k : Nat) : Int).toNat 0), .i .i64 0]) := by
     rw [hgk, hki2]
     exact AVEq.refl _
    exact ⟨(), [], trivial, ⟨⟨⟨rfl, rfl, hav⟩, trivial⟩, ⟨⟨rfl, rfl, rfl, ⟨rfl, AVsEq.refl _⟩⟩, ⟨rfl, rfl, trivial, AOEq.refl _⟩, ⟨rfl, rfl, trivial, AOEq.refl _⟩, ⟨rfl, rfl, trivial, AOEq.refl _⟩, ⟨rfl, rfl, trivial, AOEq.refl _⟩, ⟨rfl, rfl, trivial, AOEq.refl _⟩, ⟨rfl, rfl, trivial, AOEq.refl _⟩, ⟨rfl, rfl, trivial, AOEq.refl _⟩, ⟨rfl, rfl, trivial, AOEq.refl _⟩, ⟨rfl, rfl, trivial, AOEq.refl _⟩, ⟨rfl, rfl, trivial, AOEq.refl _⟩, ⟨rfl, rfl, trivial, AOEq.refl _⟩, ⟨rfl, rfl, trivial, AOEq.refl _⟩, ⟨rfl, rfl, trivial, AOEq.refl _⟩, trivial⟩, rfl⟩, rfl, fun h => by cases h⟩
   ·have h2 : decide (divL ((st.fs 5).getD k dFl).2 = divL x) = false := h2
    rw [bytes_dif, decide_eq_false_iff_not] at h2
    have hki2 : k ≠ i := fun e => h2 (by rw [e]; exact hix)
    refine ⟨k + 1, [], ⟨by omega, fun j hj => ?_, by omega⟩, by dsimp only; omega, rfl, rfl, rfl, rfl, rfl, ⟨rfl, wr (by omega) (by omega)⟩, trivial⟩
    by_cases hjk : j = k
    ·rw [hjk]; exact h2
    ·exact hno j (by omega)
  ·exfalso
   have hc := dnlt hc
   have hc : ((st.fs 5).length : Int) ≤ (k : Nat) := hc
   omega
 ·refine Or.inr (Or.inr ?_)
  refine ⟨true, [0, 1, 2, 3, 4, 5, 6, 7, 8, 9, 10, 11, 12, 13], rfl, Unit, _, _, _, _, of_fn st B 6 (by decide), fun _ _ => ?_⟩
  repeat refine Or.inl ?_
  refine ⟨fun hc => (by cases hc), fun _ => ?_⟩
  refine ⟨fun hc => (by have hc : decide ((x.size : Int) > 65536) = true := hc; rw [decide_eq_true_eq] at hc; omega), fun _ => ?_⟩
  refine Or.inl ⟨_, _, (divided_fn x (by omega)).frz, ?_⟩
  refine Or.inl (Or.inr (Or.inr ?_))
  refine ⟨true, [0, 1, 2, 3, 4, 5, 6, 7, 8, 9, 10, 11, 12, 13], rfl, Unit, _, _, _, _, names_fn st B 6 (by decide) (hT.wf (by omega)) (by have := hT.len; omega), fun _ _ => ?_⟩
  repeat refine Or.inl ?_
  refine ⟨[], Nat, fun k => k ≤ (st.fs 6).length ∧ (∀ j, j < k → ((st.fs 6).getD j dFl).2 ≠ x) ∧ k ≤ i, fun k => [⟨34, [], .i .i64 k⟩], fun k => [], fun k => (st.fs 6).length - k,
   ⟨0, [], ⟨Nat.zero_le _, fun j hj => absurd hj (Nat.not_lt_zero j), Nat.zero_le _⟩, rfl, rfl, rfl, rfl, rfl, ⟨rfl, rfl⟩, trivial⟩, ?_⟩
  rintro k ⟨hk, hno, hki⟩
  have hk : k ≤ (st.fs 6).length := hk
  refine .inl ⟨fun hc => ?_, fun hc => ?_⟩
  ·have hc := dlt hc
   have hc : (k : Int) < (st.fs 6).length := hc
   have ek : ((k : Nat) : Int).toNat = k := Int.toNat_natCast _
   repeat refine Or.inl ?_
   refine ⟨⟨by omega, by omega⟩, ?_⟩
   have hl := lookF (st.fs 6) ((mkeys (st.fs 6)).getD ((k : Nat) : Int).toNat 0)
   rw [ek, mkeys_getD, mget_at hnd (by omega)] at hl
   have hgk : AV.i .i64 ((sortI (mkeys (st.fs 6))).getD ((k : Nat) : Int).toNat 0) = AV.i .i64 ((st.fs 6).getD k dFl).1 := by rw [hso, ek, mkeys_getD]
   rw [← hgk] at hl
   have hsk : ((st.fs 6).getD k dFl).2.size ≤ 200 := hT.sz _ (getD_memD dFl (by omega))
   have hdk := div_len ((st.fs 6).getD k dFl).2
   refine ⟨by omega, ?_⟩
   refine ⟨_, _, ⟨hkF, rfl, hl⟩, ?_⟩
   refine Or.inl ⟨_, _, equal_fn (divL ((st.fs 6).getD k dFl).2) (divL x) (by omega) (by omega), ?_⟩
   refine ⟨fun h2 => ?_, fun h2 => ?_⟩
   ·have h2 : decide (divL ((st.fs 6).getD k dFl).2 = divL x) = true := h2
    rw [bytes_dif, decide_eq_true_eq] at h2
    have hki2 : k = i := by
     rcases Nat.lt_trichotomy k i with h3 | h3 | h3
     ·exact absurd h2 (hlt k h3)
     ·exact h3
     ·omega
    have hav : AVEq (.tup [.i .i64 ((st.fs 6).getD i dFl).1, .i .i64 0]) (.tup [.i .i64 ((sortI (mkeys (st.fs 6))).getD ((k : Nat) : Int).toNat 0), .i .i64 0]) := by
     rw [hgk, hki2]
     exact AVEq.refl _
    exact ⟨(), [], trivial, ⟨⟨⟨rfl, rfl, hav⟩, trivial⟩, ⟨⟨rfl, rfl, rfl, ⟨rfl, AVsEq.refl _⟩⟩, ⟨rfl, rfl, trivial, AOEq.refl _⟩, ⟨rfl, rfl, trivial, AOEq.refl _⟩, ⟨rfl, rfl, trivial, AOEq.refl _⟩, ⟨rfl, rfl, trivial, AOEq.refl _⟩, ⟨rfl, rfl, trivial, AOEq.refl _⟩, ⟨rfl, rfl, trivial, AOEq.refl _⟩, ⟨rfl, rfl, trivial, AOEq.refl _⟩, ⟨rfl, rfl, trivial, AOEq.refl _⟩, ⟨rfl, rfl, trivial, AOEq.refl _⟩, ⟨rfl, rfl, trivial, AOEq.refl _⟩, ⟨rfl, rfl, trivial, AOEq.refl _⟩, ⟨rfl, rfl, trivial, AOEq.refl _⟩, ⟨rfl, rfl, trivial, AOEq.refl _⟩, trivial⟩, rfl⟩, rfl, fun h => by cases h⟩
   ·have h2 : decide (divL ((st.fs 6).getD k dFl).2 = divL x) = false := h2
    rw [bytes_dif, decide_eq_false_iff_not] at h2
    have hki2 : k ≠ i := fun e => h2 (by rw [e]; exact hix)
    refine ⟨k + 1, [], ⟨by omega, fun j hj => ?_, by omega⟩, by dsimp only; omega, rfl, rfl, rfl, rfl, rfl, ⟨rfl, wr (by omega) (by omega)⟩, trivial⟩
    by_cases hjk : j = k
    ·rw [hjk]; exact h2
    ·exact hno j (by omega)
  ·exfalso
   have hc := dnlt hc
   have hc : ((st.fs 6).length : Int) ≤ (k : Nat) := hc
   omega
 ·refine Or.inr (Or.inr ?_)
  refine ⟨true, [0, 1, 2, 3, 4, 5, 6, 7, 8, 9, 10, 11, 12, 13], rfl, Unit, _, _, _, _, of_fn st B 7 (by decide), fun _ _ => ?_⟩
  repeat refine Or.inl ?_
  refine ⟨fun hc => (by cases hc), fun _ => ?_⟩
  refine ⟨fun hc => (by have hc : decide ((x.size : Int) > 65536) = true := hc; rw [decide_eq_true_eq] at hc; omega), fun _ => ?_⟩
  refine Or.inl ⟨_, _, (divided_fn x (by omega)).frz, ?_⟩
  refine Or.inl (Or.inr (Or.inr ?_))
  refine ⟨true, [0, 1, 2, 3, 4, 5, 6, 7, 8, 9, 10, 11, 12, 13], rfl, Unit, _, _, _, _, names_fn st B 7 (by decide) (hT.wf (by omega)) (by have := hT.len; omega), fun _ _ => ?_⟩
  repeat refine Or.inl ?_
  refine ⟨[], Nat, fun k => k ≤ (st.fs 7).length ∧ (∀ j, j < k → ((st.fs 7).getD j dFl).2 ≠ x) ∧ k ≤ i, fun k => [⟨34, [], .i .i64 k⟩], fun k => [], fun k => (st.fs 7).length - k,
   ⟨0, [], ⟨Nat.zero_le _, fun j hj => absurd hj (Nat.not_lt_zero j), Nat.zero_le _⟩, rfl, rfl, rfl, rfl, rfl, ⟨rfl, rfl⟩, trivial⟩, ?_⟩
  rintro k ⟨hk, hno, hki⟩
  have hk : k ≤ (st.fs 7).length := hk
  refine .inl ⟨fun hc => ?_, fun hc => ?_⟩
  ·have hc := dlt hc
   have hc : (k : Int) < (st.fs 7).length := hc
   have ek : ((k : Nat) : Int).toNat = k := Int.toNat_natCast _
   repeat refine Or.inl ?_
   refine ⟨⟨by omega, by omega⟩, ?_⟩
   have hl := lookF (st.fs 7) ((mkeys (st.fs 7)).getD ((k : Nat) : Int).toNat 0)
   rw [ek, mkeys_getD, mget_at hnd (by omega)] at hl
   have hgk : AV.i .i64 ((sortI (mkeys (st.fs 7))).getD ((k : Nat) : Int).toNat 0) = AV.i .i64 ((st.fs 7).getD k dFl).1 := by rw [hso, ek, mkeys_getD]
   rw [← hgk] at hl
   have hsk : ((st.fs 7).getD k dFl).2.size ≤ 200 := hT.sz _ (getD_memD dFl (by omega))
   have hdk := div_len ((st.fs 7).getD k dFl).2
   refine ⟨by omega, ?_⟩
   refine ⟨_, _, ⟨hkF, rfl, hl⟩, ?_⟩
   refine Or.inl ⟨_, _, equal_fn (divL ((st.fs 7).getD k dFl).2) (divL x) (by omega) (by omega), ?_⟩
   refine ⟨fun h2 => ?_, fun h2 => ?_⟩
   ·have h2 : decide (divL ((st.fs 7).getD k dFl).2 = divL x) = true := h2
    rw [bytes_dif, decide_eq_true_eq] at h2
    have hki2 : k = i := by
     rcases Nat.lt_trichotomy k i with h3 | h3 | h3
     ·exact absurd h2 (hlt k h3)
     ·exact h3
     ·omega
    have hav : AVEq (.tup [.i .i64 ((st.fs 7).getD i dFl).1, .i .i64 0]) (.tup [.i .i64 ((sortI (mkeys (st.fs 7))).getD ((k : Nat) : Int).toNat 0), .i .i64 0]) := by
     rw [hgk, hki2]
     exact AVEq.refl _
    exact ⟨(), [], trivial, ⟨⟨⟨rfl, rfl, hav⟩, trivial⟩, ⟨⟨rfl, rfl, rfl, ⟨rfl, AVsEq.refl _⟩⟩, ⟨rfl, rfl, trivial, AOEq.refl _⟩, ⟨rfl, rfl, trivial, AOEq.refl _⟩, ⟨rfl, rfl, trivial, AOEq.refl _⟩, ⟨rfl, rfl, trivial, AOEq.refl _⟩, ⟨rfl, rfl, trivial, AOEq.refl _⟩, ⟨rfl, rfl, trivial, AOEq.refl _⟩, ⟨rfl, rfl, trivial, AOEq.refl _⟩, ⟨rfl, rfl, trivial, AOEq.refl _⟩, ⟨rfl, rfl, trivial, AOEq.refl _⟩, ⟨rfl, rfl, trivial, AOEq.refl _⟩, ⟨rfl, rfl, trivial, AOEq.refl _⟩, ⟨rfl, rfl, trivial, AOEq.refl _⟩, ⟨rfl, rfl, trivial, AOEq.refl _⟩, trivial⟩, rfl⟩, rfl, fun h => by cases h⟩
   ·have h2 : decide (divL ((st.fs 7).getD k dFl).2 = divL x) = false := h2
    rw [bytes_dif, decide_eq_false_iff_not] at h2
    have hki2 : k ≠ i := fun e => h2 (by rw [e]; exact hix)
    refine ⟨k + 1, [], ⟨by omega, fun j hj => ?_, by omega⟩, by dsimp only; omega, rfl, rfl, rfl, rfl, rfl, ⟨rfl, wr (by omega) (by omega)⟩, trivial⟩
    by_cases hjk : j = k
    ·rw [hjk]; exact h2
    ·exact hno j (by omega)
  ·exfalso
   have hc := dnlt hc
   have hc : ((st.fs 7).length : Int) ≤ (k : Nat) := hc
   omega
 ·refine Or.inr (Or.inr ?_)
  refine ⟨true, [0, 1, 2, 3, 4, 5, 6, 7, 8, 9, 10, 11, 12, 13], rfl, Unit, _, _, _, _, of_fn st B 8 (by decide), fun _ _ => ?_⟩
  repeat refine Or.inl ?_
  refine ⟨fun hc => (by cases hc), fun _ => ?_⟩
  refine ⟨fun hc => (by have hc : decide ((x.size : Int) > 65536) = true := hc; rw [decide_eq_true_eq] at hc; omega), fun _ => ?_⟩
  refine Or.inl ⟨_, _, (divided_fn x (by omega)).frz, ?_⟩
  refine Or.inl (Or.inr (Or.inr ?_))
  refine ⟨true, [0, 1, 2, 3, 4, 5, 6, 7, 8, 9, 10, 11, 12, 13], rfl, Unit, _, _, _, _, names_fn st B 8 (by decide) (hT.wf (by omega)) (by have := hT.len; omega), fun _ _ => ?_⟩
  repeat refine Or.inl ?_
  refine ⟨[], Nat, fun k => k ≤ (st.fs 8).length ∧ (∀ j, j < k → ((st.fs 8).getD j dFl).2 ≠ x) ∧ k ≤ i, fun k => [⟨34, [], .i .i64 k⟩], fun k => [], fun k => (st.fs 8).length - k,
   ⟨0, [], ⟨Nat.zero_le _, fun j hj => absurd hj (Nat.not_lt_zero j), Nat.zero_le _⟩, rfl, rfl, rfl, rfl, rfl, ⟨rfl, rfl⟩, trivial⟩, ?_⟩
  rintro k ⟨hk, hno, hki⟩
  have hk : k ≤ (st.fs 8).length := hk
  refine .inl ⟨fun hc => ?_, fun hc => ?_⟩
  ·have hc := dlt hc
   have hc : (k : Int) < (st.fs 8).length := hc
   have ek : ((k : Nat) : Int).toNat = k := Int.toNat_natCast _
   repeat refine Or.inl ?_
   refine ⟨⟨by omega, by omega⟩, ?_⟩
   have hl := lookF (st.fs 8) ((mkeys (st.fs 8)).getD ((k : Nat) : Int).toNat 0)
   rw [ek, mkeys_getD, mget_at hnd (by omega)] at hl
   have hgk : AV.i .i64 ((sortI (mkeys (st.fs 8))).getD ((k : Nat) : Int).toNat 0) = AV.i .i64 ((st.fs 8).getD k dFl).1 := by rw [hso, ek, mkeys_getD]
   rw [← hgk] at hl
   have hsk : ((st.fs 8).getD k dFl).2.size ≤ 200 := hT.sz _ (getD_memD dFl (by omega))
   have hdk := div_len ((st.fs 8).getD k dFl).2
   refine ⟨by omega, ?_⟩
   refine ⟨_, _, ⟨hkF, rfl, hl⟩, ?_⟩
   refine Or.inl ⟨_, _, equal_fn (divL ((st.fs 8).getD k dFl).2) (divL x) (by omega) (by omega), ?_⟩
   refine ⟨fun h2 => ?_, fun h2 => ?_⟩
   ·have h2 : decide (divL ((st.fs 8).getD k dFl).2 = divL x) = true := h2
    rw [bytes_dif, decide_eq_true_eq] at h2
    have hki2 : k = i := by
     rcases Nat.lt_trichotomy k i with h3 | h3 | h3
     ·exact absurd h2 (hlt k h3)
     ·exact h3
     ·omega
    have hav : AVEq (.tup [.i .i64 ((st.fs 8).getD i dFl).1, .i .i64 0]) (.tup [.i .i64 ((sortI (mkeys (st.fs 8))).getD ((k : Nat) : Int).toNat 0), .i .i64 0]) := by
     rw [hgk, hki2]
     exact AVEq.refl _
    exact ⟨(), [], trivial, ⟨⟨⟨rfl, rfl, hav⟩, trivial⟩, ⟨⟨rfl, rfl, rfl, ⟨rfl, AVsEq.refl _⟩⟩, ⟨rfl, rfl, trivial, AOEq.refl _⟩, ⟨rfl, rfl, trivial, AOEq.refl _⟩, ⟨rfl, rfl, trivial, AOEq.refl _⟩, ⟨rfl, rfl, trivial, AOEq.refl _⟩, ⟨rfl, rfl, trivial, AOEq.refl _⟩, ⟨rfl, rfl, trivial, AOEq.refl _⟩, ⟨rfl, rfl, trivial, AOEq.refl _⟩, ⟨rfl, rfl, trivial, AOEq.refl _⟩, ⟨rfl, rfl, trivial, AOEq.refl _⟩, ⟨rfl, rfl, trivial, AOEq.refl _⟩, ⟨rfl, rfl, trivial, AOEq.refl _⟩, ⟨rfl, rfl, trivial, AOEq.refl _⟩, ⟨rfl, rfl, trivial, AOEq.refl _⟩, trivial⟩, rfl⟩, rfl, fun h => by cases h⟩
   ·have h2 : decide (divL ((st.fs 8).getD k dFl).2 = divL x) = false := h2
    rw [bytes_dif, decide_eq_false_iff_not] at h2
    have hki2 : k ≠ i := fun e => h2 (by rw [e]; exact hix)
    refine ⟨k + 1, [], ⟨by omega, fun j hj => ?_, by omega⟩, by dsimp only; omega, rfl, rfl, rfl, rfl, rfl, ⟨rfl, wr (by omega) (by omega)⟩, trivial⟩
    by_cases hjk : j = k
    ·rw [hjk]; exact h2
    ·exact hno j (by omega)
  ·exfalso
   have hc := dnlt hc
   have hc : ((st.fs 8).length : Int) ≤ (k : Nat) := hc
   omega
 ·refine Or.inr (Or.inr ?_)
  refine ⟨true, [0, 1, 2, 3, 4, 5, 6, 7, 8, 9, 10, 11, 12, 13], rfl, Unit, _, _, _, _, of_fn st B 9 (by decide), fun _ _ => ?_⟩
  repeat refine Or.inl ?_
  refine ⟨fun hc => (by cases hc), fun _ => ?_⟩
  refine ⟨fun hc => (by have hc : decide ((x.size : Int) > 65536) = true := hc; rw [decide_eq_true_eq] at hc; omega), fun _ => ?_⟩
  refine Or.inl ⟨_, _, (divided_fn x (by omega)).frz, ?_⟩
  refine Or.inl (Or.inr (Or.inr ?_))
  refine ⟨true, [0, 1, 2, 3, 4, 5, 6, 7, 8, 9, 10, 11, 12, 13], rfl, Unit, _, _, _, _, names_fn st B 9 (by decide) (hT.wf (by omega)) (by have := hT.len; omega), fun _ _ => ?_⟩
  repeat refine Or.inl ?_
  refine ⟨[], Nat, fun k => k ≤ (st.fs 9).length ∧ (∀ j, j < k → ((st.fs 9).getD j dFl).2 ≠ x) ∧ k ≤ i, fun k => [⟨34, [], .i .i64 k⟩], fun k => [], fun k => (st.fs 9).length - k,
   ⟨0, [], ⟨Nat.zero_le _, fun j hj => absurd hj (Nat.not_lt_zero j), Nat.zero_le _⟩, rfl, rfl, rfl, rfl, rfl, ⟨rfl, rfl⟩, trivial⟩, ?_⟩
  rintro k ⟨hk, hno, hki⟩
  have hk : k ≤ (st.fs 9).length := hk
  refine .inl ⟨fun hc => ?_, fun hc => ?_⟩
  ·have hc := dlt hc
   have hc : (k : Int) < (st.fs 9).length := hc
   have ek : ((k : Nat) : Int).toNat = k := Int.toNat_natCast _
   repeat refine Or.inl ?_
   refine ⟨⟨by omega, by omega⟩, ?_⟩
   have hl := lookF (st.fs 9) ((mkeys (st.fs 9)).getD ((k : Nat) : Int).toNat 0)
   rw [ek, mkeys_getD, mget_at hnd (by omega)] at hl
   have hgk : AV.i .i64 ((sortI (mkeys (st.fs 9))).getD ((k : Nat) : Int).toNat 0) = AV.i .i64 ((st.fs 9).getD k dFl).1 := by rw [hso, ek, mkeys_getD]
   rw [← hgk] at hl
   have hsk : ((st.fs 9).getD k dFl).2.size ≤ 200 := hT.sz _ (getD_memD dFl (by omega))
   have hdk := div_len ((st.fs 9).getD k dFl).2
   refine ⟨by omega, ?_⟩
   refine ⟨_, _, ⟨hkF, rfl, hl⟩, ?_⟩
   refine Or.inl ⟨_, _, equal_fn (divL ((st.fs 9).getD k dFl).2) (divL x) (by omega) (by omega), ?_⟩
   refine ⟨fun h2 => ?_, fun h2 => ?_⟩
   ·have h2 : decide (divL ((st.fs 9).getD k dFl).2 = divL x) = true := h2
    rw [bytes_dif, decide_eq_true_eq] at h2
    have hki2 : k = i := by
     rcases Nat.lt_trichotomy k i with h3 | h3 | h3
     ·exact absurd h2 (hlt k h3)
     ·exact h3
     ·omega
    have hav : AVEq (.tup [.i .i64 ((st.fs 9).getD i dFl).1, .i .i64 0]) (.tup [.i .i64 ((sortI (mkeys (st.fs 9))).getD ((k : Nat) : Int).toNat 0), .i .i64 0]) := by
     rw [hgk, hki2]
     exact AVEq.refl _
    exact ⟨(), [], trivial, ⟨⟨⟨rfl, rfl, hav⟩, trivial⟩, ⟨⟨rfl, rfl, rfl, ⟨rfl, AVsEq.refl _⟩⟩, ⟨rfl, rfl, trivial, AOEq.refl _⟩, ⟨rfl, rfl, trivial, AOEq.refl _⟩, ⟨rfl, rfl, trivial, AOEq.refl _⟩, ⟨rfl, rfl, trivial, AOEq.refl _⟩, ⟨rfl, rfl, trivial, AOEq.refl _⟩, ⟨rfl, rfl, trivial, AOEq.refl _⟩, ⟨rfl, rfl, trivial, AOEq.refl _⟩, ⟨rfl, rfl, trivial, AOEq.refl _⟩, ⟨rfl, rfl, trivial, AOEq.refl _⟩, ⟨rfl, rfl, trivial, AOEq.refl _⟩, ⟨rfl, rfl, trivial, AOEq.refl _⟩, ⟨rfl, rfl, trivial, AOEq.refl _⟩, ⟨rfl, rfl, trivial, AOEq.refl _⟩, trivial⟩, rfl⟩, rfl, fun h => by cases h⟩
   ·have h2 : decide (divL ((st.fs 9).getD k dFl).2 = divL x) = false := h2
    rw [bytes_dif, decide_eq_false_iff_not] at h2
    have hki2 : k ≠ i := fun e => h2 (by rw [e]; exact hix)
    refine ⟨k + 1, [], ⟨by omega, fun j hj => ?_, by omega⟩, by dsimp only; omega, rfl, rfl, rfl, rfl, rfl, ⟨rfl, wr (by omega) (by omega)⟩, trivial⟩
    by_cases hjk : j = k
    ·rw [hjk]; exact h2
    ·exact hno j (by omega)
  ·exfalso
   have hc := dnlt hc
   have hc : ((st.fs 9).length : Int) ≤ (k : Nat) := hc
   omega
 ·refine Or.inr (Or.inr ?_)
  refine ⟨true, [0, 1, 2, 3, 4, 5, 6, 7, 8, 9, 10, 11, 12, 13], rfl, Unit, _, _, _, _, of_fn st B 10 (by decide), fun _ _ => ?_⟩
  repeat refine Or.inl ?_
  refine ⟨fun hc => (by cases hc), fun _ => ?_⟩
  refine ⟨fun hc => (by have hc : decide ((x.size : Int) > 65536) = true := hc; rw [decide_eq_true_eq] at hc; omega), fun _ => ?_⟩
  refine Or.inl ⟨_, _, (divided_fn x (by omega)).frz, ?_⟩
  refine Or.inl (Or.inr (Or.inr ?_))
  refine ⟨true, [0, 1, 2, 3, 4, 5, 6, 7, 8, 9, 10, 11, 12, 13], rfl, Unit, _, _, _, _, names_fn st B 10 (by decide) (hT.wf (by omega)) (by have := hT.len; omega), fun _ _ => ?_⟩
  repeat refine Or.inl ?_
  refine ⟨[], Nat, fun k => k ≤ (st.fs 10).length ∧ (∀ j, j < k → ((st.fs 10).getD j dFl).2 ≠ x) ∧ k ≤ i, fun k => [⟨34, [], .i .i64 k⟩], fun k => [], fun k => (st.fs 10).length - k,
   ⟨0, [], ⟨Nat.zero_le _, fun j hj => absurd hj (Nat.not_lt_zero j), Nat.zero_le _⟩, rfl, rfl, rfl, rfl, rfl, ⟨rfl, rfl⟩, trivial⟩, ?_⟩
  rintro k ⟨hk, hno, hki⟩
  have hk : k ≤ (st.fs 10).length := hk
  refine .inl ⟨fun hc => ?_, fun hc => ?_⟩
  ·have hc := dlt hc
   have hc : (k : Int) < (st.fs 10).length := hc
   have ek : ((k : Nat) : Int).toNat = k := Int.toNat_natCast _
   repeat refine Or.inl ?_
   refine ⟨⟨by omega, by omega⟩, ?_⟩
   have hl := lookF (st.fs 10) ((mkeys (st.fs 10)).getD ((k : Nat) : Int).toNat 0)
   rw [ek, mkeys_getD, mget_at hnd (by omega)] at hl
   have hgk : AV.i .i64 ((sortI (mkeys (st.fs 10))).getD ((k : Nat) : Int).toNat 0) = AV.i .i64 ((st.fs 10).getD k dFl).1 := by rw [hso, ek, mkeys_getD]
   rw [← hgk] at hl
   have hsk : ((st.fs 10).getD k dFl).2.size ≤ 200 := hT.sz _ (getD_memD dFl (by omega))
   have hdk := div_len ((st.fs 10).getD k dFl).2
   refine ⟨by omega, ?_⟩
   refine ⟨_, _, ⟨hkF, rfl, hl⟩, ?_⟩
   refine Or.inl ⟨_, _, equal_fn (divL ((st.fs 10).getD k dFl).2) (divL x) (by omega) (by omega), ?_⟩
   refine ⟨fun h2 => ?_, fun h2 => ?_⟩
   ·have h2 : decide (divL ((st.fs 10).getD k dFl).2 = divL x) = true := h2
    rw [bytes_dif, decide_eq_true_eq] at h2
    have hki2 : k = i := by
     rcases Nat.lt_trichotomy k i with h3 | h3 | h3
     ·exact absurd h2 (hlt k h3)
     ·exact h3
     ·omega
    have hav : AVEq (.tup [.i .i64 ((st.fs 10).getD i dFl).1, .i .i64 0]) (.tup [.i .i64 ((sortI (mkeys (st.fs 10))).getD ((k : Nat) : Int).toNat 0), .i .i64 0]) := by
     rw [hgk, hki2]
     exact AVEq.refl _
    exact ⟨(), [], trivial, ⟨⟨⟨rfl, rfl, hav⟩, trivial⟩, ⟨⟨rfl, rfl, rfl, ⟨rfl, AVsEq.refl _⟩⟩, ⟨rfl, rfl, trivial, AOEq.refl _⟩, ⟨rfl, rfl, trivial, AOEq.refl _⟩, ⟨rfl, rfl, trivial, AOEq.refl _⟩, ⟨rfl, rfl, trivial, AOEq.refl _⟩, ⟨rfl, rfl, trivial, AOEq.refl _⟩, ⟨rfl, rfl, trivial, AOEq.refl _⟩, ⟨rfl, rfl, trivial, AOEq.refl _⟩, ⟨rfl, rfl, trivial, AOEq.refl _⟩, ⟨rfl, rfl, trivial, AOEq.refl _⟩, ⟨rfl, rfl, trivial, AOEq.refl _⟩, ⟨rfl, rfl, trivial, AOEq.refl _⟩, ⟨rfl, rfl, trivial, AOEq.refl _⟩, ⟨rfl, rfl, trivial, AOEq.refl _⟩, trivial⟩, rfl⟩, rfl, fun h => by cases h⟩
   ·have h2 : decide (divL ((st.fs 10).getD k dFl).2 = divL x) = false := h2
    rw [bytes_dif, decide_eq_false_iff_not] at h2
    have hki2 : k ≠ i := fun e => h2 (by rw [e]; exact hix)
    refine ⟨k + 1, [], ⟨by omega, fun j hj => ?_, by omega⟩, by dsimp only; omega, rfl, rfl, rfl, rfl, rfl, ⟨rfl, wr (by omega) (by omega)⟩, trivial⟩
    by_cases hjk : j = k
    ·rw [hjk]; exact h2
    ·exact hno j (by omega)
  ·exfalso
   have hc := dnlt hc
   have hc : ((st.fs 10).length : Int) ≤ (k : Nat) := hc
   omega
 ·refine Or.inr (Or.inr ?_)
  refine ⟨true, [0, 1, 2, 3, 4, 5, 6, 7, 8, 9, 10, 11, 12, 13], rfl, Unit, _, _, _, _, of_fn st B 11 (by decide), fun _ _ => ?_⟩
  repeat refine Or.inl ?_
  refine ⟨fun hc => (by cases hc), fun _ => ?_⟩
  refine ⟨fun hc => (by have hc : decide ((x.size : Int) > 65536) = true := hc; rw [decide_eq_true_eq] at hc; omega), fun _ => ?_⟩
  refine Or.inl ⟨_, _, (divided_fn x (by omega)).frz, ?_⟩
  refine Or.inl (Or.inr (Or.inr ?_))
  refine ⟨true, [0, 1, 2, 3, 4, 5, 6, 7, 8, 9, 10, 11, 12, 13], rfl, Unit, _, _, _, _, names_fn st B 11 (by decide) (hT.wf (by omega)) (by have := hT.len; omega), fun _ _ => ?_⟩
  repeat refine Or.inl ?_
  refine ⟨[], Nat, fun k => k ≤ (st.fs 11).length ∧ (∀ j, j < k → ((st.fs 11).getD j dFl).2 ≠ x) ∧ k ≤ i, fun k => [⟨34, [], .i .i64 k⟩], fun k => [], fun k => (st.fs 11).length - k,
   ⟨0, [], ⟨Nat.zero_le _, fun j hj => absurd hj (Nat.not_lt_zero j), Nat.zero_le _⟩, rfl, rfl, rfl, rfl, rfl, ⟨rfl, rfl⟩, trivial⟩, ?_⟩
  rintro k ⟨hk, hno, hki⟩
  have hk : k ≤ (st.fs 11).length := hk
  refine .inl ⟨fun hc => ?_, fun hc => ?_⟩
  ·have hc := dlt hc
   have hc : (k : Int) < (st.fs 11).length := hc
   have ek : ((k : Nat) : Int).toNat = k := Int.toNat_natCast _
   repeat refine Or.inl ?_
   refine ⟨⟨by omega, by omega⟩, ?_⟩
   have hl := lookF (st.fs 11) ((mkeys (st.fs 11)).getD ((k : Nat) : Int).toNat 0)
   rw [ek, mkeys_getD, mget_at hnd (by omega)] at hl
   have hgk : AV.i .i64 ((sortI (mkeys (st.fs 11))).getD ((k : Nat) : Int).toNat 0) = AV.i .i64 ((st.fs 11).getD k dFl).1 := by rw [hso, ek, mkeys_getD]
   rw [← hgk] at hl
   have hsk : ((st.fs 11).getD k dFl).2.size ≤ 200 := hT.sz _ (getD_memD dFl (by omega))
   have hdk := div_len ((st.fs 11).getD k dFl).2
   refine ⟨by omega, ?_⟩
   refine ⟨_, _, ⟨hkF, rfl, hl⟩, ?_⟩
   refine Or.inl ⟨_, _, equal_fn (divL ((st.fs 11).getD k dFl).2) (divL x) (by omega) (by omega), ?_⟩
   refine ⟨fun h2 => ?_, fun h2 => ?_⟩
   ·have h2 : decide (divL ((st.fs 11).getD k dFl).2 = divL x) = true := h2
    rw [bytes_dif, decide_eq_true_eq] at h2
    have hki2 : k = i := by
     rcases Nat.lt_trichotomy k i with h3 | h3 | h3
     ·exact absurd h2 (hlt k h3)
     ·exact h3
     ·omega
    have hav : AVEq (.tup [.i .i64 ((st.fs 11).getD i dFl).1, .i .i64 0]) (.tup [.i .i64 ((sortI (mkeys (st.fs 11))).getD ((k : Nat) : Int).toNat 0), .i .i64 0]) := by
     rw [hgk, hki2]
     exact AVEq.refl _
    exact ⟨(), [], trivial, ⟨⟨⟨rfl, rfl, hav⟩, trivial⟩, ⟨⟨rfl, rfl, rfl, ⟨rfl, AVsEq.refl _⟩⟩, ⟨rfl, rfl, trivial, AOEq.refl _⟩, ⟨rfl, rfl, trivial, AOEq.refl _⟩, ⟨rfl, rfl, trivial, AOEq.refl _⟩, ⟨rfl, rfl, trivial, AOEq.refl _⟩, ⟨rfl, rfl, trivial, AOEq.refl _⟩, ⟨rfl, rfl, trivial, AOEq.refl _⟩, ⟨rfl, rfl, trivial, AOEq.refl _⟩, ⟨rfl, rfl, trivial, AOEq.refl _⟩, ⟨rfl, rfl, trivial, AOEq.refl _⟩, ⟨rfl, rfl, trivial, AOEq.refl _⟩, ⟨rfl, rfl, trivial, AOEq.refl _⟩, ⟨rfl, rfl, trivial, AOEq.refl _⟩, ⟨rfl, rfl, trivial, AOEq.refl _⟩, trivial⟩, rfl⟩, rfl, fun h => by cases h⟩
   ·have h2 : decide (divL ((st.fs 11).getD k dFl).2 = divL x) = false := h2
    rw [bytes_dif, decide_eq_false_iff_not] at h2
    have hki2 : k ≠ i := fun e => h2 (by rw [e]; exact hix)
    refine ⟨k + 1, [], ⟨by omega, fun j hj => ?_, by omega⟩, by dsimp only; omega, rfl, rfl, rfl, rfl, rfl, ⟨rfl, wr (by omega) (by omega)⟩, trivial⟩
    by_cases hjk : j = k
    ·rw [hjk]; exact h2
    ·exact hno j (by omega)
  ·exfalso
   have hc := dnlt hc
   have hc : ((st.fs 11).length : Int) ≤ (k : Nat) := hc
   omega
end Go.Proofs.Ytnookbebiacaeaa
end
