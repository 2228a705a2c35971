/-
  Several texts in one: Ckb, Ckc.
-/
import Derived.Test.YtnookbebiacaeaaMg18

section
namespace Go.Proofs.Ytnookbebiacaeaa
open Go.Eng Go.RowKit
set_option maxRecDepth 20000 in
set_option maxHeartbeats 8000000 in
theorem drop_none (st : St) (B : Bn) (t n : Int) (h : ¬ (0 ≤ t ∧ t < 12)) : CtrM Try.prog 68 true (storeO st B) [.p 0 0, .i .i64 t, .i .i64 n] (fun _ : Unit => True) (fun _ => storeO st B) (fun _ => []) (fun _ => .i .i64 4) := by
 refine fn_of_execM tabOk Try.func68 (by kernel_rfl) rfl (N := Try.f68.ntmps) rfl (res := [.tmp 6]) rfl true false (storeO st B) _ _ _ _ rfl (fun h => by cases h) [] ?_
 refine Or.inr (Or.inr ?_)
 refine ⟨true, [0, 1, 2, 3, 4, 5, 6, 7, 8, 9, 10, 11, 12, 13], rfl, Unit, _, _, _, _, of_none st B t h, fun _ _ => ?_⟩
 repeat refine Or.inl ?_
 refine ⟨fun _ => ?_, fun hc => (by cases hc)⟩
 exact ⟨(), [], trivial, ⟨⟨⟨rfl, rfl, AVEq.refl _⟩, trivial⟩, ⟨⟨rfl, rfl, rfl, ⟨rfl, AVsEq.refl _⟩⟩, ⟨rfl, rfl, trivial, AOEq.refl _⟩, ⟨rfl, rfl, trivial, AOEq.refl _⟩, ⟨rfl, rfl, trivial, AOEq.refl _⟩, ⟨rfl, rfl, trivial, AOEq.refl _⟩, ⟨rfl, rfl, trivial, AOEq.refl _⟩, ⟨rfl, rfl, trivial, AOEq.refl _⟩, ⟨rfl, rfl, trivial, AOEq.refl _⟩, ⟨rfl, rfl, trivial, AOEq.refl _⟩, ⟨rfl, rfl, trivial, AOEq.refl _⟩, ⟨rfl, rfl, trivial, AOEq.refl _⟩, ⟨rfl, rfl, trivial, AOEq.refl _⟩, ⟨rfl, rfl, trivial, AOEq.refl _⟩, ⟨rfl, rfl, trivial, AOEq.refl _⟩, trivial⟩, rfl⟩, rfl, fun h => by cases h⟩
set_option maxRecDepth 20000 in
set_option maxHeartbeats 8000000 in
theorem drop_no (st : St) (B : Bn) (t : Nat) (n : Int) (h : t < 12) (hm : mget (st.fs t) n = none) : CtrM Try.prog 68 true (storeO st B) [.p 0 0, .i .i64 t, .i .i64 n] (fun _ : Unit => True) (fun _ => storeO st B) (fun _ => []) (fun _ => .i .i64 4) := by
 refine fn_of_execM tabOk Try.func68 (by kernel_rfl) rfl (N := Try.f68.ntmps) rfl (res := [.tmp 6]) rfl true false (storeO st B) _ _ _ _ rfl (fun h => by cases h) [] ?_
 have hk := keysFile (st.fs t)
 have hl := lookF (st.fs t) n
 rw [hm] at hl
 rcases cases12 h with rfl | rfl | rfl | rfl | rfl | rfl | rfl | rfl | rfl | rfl | rfl | rfl
 all_goals
  refine Or.inr (Or.inr ?_)
  refine ⟨true, [0, 1, 2, 3, 4, 5, 6, 7, 8, 9, 10, 11, 12, 13], rfl, Unit, _, _, _, _, of_fn st B _ (by decide), fun _ _ => ?_⟩
  repeat refine Or.inl ?_
  refine ⟨fun hc => (by cases hc), fun _ => ?_⟩
  repeat refine Or.inl ?_
  refine ⟨_, _, ⟨hk, rfl, hl⟩, ?_⟩
  repeat refine Or.inl ?_
  refine ⟨fun _ => ?_, fun hc => (by cases hc)⟩
  exact ⟨(), [], trivial, ⟨⟨⟨rfl, rfl, AVEq.refl _⟩, trivial⟩, ⟨⟨rfl, rfl, rfl, ⟨rfl, AVsEq.refl _⟩⟩, ⟨rfl, rfl, trivial, AOEq.refl _⟩, ⟨rfl, rfl, trivial, AOEq.refl _⟩, ⟨rfl, rfl, trivial, AOEq.refl _⟩, ⟨rfl, rfl, trivial, AOEq.refl _⟩, ⟨rfl, rfl, trivial, AOEq.refl _⟩, ⟨rfl, rfl, trivial, AOEq.refl _⟩, ⟨rfl, rfl, trivial, AOEq.refl _⟩, ⟨rfl, rfl, trivial, AOEq.refl _⟩, ⟨rfl, rfl, trivial, AOEq.refl _⟩, ⟨rfl, rfl, trivial, AOEq.refl _⟩, ⟨rfl, rfl, trivial, AOEq.refl _⟩, ⟨rfl, rfl, trivial, AOEq.refl _⟩, ⟨rfl, rfl, trivial, AOEq.refl _⟩, trivial⟩, rfl⟩, rfl, fun h => by cases h⟩
theorem drop_BOk {st : St} {B : Bn} (hB : BOk st B) (t : Nat) (n : Int) (x : ByteArray) {born' : Nat → Nat} (hb : BI (st.fs t).length (B.fb t) (B.fc t) → BI (mdel (st.fs t) n).length born' (B.fc t)) (h : t < 12) (ub : Nat → Nat) (uc : Nat) :
  BOk (dropS st t n x) ⟨ub, uc, upd B.fb t born', B.fc⟩ := by
 intro s hs
 show BI (upd st.fs t (mdel (st.fs t) n) s).length (upd B.fb t born' s) (B.fc s)
 unfold upd
 by_cases e : s = t
 ·rw [if_pos e, if_pos e, e]
  exact hb (hB t h)
 ·rw [if_neg e, if_neg e]
  exact hB s hs
set_option maxRecDepth 20000 in
set_option maxHeartbeats 8000000 in
theorem drop_fn (st : St) (B : Bn) (t : Nat) (n : Int) (x : ByteArray) (h : t < 12) (hm : mget (st.fs t) n = some x) (hx : x.size ≤ 10000) (hB : BOk st B) (hU : UB st.us 100000) :
  CtrM Try.prog 68 true (storeO st B) [.p 0 0, .i .i64 t, .i .i64 n] (fun B' : Bn => BOk (dropS st t n x) B') (fun B' => storeO (dropS st t n x) B') (fun _ => []) (fun _ => .i .i64 0) := by
 refine fn_of_execM tabOk Try.func68 (by kernel_rfl) rfl (N := Try.f68.ntmps) rfl (res := [.tmp 6]) rfl true false (storeO st B) _ _ _ _ rfl (fun h => by cases h) [] ?_
 have hk := keysFile (st.fs t)
 have hl := lookF (st.fs t) n
 rw [hm] at hl
 have hdl := div_len x
 obtain ⟨born', hdel, hbi⟩ := delM (kf := fun n : Int => .i .i64 n) (vf := filV) (d := dFl) (born := B.fb t) (clock := B.fc t) (k := n) (L := st.fs t) (by rw [hm]; rfl)
 have hBk := drop_BOk hB t n x hbi h
 rcases cases12 h with rfl | rfl | rfl | rfl | rfl | rfl | rfl | rfl | rfl | rfl | rfl | rfl
 ·refine Or.inr (Or.inr ?_)
  refine ⟨true, [0, 1, 2, 3, 4, 5, 6, 7, 8, 9, 10, 11, 12, 13], rfl, Unit, _, _, _, _, of_fn st B 0 (by decide), fun _ _ => ?_⟩
  repeat refine Or.inl ?_
  refine ⟨fun hc => (by cases hc), fun _ => ?_⟩
  repeat refine Or.inl ?_
  refine ⟨_, _, ⟨hk, rfl, hl⟩, ?_⟩
  repeat refine Or.inl ?_
  refine ⟨fun hc => (by cases hc), fun _ => ?_⟩
  repeat refine Or.inl ?_
  have ao0 : AOEq (mpB (fun c => .ag (ckA c)) (fun n => .i .i64 n) (dCk, 0) (decs st.us ((divL x).take 0)) B.ub B.uc) (usO st B) := AOEq.refl _
  refine ⟨[], Nat × (Nat → Nat) × Nat, fun p => p.1 ≤ (divL x).length, fun p => [⟨34, [], .i .i64 p.1⟩], fun p => [⟨1, [], mpB (fun c => .ag (ckA c)) (fun n => .i .i64 n) (dCk, 0) (decs st.us ((divL x).take p.1)) p.2.1 p.2.2⟩], fun p => (divL x).length - p.1,
   ⟨(0, B.ub, B.uc), [], Nat.zero_le _, rfl, rfl, rfl, rfl, rfl, ⟨rfl, rfl⟩, ao0⟩, ?_⟩
  rintro ⟨k, ub, uc⟩ hkl
  have hkl : k ≤ (divL x).length := hkl
  have hUk := hU.decs (divL x) k hkl
  refine .inl ⟨fun hc => ?_, fun hc => ?_⟩
  ·have hc := dlt hc
   have hc : (k : Int) < (divL x).length := hc
   have ek : ((k : Nat) : Int).toNat = k := Int.toNat_natCast _
   have hcb := hUk.2 ((divL x).getD k dCk)
   have hds := decs_snoc (L := st.us) (l := divL x) (k := k) (by omega)
   have hlk := lookU (decs st.us ((divL x).take k)) ((divL x).getD k dCk)
   have hup := updU (decs st.us ((divL x).take k)) ub uc ((divL x).getD k dCk) (cntU (decs st.us ((divL x).take k)) ((divL x).getD k dCk) - 1)
   have hlk2 := lookU (mset (decs st.us ((divL x).take k)) ((divL x).getD k dCk) (cntU (decs st.us ((divL x).take k)) ((divL x).getD k dCk) - 1)) ((divL x).getD k dCk)
   repeat refine Or.inl ?_
   refine ⟨⟨by omega, by omega⟩, ?_⟩
   have hbin : binI .sub .i64 (cntU (decs st.us ((divL x).take k)) ((divL x).getD k dCk)) 1 = some (.i .i64 (cntU (decs st.us ((divL x).take k)) ((divL x).getD k dCk) - 1)) := by
    show some (AV.i .i64 (IntKind.i64.wrap _)) = _
    rw [wr (by omega) (by omega)]
   refine ⟨(mget (decs st.us ((divL x).take k)) ((divL x).getD k dCk)).isSome, cntU (decs st.us ((divL x).take k)) ((divL x).getD k dCk), cntU (decs st.us ((divL x).take k)) ((divL x).getD k dCk) - 1, _, _, _, _, _, ⟨keysU _, rfl, hlk, hbin, hup⟩, ?_⟩
   repeat refine Or.inl ?_
   refine ⟨_, _, ⟨keysU _, rfl, hlk2⟩, ?_⟩
   have hL1 : cntU (mset (decs st.us ((divL x).take k)) ((divL x).getD k dCk) (cntU (decs st.us ((divL x).take k)) ((divL x).getD k dCk) - 1)) ((divL x).getD k dCk) = cntU (decs st.us ((divL x).take k)) ((divL x).getD k dCk) - 1 := by rw [cnt_mset, if_pos rfl]
   refine ⟨fun h0 => ?_, fun h0 => ?_⟩
   ·have h0 : (cntU (mset (decs st.us ((divL x).take k)) ((divL x).getD k dCk) (cntU (decs st.us ((divL x).take k)) ((divL x).getD k dCk) - 1)) ((divL x).getD k dCk) == 0) = true := h0
    rw [hL1, beq_iff_eq] at h0
    obtain ⟨bu, hdu, _⟩ := delM (kf := fun c : Chk => .ag (ckA c)) (vf := fun n : Int => .i .i64 n) (d := (dCk, 0)) (born := fun j => if j < (decs st.us ((divL x).take k)).length then ub j else uc) (clock := 0) (k := (divL x).getD k dCk) (L := mset (decs st.us ((divL x).take k)) ((divL x).getD k dCk) (cntU (decs st.us ((divL x).take k)) ((divL x).getD k dCk) - 1)) (by rw [mget_mset, if_pos rfl]; rfl)
    repeat refine Or.inl ?_
    refine ⟨_, _, _, _, ⟨keysU _, rfl, hdu⟩, ?_⟩
    have ao : AOEq (mpB (fun c => .ag (ckA c)) (fun n => .i .i64 n) (dCk, 0) (decs st.us ((divL x).take (k + 1))) bu (if (mget (decs st.us ((divL x).take k)) ((divL x).getD k dCk)).isSome = true then uc else uc + 1)) (mpB (fun c => .ag (ckA c)) (fun n => .i .i64 n) (dCk, 0) (mdel (mset (decs st.us ((divL x).take k)) ((divL x).getD k dCk) (cntU (decs st.us ((divL x).take k)) ((divL x).getD k dCk) - 1)) ((divL x).getD k dCk)) bu (if (mget (decs st.us ((divL x).take k)) ((divL x).getD k dCk)).isSome = true then uc else uc + 1)) := by
     rw [hds]
     unfold decU
     rw [if_pos h0]
     exact AOEq.refl _
    refine ⟨(k + 1, _, _), [], (by show k + 1 ≤ (divL x).length; omega), by dsimp only; omega, rfl, rfl, rfl, rfl, rfl, ⟨rfl, wr (by omega) (by omega)⟩, ao⟩
   ·have h0 : (cntU (mset (decs st.us ((divL x).take k)) ((divL x).getD k dCk) (cntU (decs st.us ((divL x).take k)) ((divL x).getD k dCk) - 1)) ((divL x).getD k dCk) == 0) = false := h0
    rw [hL1, beq_eq_false_iff_ne] at h0
    have ao : AOEq (mpB (fun c => .ag (ckA c)) (fun n => .i .i64 n) (dCk, 0) (decs st.us ((divL x).take (k + 1))) (fun j => if j < (decs st.us ((divL x).take k)).length then ub j else uc) (if (mget (decs st.us ((divL x).take k)) ((divL x).getD k dCk)).isSome = true then uc else uc + 1)) (mpB (fun c => .ag (ckA c)) (fun n => .i .i64 n) (dCk, 0) (mset (decs st.us ((divL x).take k)) ((divL x).getD k dCk) (cntU (decs st.us ((divL x).take k)) ((divL x).getD k dCk) - 1)) (fun j => if j < (decs st.us ((divL x).take k)).length then ub j else uc) (if (mget (decs st.us ((divL x).take k)) ((divL x).getD k dCk)).isSome = true then uc else uc + 1)) := by
     rw [hds]
     unfold decU
     rw [if_neg h0]
     exact AOEq.refl _
    refine ⟨(k + 1, _, _), [], (by show k + 1 ≤ (divL x).length; omega), by dsimp only; omega, rfl, rfl, rfl, rfl, rfl, ⟨rfl, wr (by omega) (by omega)⟩, ao⟩
  ·have hc := dnlt hc
   have hc : ((divL x).length : Int) ≤ (k : Nat) := hc
   have hte : (divL x).take k = divL x := List.take_of_length_le (by omega)
   repeat refine Or.inl ?_
   refine ⟨_, _, _, _, ⟨hk, rfl, hdel⟩, ?_⟩
   have aoU : AOEq (usO (dropS st 0 n x) ⟨ub, uc, upd B.fb 0 born', B.fc⟩) (mpB (fun c => .ag (ckA c)) (fun n => .i .i64 n) (dCk, 0) (decs st.us ((divL x).take k)) ub uc) := by
    rw [hte]
    exact AOEq.refl _
   exact ⟨⟨ub, uc, upd B.fb 0 born', B.fc⟩, [], hBk ub uc, ⟨⟨⟨rfl, rfl, AVEq.refl _⟩, trivial⟩, ⟨⟨rfl, rfl, rfl, ⟨rfl, AVsEq.refl _⟩⟩, ⟨rfl, rfl, trivial, aoU⟩, ⟨rfl, rfl, trivial, AOEq.refl _⟩, ⟨rfl, rfl, trivial, AOEq.refl _⟩, ⟨rfl, rfl, trivial, AOEq.refl _⟩, ⟨rfl, rfl, trivial, AOEq.refl _⟩, ⟨rfl, rfl, trivial, AOEq.refl _⟩, ⟨rfl, rfl, trivial, AOEq.refl _⟩, ⟨rfl, rfl, trivial, AOEq.refl _⟩, ⟨rfl, rfl, trivial, AOEq.refl _⟩, ⟨rfl, rfl, trivial, AOEq.refl _⟩, ⟨rfl, rfl, trivial, AOEq.refl _⟩, ⟨rfl, rfl, trivial, AOEq.refl _⟩, ⟨rfl, rfl, trivial, AOEq.refl _⟩, trivial⟩, rfl⟩, rfl, fun h => by cases h⟩
 ·refine Or.inr (Or.inr ?_)
  refine ⟨true, [0, 1, 2, 3, 4, 5, 6, 7, 8, 9, 10, 11, 12, 13], rfl, Unit, _, _, _, _, of_fn st B 1 (by decide), fun _ _ => ?_⟩
  repeat refine Or.inl ?_
  refine ⟨fun hc => (by cases hc), fun _ => ?_⟩
  repeat refine Or.inl ?_
  refine ⟨_, _, ⟨hk, rfl, hl⟩, ?_⟩
  repeat refine Or.inl ?_
  refine ⟨fun hc => (by cases hc), fun _ => ?_⟩
  repeat refine Or.inl ?_
  have ao0 : AOEq (mpB (fun c => .ag (ckA c)) (fun n => .i .i64 n) (dCk, 0) (decs st.us ((divL x).take 0)) B.ub B.uc) (usO st B) := AOEq.refl _
  refine ⟨[], Nat × (Nat → Nat) × Nat, fun p => p.1 ≤ (divL x).length, fun p => [⟨34, [], .i .i64 p.1⟩], fun p => [⟨1, [], mpB (fun c => .ag (ckA c)) (fun n => .i .i64 n) (dCk, 0) (decs st.us ((divL x).take p.1)) p.2.1 p.2.2⟩], fun p => (divL x).length - p.1,
   ⟨(0, B.ub, B.uc), [], Nat.zero_le _, rfl, rfl, rfl, rfl, rfl, ⟨rfl, rfl⟩, ao0⟩, ?_⟩
  rintro ⟨k, ub, uc⟩ hkl
  have hkl : k ≤ (divL x).length := hkl
  have hUk := hU.decs (divL x) k hkl
  refine .inl ⟨fun hc => ?_, fun hc => ?_⟩
  ·have hc := dlt hc
   have hc : (k : Int) < (divL x).length := hc
   have ek : ((k : Nat) : Int).toNat = k := Int.toNat_natCast _
   have hcb := hUk.2 ((divL x).getD k dCk)
   have hds := decs_snoc (L := st.us) (l := divL x) (k := k) (by omega)
   have hlk := lookU (decs st.us ((divL x).take k)) ((divL x).getD k dCk)
   have hup := updU (decs st.us ((divL x).take k)) ub uc ((divL x).getD k dCk) (cntU (decs st.us ((divL x).take k)) ((divL x).getD k dCk) - 1)
   have hlk2 := lookU (mset (decs st.us ((divL x).take k)) ((divL x).getD k dCk) (cntU (decs st.us ((divL x).take k)) ((divL x).getD k dCk) - 1)) ((divL x).getD k dCk)
   repeat refine Or.inl ?_
   refine ⟨⟨by omega, by omega⟩, ?_⟩
   have hbin : binI .sub .i64 (cntU (decs st.us ((divL x).take k)) ((divL x).getD k dCk)) 1 = some (.i .i64 (cntU (decs st.us ((divL x).take k)) ((divL x).getD k dCk) - 1)) := by
    show some (AV.i .i64 (IntKind.i64.wrap _)) = _
    rw [wr (by omega) (by omega)]
   refine ⟨(mget (decs st.us ((divL x).take k)) ((divL x).getD k dCk)).isSome, cntU (decs st.us ((divL x).take k)) ((divL x).getD k dCk), cntU (decs st.us ((divL x).take k)) ((divL x).getD k dCk) - 1, _, _, _, _, _, ⟨keysU _, rfl, hlk, hbin, hup⟩, ?_⟩
   repeat refine Or.inl ?_
   refine ⟨_, _, ⟨keysU _, rfl, hlk2⟩, ?_⟩
   have hL1 : cntU (mset (decs st.us ((divL x).take k)) ((divL x).getD k dCk) (cntU (decs st.us ((divL x).take k)) ((divL x).getD k dCk) - 1)) ((divL x).getD k dCk) = cntU (decs st.us ((divL x).take k)) ((divL x).getD k dCk) - 1 := by rw [cnt_mset, if_pos rfl]
   refine ⟨fun h0 => ?_, fun h0 => ?_⟩
   ·have h0 : (cntU (mset (decs st.us ((divL x).take k)) ((divL x).getD k dCk) (cntU (decs st.us ((divL x).take k)) ((divL x).getD k dCk) - 1)) ((divL x).getD k dCk) == 0) = true := h0
    rw [hL1, beq_iff_eq] at h0
    obtain ⟨bu, hdu, _⟩ := delM (kf := fun c : Chk => .ag (ckA c)) (vf := fun n : Int => .i .i64 n) (d := (dCk, 0)) (born := fun j => if j < (decs st.us ((divL x).take k)).length then ub j else uc) (clock := 0) (k := (divL x).getD k dCk) (L := mset (decs st.us ((divL x).take k)) ((divL x).getD k dCk) (cntU (decs st.us ((divL x).take k)) ((divL x).getD k dCk) - 1)) (by rw [mget_mset, if_pos rfl]; rfl)
    repeat refine Or.inl ?_
    refine ⟨_, _, _, _, ⟨keysU _, rfl, hdu⟩, ?_⟩
    have ao : AOEq (mpB (fun c => .ag (ckA c)) (fun n => .i .i64 n) (dCk, 0) (decs st.us ((divL x).take (k + 1))) bu (if (mget (decs st.us ((divL x).take k)) ((divL x).getD k dCk)).isSome = true then uc else uc + 1)) (mpB (fun c => .ag (ckA c)) (fun n => .i .i64 n) (dCk, 0) (mdel (mset (decs st.us ((divL x).take k)) ((divL x).getD k dCk) (cntU (decs st.us ((divL x).take k)) ((divL x).getD k dCk) - 1)) ((divL x).getD k dCk)) bu (if (mget (decs st.us ((divL x).take k)) ((divL x).getD k dCk)).isSome = true then uc else uc + 1)) := by
     rw [hds]
     unfold decU
     rw [if_pos h0]
     exact AOEq.refl _
    refine ⟨(k + 1, _, _), [], (by show k + 1 ≤ (divL x).length; omega), by dsimp only; omega, rfl, rfl, rfl, rfl, rfl, ⟨rfl, wr (by omega) (by omega)⟩, ao⟩
   ·have h0 : (cntU (mset (decs st.us ((divL x).take k)) ((divL x).getD k dCk) (cntU (decs st.us ((divL x).take k)) ((divL x).getD k dCk) - 1)) ((divL x).getD k dCk) == 0) = false := h0
    rw [hL1, beq_eq_false_iff_ne] at h0
    have ao : AOEq (mpB (fun c => .ag (ckA c)) (fun n => .i .i64 n) (dCk, 0) (decs st.us ((divL x).take (k + 1))) (fun j => if j < (decs st.us ((divL x).take k)).length then ub j else uc) (if (mget (decs st.us ((divL x).take k)) ((divL x).getD k dCk)).isSome = true then uc else uc + 1)) (mpB (fun c => .ag (ckA c)) (fun n => .i .i64 n) (dCk, 0) (mset (decs st.us ((divL x).take k)) ((divL x).getD k dCk) (cntU (decs st.us ((divL x).take k)) ((divL x).getD k dCk) - 1)) (fun j => if j < (decs st.us ((divL x).take k)).length then ub j else uc) (if (mget (decs st.us ((divL x).take k)) ((divL x).getD k dCk)).isSome = true then uc else uc + 1)) := by
     rw [hds]
     unfold decU
     rw [if_neg h0]
     exact AOEq.refl _
    refine ⟨(k + 1, _, _), [], (by show k + 1 ≤ (divL x).length; omega), by dsimp only; omega, rfl, rfl, rfl, rfl, rfl, ⟨rfl, wr (by omega) (by omega)⟩, ao⟩
  ·have hc := dnlt hc
   have hc : ((divL x).length : Int) ≤ (k : Nat) := hc
   have hte : (divL x).take k = divL x := List.take_of_length_le (by omega)
   repeat refine Or.inl ?_
   refine ⟨_, _, _, _, ⟨hk, rfl, hdel⟩, ?_⟩
   have aoU : AOEq (usO (dropS st 1 n x) ⟨ub, uc, upd B.fb 1 born', B.fc⟩) (mpB (fun c => .ag (ckA c)) (fun n => .i .i64 n) (dCk, 0) (decs st.us ((divL x).take k)) ub uc) := by
    rw [hte]
    exact AOEq.refl _
   exact ⟨⟨ub, uc, upd B.fb 1 born', B.fc⟩, [], hBk ub uc, ⟨⟨⟨rfl, rfl, AVEq.refl _⟩, trivial⟩, ⟨⟨rfl, rfl, rfl, ⟨rfl, AVsEq.refl _⟩⟩, ⟨rfl, rfl, trivial, aoU⟩, ⟨rfl, rfl, trivial, AOEq.refl _⟩, ⟨rfl, rfl, trivial, AOEq.refl _⟩, ⟨rfl, rfl, trivial, AOEq.refl _⟩, ⟨rfl, rfl, trivial, AOEq.refl _⟩, ⟨rfl, rfl, trivial, AOEq.refl _⟩, ⟨rfl, rfl, trivial, AOEq.refl _⟩, ⟨rfl, rfl, trivial, AOEq.refl _⟩, ⟨rfl, rfl, trivial, AOEq.refl _⟩, ⟨rfl, rfl, trivial, AOEq.refl _⟩, ⟨rfl, rfl, trivial, AOEq.refl _⟩, ⟨rfl, rfl, trivial, AOEq.refl _⟩, ⟨rfl, rfl, trivial, AOEq.refl _⟩, trivial⟩, rfl⟩, rfl, fun h => by cases h⟩
 ·refine Or.inr (Or.inr ?_)
  refine ⟨true, [0, 1, 2, 3, 4, 5, 6, 7, 8, 9, 10, 11, 12, 13], rfl, Unit, _, _, _, _, of_fn st B 2 (by decide), fun _ _ => ?_⟩
  repeat refine Or.inl ?_
  refine ⟨fun hc => (by cases hc), fun _ => ?_⟩
  repeat refine Or.inl ?_
  refine ⟨_, _, ⟨hk, rfl, hl⟩, ?_⟩
  repeat refine Or.inl ?_
  refine ⟨fun hc => (by cases hc), fun _ => ?_⟩
  repeat refine Or.inl ?_
  have ao0 : AOEq (mpB (fun c => .ag (ckA c)) (fun n => .i .i64 n) (dCk, 0) (decs st.us ((divL x).take 0)) B.ub B.uc) (usO st B) := AOEq.refl _
  refine ⟨[], Nat × (Nat → Nat) × Nat, fun p => p.1 ≤ (divL x).length, fun p => [⟨34, [], .i .i64 p.1⟩], fun p => [⟨1, [], mpB (fun c => .ag (ckA c)) (fun n => .i .i64 n) (dCk, 0) (decs st.us ((divL x).take p.1)) p.2.1 p.2.2⟩], fun p => (divL x).length - p.1,
   ⟨(0, B.ub, B.uc), [], Nat.zero_le _, rfl, rfl, rfl, rfl, rfl, ⟨rfl, rfl⟩, ao0⟩, ?_⟩
  rintro ⟨k, ub, uc⟩ hkl
  have hkl : k ≤ (divL x).length := hkl
  have hUk := hU.decs (divL x) k hkl
  refine .inl ⟨fun hc => ?_, fun hc => ?_⟩
  ·have hc := dlt hc
   have hc : (k : Int) < (divL x).length := hc
   have ek : ((k : Nat) : Int).toNat = k := Int.toNat_natCast _
   have hcb := hUk.2 ((divL x).getD k dCk)
   have hds := decs_snoc (L := st.us) (l := divL x) (k := k) (by omega)
   have hlk := lookU (decs st.us ((divL x).take k)) ((divL x).getD k dCk)
   have hup := updU (decs st.us ((divL x).take k)) ub uc ((divL x).getD k dCk) (cntU (decs st.us ((divL x).take k)) ((divL x).getD k dCk) - 1)
   have hlk2 := lookU (mset (decs st.us ((divL x).take k)) ((divL x).getD k dCk) (cntU (decs st.us ((divL x).take k)) ((divL x).getD k dCk) - 1)) ((divL x).getD k dCk)
   repeat refine Or.inl ?_
   refine ⟨⟨by omega, by omega⟩, ?_⟩
   have hbin : binI .sub .i64 (cntU (decs st.us ((divL x).take k)) ((divL x).getD k dCk)) 1 = some (.i .i64 (cntU (decs st.us ((divL x).take k)) ((divL x).getD k dCk) - 1)) := by
    show some (AV.i .i64 (IntKind.i64.wrap _)) = _
    rw [wr (by omega) (by omega)]
   refine ⟨(mget (decs st.us ((divL x).take k)) ((divL x).getD k dCk)).isSome, cntU (decs st.us ((divL x).take k)) ((divL x).getD k dCk), cntU (decs st.us ((divL x).take k)) ((divL x).getD k dCk) - 1, _, _, _, _, _, ⟨keysU _, rfl, hlk, hbin, hup⟩, ?_⟩
   repeat refine Or.inl ?_
   refine ⟨_, _, ⟨keysU _, rfl, hlk2⟩, ?_⟩
   have hL1 : cntU (mset (decs st.us ((divL x).take k)) ((divL x).getD k dCk) (cntU (decs st.us ((divL x).take k)) ((divL x).getD k dCk) - 1)) ((divL x).getD k dCk) = cntU (decs st.us ((divL x).take k)) ((divL x).getD k dCk) - 1 := by rw [cnt_mset, if_pos rfl]
   refine ⟨fun h0 => ?_, fun h0 => ?_⟩
   ·have h0 : (cntU (mset (decs st.us ((divL x).take k)) ((divL x).getD k dCk) (cntU (decs st.us ((divL x).take k)) ((divL x).getD k dCk) - 1)) ((divL x).getD k dCk) == 0) = true := h0
    rw [hL1, beq_iff_eq] at h0
    obtain ⟨bu, hdu, _⟩ := delM (kf := fun c : Chk => .ag (ckA c)) (vf := fun n : Int => .i .i64 n) (d := (dCk, 0)) (born := fun j => if j < (decs st.us ((divL x).take k)).length then ub j else uc) (clock := 0) (k := (divL x).getD k dCk) (L := mset (decs st.us ((divL x).take k)) ((divL x).getD k dCk) (cntU (decs st.us ((divL x).take k)) ((divL x).getD k dCk) - 1)) (by rw [mget_mset, if_pos rfl]; rfl)
    repeat refine Or.inl ?_
    refine ⟨_, _, _, _, ⟨keysU _, rfl, hdu⟩, ?_⟩
    have ao : AOEq (mpB (fun c => .ag (ckA c)) (fun n => .i .i64 n) (dCk, 0) (decs st.us ((divL x).take (k + 1))) bu (if (mget (decs st.us ((divL x).take k)) ((divL x).getD k dCk)).isSome = true then uc else uc + 1)) (mpB (fun c => .ag (ckA c)) (fun n => .i .i64 n) (dCk, 0) (mdel (mset (decs st.us ((divL x).take k)) ((divL x).getD k dCk) (cntU (decs st.us ((divL x).take k)) ((divL x).getD k dCk) - 1)) ((divL x).getD k dCk)) bu (if (mget (decs st.us ((divL x).take k)) ((divL x).getD k dCk)).isSome = true then uc else uc + 1)) := by
     rw [hds]
     unfold decU
     rw [if_pos h0]
     exact AOEq.refl _
    refine ⟨(k + 1, _, _), [], (by show k + 1 ≤ (divL x).length; omega), by dsimp only; omega, rfl, rfl, rfl, rfl, rfl, ⟨rfl, wr (by omega) (by omega)⟩, ao⟩
   ·have h0 : (cntU (mset (decs st.us ((divL x).take k)) ((divL x).getD k dCk) (cntU (decs st.us ((divL x).take k)) ((divL x).getD k dCk) - 1)) ((divL x).getD k dCk) == 0) = false := h0
    rw [hL1, beq_eq_false_iff_ne] at h0
    have ao : AOEq (mpB (fun c => .ag (ckA c)) (fun n => .i .i64 n) (dCk, 0) (decs st.us ((divL x).take (k + 1))) (fun j => if j < (decs st.us ((divL x).take k)).length then ub j else uc) (if (mget (decs st.us ((divL x).take k)) ((divL x).getD k dCk)).isSome = true then uc else uc + 1)) (mpB (fun c => .ag (ckA c)) (fun n => .i .i64 n) (dCk, 0) (mset (decs st.us ((divL x).take k)) ((divL x).getD k dCk) (cntU (decs st.us ((divL x).take k)) ((divL x).getD k dCk) - 1)) (fun j => if j < (decs st.us ((divL x).take k)).length then ub j else uc) (if (mget (decs st.us ((divL x).take k)) ((divL x).getD k dCk)).isSome = true then uc else uc + 1)) := by
     rw [hds]
     unfold decU
     rw [if_neg h0]
     exact AOEq.refl _
    refine ⟨(k + 1, _, _), [], (by show k + 1 ≤ (divL x).length; omega), by dsimp only; omega, rfl, rfl, rfl, rfl, rfl, ⟨rfl, wr (by omega) (by omega)⟩, ao⟩
  ·have hc := dnlt hc
   have hc : ((divL x).length : Int) ≤ (k : Nat) := hc
   have hte : (divL x).take k = divL x := List.take_of_length_le (by omega)
   repeat refine Or.inl ?_
   refine ⟨_, _, _, _, ⟨hk, rfl, hdel⟩, ?_⟩
   have aoU : AOEq (usO (dropS st 2 n x) ⟨ub, uc, upd B.fb 2 born', B.fc⟩) (mpB (fun c => .ag (ckA c)) (fun n => .i .i64 n) (dCk, 0) (decs st.us ((divL x).take k)) ub uc) := by
    rw [hte]
    exact AOEq.refl _
   exact ⟨⟨ub, uc, upd B.fb 2 born', B.fc⟩, [], hBk ub uc, ⟨⟨⟨rfl, rfl, AVEq.refl _⟩, trivial⟩, ⟨⟨rfl, rfl, rfl, ⟨rfl, AVsEq.refl _⟩⟩, ⟨rfl, rfl, trivial, aoU⟩, ⟨rfl, rfl, trivial, AOEq.refl _⟩, ⟨rfl, rfl, trivial, AOEq.refl _⟩, ⟨rfl, rfl, trivial, AOEq.refl _⟩, ⟨rfl, rfl, trivial, AOEq.refl _⟩, ⟨rfl, rfl, trivial, AOEq.refl _⟩, ⟨rfl, rfl, trivial, AOEq.refl _⟩, ⟨rfl, rfl, trivial, AOEq.refl _⟩, ⟨rfl, rfl, trivial, AOEq.refl _⟩, ⟨rfl, rfl, trivial, AOEq.refl _⟩, ⟨rfl, rfl, trivial, AOEq.refl _⟩, ⟨rfl, rfl, trivial, AOEq.refl _⟩, ⟨rfl, rfl, trivial, AOEq.refl _⟩, trivial⟩, rfl⟩, rfl, fun h => by cases h⟩
 ·refine Or.inr (Or.inr ?_)
  refine ⟨true, [0, 1, 2, 3, 4, 5, 6, 7, 8, 9, 10, 11, 12, 13], rfl, Unit, _, _, _, _, of_fn st B 3 (by decide), fun _ _ => ?_⟩
  repeat refine Or.inl ?_
  refine ⟨fun hc => (by cases hc), fun _ => ?_⟩
  repeat refine Or.inl ?_
  refine ⟨_, _, ⟨hk, rfl, hl⟩, ?_⟩
  repeat refine Or.inl ?_
  refine ⟨fun hc => (by cases hc), fun _ => ?_⟩
  repeat refine Or.inl ?_
  have ao0 : AOEq (mpB (fun c => .ag (ckA c)) (fun n => .i .i64 n) (dCk, 0) (decs st.us ((divL x).take 0)) B.ub B.uc) (usO st B) := AOEq.refl _
  refine ⟨[], Nat × (Nat → Nat) × Nat, fun p => p.1 ≤ (divL x).length, fun p => [⟨34, [], .i .i64 p.1⟩], fun p => [⟨1, [], mpB (fun c => .ag (ckA c)) (fun n => .i .i64 n) (dCk, 0) (decs st.us ((divL x).take p.1)) p.2.1 p.2.2⟩], fun p => (divL x).length - p.1,
   ⟨(0, B.ub, B.uc), [], Nat.zero_le _, rfl, rfl, rfl, rfl, rfl, ⟨rfl, rfl⟩, ao0⟩, ?_⟩
  rintro ⟨k, ub, uc⟩ hkl
  have hkl : k ≤ (divL x).length := hkl
  have hUk := hU.decs (divL x) k hkl
  refine .inl ⟨fun hc => ?_, fun hc => ?_⟩
  ·have hc := dlt hc
   have hc : (k : Int) < (divL x).length := hc
   have ek : ((k : Nat) : Int).toNat = k := Int.toNat_natCast _
   have hcb := hUk.2 ((divL x).getD k dCk)
   have hds := decs_snoc (L := st.us) (l := divL x) (k := k) (by omega)
   have hlk := lookU (decs st.us ((divL x).take k)) ((divL x).getD k dCk)
   have hup := updU (decs st.us ((divL x).take k)) ub uc ((divL x).getD k dCk) (cntU (decs st.us ((divL x).take k)) ((divL x).getD k dCk) - 1)
   have hlk2 := lookU (mset (decs st.us ((divL x).take k)) ((divL x).getD k dCk) (cntU (decs st.us ((divL x).take k)) ((divL x).getD k dCk) - 1)) ((divL x).getD k dCk)
   repeat refine Or.inl ?_
   refine ⟨⟨by omega, by omega⟩, ?_⟩
   have hbin : binI .sub .i64 (cntU (decs st.us ((divL x).take k)) ((divL x).getD k dCk)) 1 = some (.i .i64 (cntU (decs st.us ((divL x).take k)) ((divL x).getD k dCk) - 1)) := by
    show some (AV.i .i64 (IntKind.i64.wrap _)) = _
    rw [wr (by omega) (by omega)]
   refine ⟨(mget (decs st.us ((divL x).take k)) ((divL x).getD k dCk)).isSome, cntU (decs st.us ((divL x).take k)) ((divL x).getD k dCk), cntU (decs st.us ((divL x).take k)) ((divL x).getD k dCk) - 1, _, _, _, _, _, ⟨keysU _, rfl, hlk, hbin, hup⟩, ?_⟩
   repeat refine Or.inl ?_
   refine ⟨_, _, ⟨keysU _, rfl, hlk2⟩, ?_⟩
   have hL1 : cntU (mset (decs st.us ((divL x).take k)) ((divL x).getD k dCk) (cntU (decs st.us ((divL x).take k)) ((divL x).getD k dCk) - 1)) ((divL x).getD k dCk) = cntU (decs st.us ((divL x).take k)) ((divL x).getD k dCk) - 1 := by rw [cnt_mset, if_pos rfl]
   refine ⟨fun h0 => ?_, fun h0 => ?_⟩
   ·have h0 : (cntU (mset (decs st.us ((divL x).take k)) ((divL x).getD k dCk) (cntU (decs st.us ((divL x).take k)) ((divL x).getD k dCk) - 1)) ((divL x).getD k dCk) == 0) = true := h0
    rw [hL1, beq_iff_eq] at h0
    obtain ⟨bu, hdu, _⟩ := delM (kf := fun c : Chk => .ag (ckA c)) (vf := fun n : Int => .i .i64 n) (d := (dCk, 0)) (born := fun j => if j < (decs st.us ((divL x).take k)).length then ub j else uc) (clock := 0) (k := (divL x).getD k dCk) (L := mset (decs st.us ((divL x).take k)) ((divL x).getD k dCk) (cntU (decs st.us ((divL x).take k)) ((divL x).getD k dCk) - 1)) (by rw [mget_mset, if_pos rfl]; rfl)
    repeat refine Or.inl ?_
    refine ⟨_, _, _, _, ⟨keysU _, rfl, hdu⟩, ?_⟩
    have ao : AOEq (mpB (fun c => .ag (ckA c)) (fun n => .i .i64 n) (dCk, 0) (decs st.us ((divL x).take (k + 1))) bu (if (mget (decs st.us ((divL x).take k)) ((divL x).getD k dCk)).isSome = true then uc else uc + 1)) (mpB (fun c => .ag (ckA c)) (fun n => .i .i64 n) (dCk, 0) (mdel (mset (decs st.us ((divL x).take k)) ((divL x).getD k dCk) (cntU (decs st.us ((divL x).take k)) ((divL x).getD k dCk) - 1)) ((divL x).getD k dCk)) bu (if (mget (decs st.us ((divL x).take k)) ((divL x).getD k dCk)).isSome = true then uc else uc + 1)) := by
     rw [hds]
     unfold decU
     rw [if_pos h0]
     exact AOEq.refl _
    refine ⟨(k + 1, _, _), [], (by show k + 1 ≤ (divL x).length; omega), by dsimp only; omega, rfl, rfl, rfl, rfl, rfl, ⟨rfl, wr (by omega) (by omega)⟩, ao⟩
   ·have h0 : (cntU (mset (decs st.us ((divL x).take k)) ((divL x).getD k dCk) (cntU (decs st.us ((divL x).take k)) ((divL x).getD k dCk) - 1)) ((divL x).getD k dCk) == 0) = false := h0
    rw [hL1, beq_eq_false_iff_ne] at h0
    have ao : AOEq (mpB (fun c => .ag (ckA c)) (fun n => .i .i64 n) (dCk, 0) (decs st.us ((divL x).take (k + 1))) (fun j => if j < (decs st.us ((divL x).take k)).length then ub j else uc) (if (mget (decs st.us ((divL x).take k)) ((divL x).getD k dCk)).isSome = true then uc else uc + 1)) (mpB (fun c => .ag (ckA c)) (fun n => .i .i64 n) (dCk, 0) (mset (decs st.us ((divL x).take k)) ((divL x).getD k dCk) (cntU (decs st.us ((divL x).take k)) ((divL x).getD k dCk) - 1)) (fun j => if j < (decs st.us ((divL x).take k)).length then ub j else uc) (if (mget (decs st.us ((divL x).take k)) ((divL x).getD k dCk)).isSome = true then uc else uc + 1)) := by
     rw [hds]
     unfold decU
     rw [if_neg h0]
     exact AOEq.refl _
    refine ⟨(k + 1, _, _), [], (by show k + 1 ≤ (divL x).length; omega), by dsimp only; omega, rfl, rfl, rfl, rfl, rfl, ⟨rfl, wr (by omega) (by omega)⟩, ao⟩
  ·have hc := dnlt hc
   have hc : ((divL x).length : Int) ≤ (k : Nat) := hc
   have hte : (divL x).take k = divL x := List.take_of_length_le (by omega)
   repeat refine Or.inl ?_
   refine ⟨_, _, _, _, ⟨hk, rfl, hdel⟩, ?_⟩
   have aoU : AOEq (usO (dropS st 3 n x) ⟨ub, uc, upd B.fb 3 born', B.fc⟩) (mpB (fun c => .ag (ckA c)) (fun n => .i .i64 n) (dCk, 0) (decs st.us ((divL x).take k)) ub uc) := by
    rw [hte]
    exact AOEq.refl _
   exact ⟨⟨ub, uc, upd B.fb 3 born', B.fc⟩, [], hBk ub uc, ⟨⟨⟨rfl, rfl, AVEq.refl _⟩, trivial⟩, ⟨⟨rfl, rfl, rfl, ⟨rfl, AVsEq.refl _⟩⟩, ⟨rfl, rfl, trivial, aoU⟩, ⟨rfl, rfl, trivial, AOEq.refl _⟩, ⟨rfl, rfl, trivial, AOEq.refl _⟩, ⟨rfl, rfl, trivial, AOEq.refl _⟩, ⟨rfl, rfl, trivial, AOEq.refl _⟩, ⟨rfl, rfl, trivial, AOEq.refl _⟩, ⟨rfl, rfl, trivial, AOEq.refl _⟩, ⟨rfl, rfl, trivial, AOEq.refl _⟩, ⟨rfl, rfl, trivial, AOEq.refl _⟩, ⟨rfl, rfl, trivial, AOEq.refl _⟩, ⟨rfl, rfl, trivial, AOEq.refl _⟩, ⟨rfl, rfl, trivial, AOEq.refl _⟩, ⟨rfl, rfl, trivial, AOEq.refl _⟩, trivial⟩, rfl⟩, rfl, fun h => by cases h⟩
 ·refine Or.inr (Or.inr ?_)
  refine ⟨true, [0, 1, 2, 3, 4, 5, 6, 7, 8, 9, 10, 11, 12, 13], rfl, Unit, _, _, _, _, of_fn st B 4 (by decide), fun _ _ => ?_⟩
  repeat refine Or.inl ?_
  refine ⟨fun hc => (by cases hc), fun _ => ?_⟩
  repeat refine Or.inl ?_
  refine ⟨_, _, ⟨hk, rfl, hl⟩, ?_⟩
  repeat refine Or.inl ?_
  refine ⟨fun hc => (by cases hc), fun _ => ?_⟩
  repeat refine Or.inl ?_
  have ao0 : AOEq (mpB (fun c => .ag (ckA c)) (fun n => .i .i64 n) (dCk, 0) (decs st.us ((divL x).take 0)) B.ub B.uc) (usO st B) := AOEq.refl _
  refine ⟨[], Nat × (Nat → Nat) × Nat, fun p => p.1 ≤ (divL x).length, fun p => [⟨34, [], .i .i64 p.1⟩], fun p => [⟨1, [], mpB (fun c => .ag (ckA c)) (fun n => .i .i64 n) (dCk, 0) (decs st.us ((divL x).take p.1)) p.2.1 p.2.2⟩], fun p => (divL x).length - p.1,
   ⟨(0, B.ub, B.uc), [], Nat.zero_le _, rfl, rfl, rfl, rfl, rfl, ⟨rfl, rfl⟩, ao0⟩, ?_⟩
  rintro ⟨k, ub, uc⟩ hkl
  have hkl : k ≤ (divL x).length := hkl
  have hUk := hU.decs (divL x) k hkl
  refine .inl ⟨fun hc => ?_, fun hc => ?_⟩
  ·have hc := dlt hc
   have hc : (k : Int) < (divL x).length := hc
   have ek : ((k : Nat) : Int).toNat = k := Int.toNat_natCast _
   have hcb := hUk.2 ((divL x).getD k dCk)
   have hds := decs_snoc (L := st.us) (l := divL x) (k := k) (by omega)
   have hlk := lookU (decs st.us ((divL x).take k)) ((divL x).getD k dCk)
   have hup := updU (decs st.us ((divL x).take k)) ub uc ((divL x).getD k dCk) (cntU (decs st.us ((divL x).take k)) ((divL x).getD k dCk) - 1)
   have hlk2 := lookU (mset (decs st.us ((divL x).take k)) ((divL x).getD k dCk) (cntU (decs st.us ((divL x).take k)) ((divL x).getD k dCk) - 1)) ((divL x).getD k dCk)
   repeat refine Or.inl ?_
   refine ⟨⟨by omega, by omega⟩, ?_⟩
   have hbin : binI .sub .i64 (cntU (decs st.us ((divL x).take k)) ((divL x).getD k dCk)) 1 = some (.i .i64 (cntU (decs st.us ((divL x).take k)) ((divL x).getD k dCk) - 1)) := by
    show some (AV.i .i64 (IntKind.i64.wrap _)) = _
    rw [wr (by omega) (by omega)]
   refine ⟨(mget (decs st.us ((divL x).take k)) ((divL x).getD k dCk)).isSome, cntU (decs st.us ((divL x).take k)) ((divL x).getD k dCk), cntU (decs st.us ((divL x).take k)) ((divL x).getD k dCk) - 1, _, _, _, _, _, ⟨keysU _, rfl, hlk, hbin, hup⟩, ?_⟩
   repeat refine Or.inl ?_
   refine ⟨_, _, ⟨keysU _, rfl, hlk2⟩, ?_⟩
   have hL1 : cntU (mset (decs st.us ((divL x).take k)) ((divL x).getD k dCk) (cntU (decs st.us ((divL x).take k)) ((divL x).getD k dCk) - 1)) ((divL x).getD k dCk) = cntU (decs st.us ((divL x).take k)) ((divL x).getD k dCk) - 1 := by rw [cnt_mset, if_pos rfl]
   refine ⟨fun h0 => ?_, fun h0 => ?_⟩
   ·have h0 : (cntU (mset (decs st.us ((divL x).take k)) ((divL x).getD k dCk) (cntU (decs st.us ((divL x).take k)) ((divL x).getD k dCk) - 1)) ((divL x).getD k dCk) == 0) = true := h0
    rw [hL1, beq_iff_eq] at h0
    obtain ⟨bu, hdu, _⟩ := delM (kf := fun c : Chk => .ag (ckA c)) (vf := fun n : Int => .i .i64 n) (d := (dCk, 0)) (born := fun j => if j < (decs st.us ((divL x).take k)).length then ub j else uc) (clock := 0) (k := (divL x).getD k dCk) (L := mset (decs st.us ((divL x).take k)) ((divL x).getD k dCk) (cntU (decs st.us ((divL x).take k)) ((divL x).getD k dCk) - 1)) (by rw [mget_mset, if_pos rfl]; rfl)
    repeat refine Or.inl ?_
    refine ⟨_, _, _, _, ⟨keysU _, rfl, hdu⟩, ?_⟩
    have ao : AOEq (mpB (fun c => .ag (ckA c)) (fun n => .i .i64 n) (dCk, 0) (decs st.us ((divL x).take (k + 1))) bu (if (mget (decs st.us ((divL x).take k)) ((divL x).getD k dCk)).isSome = true then uc else uc + 1)) (mpB (fun c => .ag (ckA c)) (fun n => .i .i64 n) (dCk, 0) (mdel (mset (decs st.us ((divL x).take k)) ((divL x).getD k dCk) (cntU (decs st.us ((divL x).take k)) ((divL x).getD k dCk) - 1)) ((divL x).getD k dCk)) bu (if (mget (decs st.us ((divL x).take k)) ((divL x).getD k dCk)).isSome = true then uc else uc + 1)) := by
     rw [hds]
     unfold decU
     rw [if_pos h0]
     exact AOEq.refl _
    refine ⟨(k + 1, _, _), [], (by show k + 1 ≤ (divL x).length; omega), by dsimp only; omega, rfl, rfl, rfl, rfl, rfl, ⟨rfl, wr (by omega) (by omega)⟩, ao⟩
   ·have h0 : (cntU (mset (decs st.us ((divL x).take k)) ((divL x).getD k dCk) (cntU (decs st.us ((divL x).take k)) ((divL x).getD k dCk) - 1)) ((divL x).getD k dCk) == 0) = false := h0
    rw [hL1, beq_eq_false_iff_ne] at h0
    have ao : AOEq (mpB (fun c => .ag (ckA c)) (fun n => .i .i64 n) (dCk, 0) (decs st.us ((divL x).take (k + 1))) (fun j => if j < (decs st.us ((divL x).take k)).length then ub j else uc) (if (mget (decs st.us ((divL x).take k)) ((divL x).getD k dCk)).isSome = true then uc else uc + 1)) (mpB (fun c => .ag (ckA c)) (fun n => .i .i64 n) (dCk, 0) (mset (decs st.us ((divL x).take k)) ((divL x).getD k dCk) (cntU (decs st.us ((divL x).take k)) ((divL x).getD k dCk) - 1)) (fun j => if j < (decs st.us ((divL x).take k)).length then ub j else uc) (if (mget (decs st.us ((divL x).take k)) ((divL x).getD k dCk)).isSome = true then uc else uc + 1)) := by
     rw [hds]
     unfold decU
     rw [if_neg h0]
     exact AOEq.refl _
    refine ⟨(k + 1, _, _), [], (by show k + 1 ≤ (divL x).length; omega), by dsimp only; omega, rfl, rfl, rfl, rfl, rfl, ⟨rfl, wr (by omega) (by omega)⟩, ao⟩
  ·have hc := dnlt hc
   have hc : ((divL x).length : Int) ≤ (k : Nat) := hc
   have hte : (divL x).take k = divL x := List.take_of_length_le (by omega)
   repeat refine Or.inl ?_
   refine ⟨_, _, _, _, ⟨hk, rfl, hdel⟩, ?_⟩
   have aoU : AOEq (usO (dropS st 4 n x) ⟨ub, uc, upd B.fb 4 born', B.fc⟩) (mpB (fun c => .ag (ckA c)) (fun n => .i .i64 n) (dCk, 0) (decs st.us ((divL x).take k)) ub uc) := by
    rw [hte]
    exact AOEq.refl _
   exact ⟨⟨ub, uc, upd B.fb 4 born', B.fc⟩, [], hBk ub uc, ⟨⟨⟨rfl, rfl, AVEq.refl _⟩, trivial⟩, ⟨⟨rfl, rfl, rfl, ⟨rfl, AVsEq.refl _⟩⟩, ⟨rfl, rfl, trivial, aoU⟩, ⟨rfl, rfl, trivial, AOEq.refl _⟩, ⟨rfl, rfl, trivial, AOEq.refl _⟩, ⟨rfl, rfl, trivial, AOEq.refl _⟩, ⟨rfl, rfl, trivial, AOEq.refl _⟩, ⟨rfl, rfl, trivial, AOEq.refl _⟩, ⟨rfl, rfl, trivial, AOEq.refl _⟩, ⟨rfl, rfl, trivial, AOEq.refl _⟩, ⟨rfl, rfl, trivial, AOEq.refl _⟩, ⟨rfl, rfl, trivial, AOEq.refl _⟩, ⟨rfl, rfl, trivial, AOEq.refl _⟩, ⟨rfl, rfl, trivial, AOEq.refl _⟩, ⟨rfl, rfl, trivial, AOEq.refl _⟩, trivial⟩, rfl⟩, rfl, fun h => by cases h⟩
 ·refine Or.inr (Or.inr ?_)
  refine ⟨true, [0, 1, 2, 3, 4, 5, 6, 7, 8, 9, 10, 11, 12, 13], rfl, Unit, _, _, _, _, of_fn st B 5 (by decide), fun _ _ => ?_⟩
  repeat refine Or.inl ?_
  refine ⟨fun hc => (by cases hc), fun _ => ?_⟩
  repeat refine Or.inl ?_
  refine ⟨_, _, ⟨hk, rfl, hl⟩, ?_⟩
  repeat refine Or.inl ?_
  refine ⟨fun hc => (by cases hc), fun _ => ?_⟩
  repeat refine Or.inl ?_
  have ao0 : AOEq (mpB (fun c => .ag (ckA c)) (fun n => .i .i64 n) (dCk, 0) (decs st.us ((divL x).take 0)) B.ub B.uc) (usO st B) := AOEq.refl _
  refine ⟨[], Nat × (Nat → Nat) × Nat, fun p => p.1 ≤ (divL x).length, fun p => [⟨34, [], .i .i64 p.1⟩], fun p => [⟨1, [], mpB (fun c => .ag (ckA c)) (fun n => .i .i64 n) (dCk, 0) (decs st.us ((divL x).take p.1)) p.2.1 p.2.2⟩], fun p => (divL x).length - p.1,
   ⟨(0, B.ub, B.uc), [], Nat.zero_le _, rfl, rfl, rfl, rfl, rfl, ⟨rfl, rfl⟩, ao0⟩, ?_⟩
  rintro ⟨k, ub, uc⟩ hkl
  have hkl : k ≤ (divL x).length := hkl
  have hUk := hU.decs (divL x) k hkl
  refine .inl ⟨fun hc => ?_, fun hc => ?_⟩
  ·have hc := dlt hc
   have hc : (k : Int) < (divL x).length := hc
   have ek : ((k : Nat) : Int).toNat = k := Int.toNat_natCast _
   have hcb := hUk.2 ((divL x).getD k dCk)
   have hds := decs_snoc (L := st.us) (l := divL x) (k := k) (by omega)
   have hlk := lookU (decs st.us ((divL x).take k)) ((divL x).getD k dCk)
   have hup := updU (decs st.us ((divL x).take k)) ub uc ((divL x).getD k dCk) (cntU (decs st.us ((divL x).take k)) ((divL x).getD k dCk) - 1)
   have hlk2 := lookU (mset (decs st.us ((divL x).take k)) ((divL x).getD k dCk) (cntU (decs st.us ((divL x).take k)) ((divL x).getD k dCk) - 1)) ((divL x).getD k dCk)
   repeat refine Or.inl ?_
   refine ⟨⟨by omega, by omega⟩, ?_⟩
   have hbin : binI .sub .i64 (cntU (decs st.us ((divL x).take k)) ((divL x).getD k dCk)) 1 = some (.i .i64 (cntU (decs st.us ((divL x).take k)) ((divL x).getD k dCk) - 1)) := by
    show some (AV.i .i64 (IntKind.i64.wrap _)) = _
    rw [wr (by omega) (by omega)]
   refine ⟨(mget (decs st.us ((divL x).take k)) ((divL x).getD k dCk)).isSome, cntU (decs st.us ((divL x).take k)) ((divL x).getD k dCk), cntU (decs st.us ((divL x).take k)) ((divL x).getD k dCk) - 1, _, _, _, _, _, ⟨keysU _, rfl, hlk, hbin, hup⟩, ?_⟩
   repeat refine Or.inl ?_
   refine ⟨_, _, ⟨keysU _, rfl, hlk2⟩, ?_⟩
   have hL1 : cntU (mset (decs st.us ((divL x).take k)) ((divL x).getD k dCk) (cntU (decs st.us ((divL x).take k)) ((divL x).getD k dCk) - 1)) ((divL x).getD k dCk) = cntU (decs st.us ((divL x).take k)) ((divL x).getD k dCk) - 1 := by rw [cnt_mset, if_pos rfl]
   refine ⟨fun h0 => ?_, fun h0 => ?_⟩
   ·have h0 : (cntU (mset (decs st.us ((divL x).take k)) ((divL x).getD k dCk) (cntU (decs st.us ((divL x).take k)) ((divL x).getD k dCk) - 1)) ((divL x).getD k dCk) == 0) = true := h0
    rw [hL1, beq_iff_eq] at h0
    obtain ⟨bu, hdu, _⟩ := delM (kf := fun c : Chk => .ag (ckA c)) (vf := fun n : Int => .i .i64 n) (d := (dCk, 0)) (born := fun j => if j < (decs st.us ((divL x).take k)).length then ub j else uc) (clock := 0) (k := (divL x).getD k dCk) (L := mset (decs st.us ((divL x).take k)) ((divL x).getD k dCk) (cntU (decs st.us ((divL x).take k)) ((divL x).getD k dCk) - 1)) (by rw [mget_mset, if_pos rfl]; rfl)
    repeat refine Or.inl ?_
    refine ⟨_, _, _, _, ⟨keysU _, rfl, hdu⟩, ?_⟩
    have ao : AOEq (mpB (fun c => .ag (ckA c)) (fun n => .i .i64 n) (dCk, 0) (decs st.us ((divL x).take (k + 1))) bu (if (mget (decs st.us ((divL x).take k)) ((divL x).getD k dCk)).isSome = true then uc else uc + 1)) (mpB (fun c => .ag (ckA c)) (fun n => .i .i64 n) (dCk, 0) (mdel (mset (decs st.us ((divL x).take k)) ((divL x).getD k dCk) (cntU (decs st.us ((divL x).take k)) ((divL x).getD k dCk) - 1)) ((divL x).getD k dCk)) bu (if (mget (decs st.us ((divL x).take k)) ((divL x).getD k dCk)).isSome = true then uc else uc + 1)) := by
     rw [hds]
     unfold decU
     rw [if_pos h0]
     exact AOEq.refl _
    refine ⟨(k + 1, _, _), [], (by show k + 1 ≤ (divL x).length; omega), by dsimp only; omega, rfl, rfl, rfl, rfl, rfl, ⟨rfl, wr (by omega) (by omega)⟩, ao⟩
   ·have h0 : (cntU (mset (decs st.us ((divL x).take k)) ((divL x).getD k dCk) (cntU (decs st.us ((divL x).take k)) ((divL x).getD k dCk) - 1)) ((divL x).getD k dCk) == 0) = false := h0
    rw [hL1, beq_eq_false_iff_ne] at h0
    have ao : AOEq (mpB (fun c => .ag (ckA c)) (fun n => .i .i64 n) (dCk, 0) (decs st.us ((divL x).take (k + 1))) (fun j => if j < (decs st.us ((divL x).take k)).length then ub j else uc) (if (mget (decs st.us ((divL x).take k)) ((divL x).getD k dCk)).isSome = true then uc else uc + 1)) (mpB (fun c => .ag (ckA c)) (fun n => .i .i64 n) (dCk, 0) (mset (decs st.us ((divL x).take k)) ((divL x).getD k dCk) (cntU (decs st.us ((divL x).take k)) ((divL x).getD k dCk) - 1)) (fun j => if j < (decs st.us ((divL x).take k)).length then ub j else uc) (if (mget (decs st.us ((divL x).take k)) ((divL x).getD k dCk)).isSome = true then uc else uc + 1)) := by
     rw [hds]
     unfold decU
     rw [if_neg h0]
     exact AOEq.refl _
    refine ⟨(k + 1, _, _), [], (by show k + 1 ≤ (divL x).length; omega), by dsimp only; omega, rfl, rfl, rfl, rfl, rfl, ⟨rfl, wr (by omega) (by omega)⟩, ao⟩
  ·have hc := dnlt hc
   have hc : ((divL x).length : Int) ≤ (k : Nat) := hc
   have hte : (divL x).take k = divL x := List.take_of_length_le (by omega)
   repeat refine Or.inl ?_
   refine ⟨_, _, _, _, ⟨hk, rfl, hdel⟩, ?_⟩
   have aoU : AOEq (usO (dropS st 5 n x) ⟨ub, uc, upd B.fb 5 born', B.fc⟩) (mpB (fun c => .ag (ckA c)) (fun n => .i .i64 n) (dCk, 0) (decs st.us ((divL x).take k)) ub uc) := by
    rw [hte]
    exact AOEq.refl _
   exact ⟨⟨ub, uc, upd B.fb 5 born', B.fc⟩, [], hBk ub uc, ⟨⟨⟨rfl, rfl, AVEq.refl _⟩, trivial⟩, ⟨⟨rfl, rfl, rfl, ⟨rfl, AVsEq.refl _⟩⟩, ⟨rfl, rfl, trivial, aoU⟩, ⟨rfl, rfl, trivial, AOEq.refl _⟩, ⟨rfl, rfl, trivial, AOEq.refl _⟩, ⟨rfl, rfl, trivial, AOEq.refl _⟩, ⟨rfl, rfl, trivial, AOEq.refl _⟩, ⟨rfl, rfl, trivial, AOEq.refl _⟩, ⟨rfl, rfl, trivial, AOEq.refl _⟩, ⟨rfl, rfl, trivial, AOEq.refl _⟩, ⟨rfl, rfl, trivial, AOEq.refl _⟩, ⟨rfl, rfl, trivial, AOEq.refl _⟩, ⟨rfl, rfl, trivial, AOEq.refl _⟩, ⟨rfl, rfl, trivial, AOEq.refl _⟩, ⟨rfl, rfl, trivial, AOEq.refl _⟩, trivial⟩, rfl⟩, rfl, fun h => by cases h⟩
 ·refine Or.inr (Or.inr ?_)
  refine ⟨true, [0, 1, 2, 3, 4, 5, 6, 7, 8, 9, 10, 11, 12, 13], rfl, Unit, _, _, _, _, of_fn st B 6 (by decide), fun _ _ => ?_⟩
  repeat refine Or.inl ?_
  refine ⟨fun hc => (by cases hc), fun _ => ?_⟩
  repeat refine Or.inl ?_
  refine ⟨_, _, ⟨hk, rfl, hl⟩, ?_⟩
  repeat refine Or.inl ?_
  refine ⟨fun hc => (by cases hc), fun _ => ?_⟩
  repeat refine Or.inl ?_
  have ao0 : AOEq (mpB (fun c => .ag (ckA c)) (fun n => .i .i64 n) (dCk, 0) (decs st.us ((divL x).take 0)) B.ub B.uc) (usO st B) := AOEq.refl _
  refine ⟨[], Nat × (Nat → Nat) × Nat, fun p => p.1 ≤ (divL x).length, fun p => [⟨34, [], .i .i64 p.1⟩], fun p => [⟨1, [], mpB (fun c => .ag (ckA c)) (fun n => .i .i64 n) (dCk, 0) (decs st.us ((divL x).take p.1)) p.2.1 p.2.2⟩], fun p => (divL x).length - p.1,
   ⟨(0, B.ub, B.uc), [], Nat.zero_le _, rfl, rfl, rfl, rfl, rfl, ⟨rfl, rfl⟩, ao0⟩, ?_⟩
  rintro ⟨k, ub, uc⟩ hkl
  have hkl : k ≤ (divL x).length := hkl
  have hUk := hU.decs (divL x) k hkl
  refine .inl ⟨fun hc => ?_, fun hc => ?_⟩
  ·have hc := dlt hc
   have hc : (k : Int) < (divL x).length := hc
   have ek : ((k : Nat) : Int).toNat = k := Int.toNat_natCast _
   have hcb := hUk.2 ((divL x).getD k dCk)
   have hds := decs_snoc (L := st.us) (l := divL x) (k := k) (by omega)
   have hlk := lookU (decs st.us ((divL x).take k)) ((divL x).getD k dCk)
   have hup := updU (decs st.us ((divL x).take k)) ub uc ((divL x).getD k dCk) (cntU (decs st.us ((divL x).take k)) ((divL x).getD k dCk) - 1)
   have hlk2 := lookU (mset (decs st.us ((divL x).take k)) ((divL x).getD k dCk) (cntU (decs st.us ((divL x).take k)) ((divL x).getD k dCk) - 1)) ((divL x).getD k dCk)
   repeat refine Or.inl ?_
   refine ⟨⟨by omega, by omega⟩, ?_⟩
   have hbin : binI .sub .i64 (cntU (decs st.us ((divL x).take k)) ((divL x).getD k dCk)) 1 = some (.i .i64 (cntU (decs st.us ((divL x).take k)) ((divL x).getD k dCk) - 1)) := by
    show some (AV.i .i64 (IntKind.i64.wrap _)) = _
    rw [wr (by omega) (by omega)]
   refine ⟨(mget (decs st.us ((divL x).take k)) ((divL x).getD k dCk)).isSome, cntU (decs st.us ((divL x).take k)) ((divL x).getD k dCk), cntU (decs st.us ((divL x).take k)) ((divL x).getD k dCk) - 1, _, _, _, _, _, ⟨keysU _, rfl, hlk, hbin, hup⟩, ?_⟩
   repeat refine Or.inl ?_
   refine ⟨_, _, ⟨keysU _, rfl, hlk2⟩, ?_⟩
   have hL1 : cntU (mset (decs st.us ((divL x).take k)) ((divL x).getD k dCk) (cntU (decs st.us ((divL x).take k)) ((divL x).getD k dCk) - 1)) ((divL x).getD k dCk) = cntU (decs st.us ((divL x).take k)) ((divL x).getD k dCk) - 1 := by rw [cnt_mset, if_pos rfl]
   refine ⟨fun h0 => ?_, fun h0 => ?_⟩
   ·have h0 : (cntU (mset (decs st.us ((divL x).take k)) ((divL x).getD k dCk) (cntU (decs st.us ((divL x).take k)) ((divL x).getD k dCk) - 1)) ((divL x).getD k dCk) == 0) = true := h0
    rw [hL1, beq_iff_eq] at h0
    obtain ⟨bu, hdu, _⟩ := delM (kf := fun c : Chk => .ag (ckA c)) (vf := fun n : Int => .i .i64 n) (d := (dCk, 0)) (born := fun j => if j < (decs st.us ((divL x).take k)).length then ub j else uc) (clock := 0) (k := (divL x).getD k dCk) (L := mset (decs st.us ((divL x).take k)) ((divL x).getD k dCk) (cntU (decs st.us ((divL x).take k)) ((divL x).getD k dCk) - 1)) (by rw [mget_mset, if_pos rfl]; rfl)
    repeat refine Or.inl ?_
    refine ⟨_, _, _, _, ⟨keysU _, rfl, hdu⟩, ?_⟩
    have ao : AOEq (mpB (fun c => .ag (ckA c)) (fun n => .i .i64 n) (dCk, 0) (decs st.us ((divL x).take (k + 1))) bu (if (mget (decs st.us ((divL x).take k)) ((divL x).getD k dCk)).isSome = true then uc else uc + 1)) (mpB (fun c => .ag (ckA c)) (fun n => .i .i64 n) (dCk, 0) (mdel (mset (decs st.us ((divL x).take k)) ((divL x).getD k dCk) (cntU (decs st.us ((divL x).take k)) ((divL x).getD k dCk) - 1)) ((divL x).getD k dCk)) bu (if (mget (decs st.us ((divL x).take k)) ((divL x).getD k dCk)).isSome = true then uc else uc + 1)) := by
     rw [hds]
     unfold decU
     rw [if_pos h0]
     exact AOEq.refl _
    refine ⟨(k + 1, _, _), [], (by show k + 1 ≤ (divL x).length; omega), by dsimp only; omega, rfl, rfl, rfl, rfl, rfl, ⟨rfl, wr (by omega) (by omega)⟩, ao⟩
   ·have h0 : (cntU (mset (decs st.us ((divL x).take k)) ((divL x).getD k dCk) (cntU (decs st.us ((divL x).take k)) ((divL x).getD k dCk) - 1)) ((divL x).getD k dCk) == 0) = false := h0
    rw [hL1, beq_eq_false_iff_ne] at h0
    have ao : AOEq (mpB (fun c => .ag (ckA c)) (fun n => .i .i64 n) (dCk, 0) (decs st.us ((divL x).take (k + 1))) (fun j => if j < (decs st.us ((divL x).take k)).length then ub j else uc) (if (mget (decs st.us ((divL x).take k)) ((divL x).getD k dCk)).isSome = true then uc else uc + 1)) (mpB (fun c => .ag (ckA c)) (fun n => .i .i64 n) (dCk, 0) (mset (decs st.us ((divL x).take k)) ((divL x).getD k dCk) (cntU (decs st.us ((divL x).take k)) ((divL x).getD k dCk) - 1)) (fun j => if j < (decs st.us ((divL x).take k)).length then ub j else uc) (if (mget (decs st.us ((divL x).take k)) ((divL x).getD k dCk)).isSome = true then uc else uc + 1)) := by
     rw [hds]
     unfold decU
     rw [if_neg h0]
     exact AOEq.refl _
    refine ⟨(k + 1, _, _), [], (by show k + 1 ≤ (divL x).length; omega), by dsimp only; omega, rfl, rfl, rfl, rfl, rfl, ⟨rfl, wr (by omega) (by omega)⟩, ao⟩
  ·have hc := dnlt hc
   have hc : ((divL x).length : Int) ≤ (k : Nat) := hc
   have hte : (divL x).take k = divL x := List.take_of_length_le (by omega)
   repeat refine Or.inl ?_
   refine ⟨_, _, _, _, ⟨hk, rfl, hdel⟩, ?_⟩
   have aoU : AOEq (usO (dropS st 6 n x) ⟨ub, uc, upd B.fb 6 born', B.fc⟩) (mpB (fun c => .ag (ckA c)) (fun n => .i .i64 n) (dCk, 0) (decs st.us ((divL x).take k)) ub uc) := by
    rw [hte]
    exact AOEq.refl _
   exact ⟨⟨ub, uc, upd B.fb 6 born', B.fc⟩, [], hBk ub uc, ⟨⟨⟨rfl, rfl, AVEq.refl _⟩, trivial⟩, ⟨⟨rfl, rfl, rfl, ⟨rfl, AVsEq.refl _⟩⟩, ⟨rfl, rfl, trivial, aoU⟩, ⟨rfl, rfl, trivial, AOEq.refl _⟩, ⟨rfl, rfl, trivial, AOEq.refl _⟩, ⟨rfl, rfl, trivial, AOEq.refl _⟩, ⟨rfl, rfl, trivial, AOEq.refl _⟩, ⟨rfl, rfl, trivial, AOEq.refl _⟩, ⟨rfl, rfl, trivial, AOEq.refl _⟩, ⟨rfl, rfl, trivial, AOEq.refl _⟩, ⟨rfl, rfl, trivial, AOEq.refl _⟩, ⟨rfl, rfl, trivial, AOEq.refl _⟩, ⟨rfl, rfl, trivial, AOEq.refl _⟩, ⟨rfl, rfl, trivial, AOEq.refl _⟩, ⟨rfl, rfl, trivial, AOEq.refl _⟩, trivial⟩, rfl⟩, rfl, fun h => by cases h⟩
 ·refine Or.inr (Or.inr ?_)
  refine ⟨true, [0, 1, 2, 3, 4, 5, 6, 7, 8, 9, 10, 11, 12, 13], rfl, Unit, _, _, _, _, of_fn st B 7 (by decide), fun _ _ => ?_⟩
  repeat refine Or.inl ?_
  refine ⟨fun hc => (by cases hc), fun _ => ?_⟩
  repeat refine Or.inl ?_
  refine ⟨_, _, ⟨hk, rfl, hl⟩, ?_⟩
  repeat refine Or.inl ?_
  refine ⟨fun hc => (by cases hc), fun _ => ?_⟩
  repeat refine Or.inl ?_
  have ao0 : AOEq (mpB (fun c => .ag (ckA c)) (fun n => .i .i64 n) (dCk, 0) (decs st.us ((divL x).take 0)) B.ub B.uc) (usO st B) := AOEq.refl _
  refine ⟨[], Nat × (Nat → Nat) × Nat, fun p => p.1 ≤ (divL x).length, fun p => [⟨34, [], .i .i64 p.1⟩], fun p => [⟨1, [], mpB (fun c => .ag (ckA c)) (fun n => .i .i64 n) (dCk, 0) (decs st.us ((divL x).take p.1)) p.2.1 p.2.2⟩], fun p => (divL x).length - p.1,
   ⟨(0, B.ub, B.uc), [], Nat.zero_le _, rfl, rfl, rfl, rfl, rfl, ⟨rfl, rfl⟩, ao0⟩, ?_⟩
  rintro ⟨k, ub, uc⟩ hkl
  have hkl : k ≤ (divL x).length := hkl
  have hUk := hU.decs (divL x) k hkl
  refine .inl ⟨fun hc => ?_, fun hc => ?_⟩
  ·have hc := dlt hc
   have hc : (k : Int) < (divL x).length := hc
   have ek : ((k : Nat) : Int).toNat = k := Int.toNat_natCast _
   have hcb := hUk.2 ((divL x).getD k dCk)
   have hds := decs_snoc (L := st.us) (l := divL x) (k := k) (by omega)
   have hlk := lookU (decs st.us ((divL x).take k)) ((divL x).getD k dCk)
   have hup := updU (decs st.us ((divL x).take k)) ub uc ((divL x).getD k dCk) (cntU (decs st.us ((divL x).take k)) ((divL x).getD k dCk) - 1)
   have hlk2 := lookU (mset (decs st.us ((divL x).take k)) ((divL x).getD k dCk) (cntU (decs st.us ((divL x).take k)) ((divL x).getD k dCk) - 1)) ((divL x).getD k dCk)
   repeat refine Or.inl ?_
   refine ⟨⟨by omega, by omega⟩, ?_⟩
   have hbin : binI .sub .i64 (cntU (decs st.us ((divL x).take k)) ((divL x).getD k dCk)) 1 = some (.i .i64 (cntU (decs st.us ((divL x).take k)) ((divL x).getD k dCk) - 1)) := by
    show some (AV.i .i64 (IntKind.i64.wrap _)) = _
    rw [wr (by omega) (by omega)]
   refine ⟨(mget (decs st.us ((divL x).take k)) ((divL x).getD k dCk)).isSome, cntU (decs st.us ((divL x).take k)) ((divL x).getD k dCk), cntU (decs st.us ((divL x).take k)) ((divL x).getD k dCk) - 1, _, _, _, _, _, ⟨keysU _, rfl, hlk, hbin, hup⟩, ?_⟩
   repeat refine Or.inl ?_
   refine ⟨_, _, ⟨keysU _, rfl, hlk2⟩, ?_⟩
   have hL1 : cntU (mset (decs st.us ((divL x).take k)) ((divL x).getD k dCk) (cntU (decs st.us ((divL x).take k)) ((divL x).getD k dCk) - 1)) ((divL x).getD k dCk) = cntU (decs st.us ((divL x).take k)) ((divL x).getD k dCk) - 1 := by rw [cnt_mset, if_pos rfl]
   refine ⟨fun h0 => ?_, fun h0 => ?_⟩
   ·have h0 : (cntU (mset (decs st.us ((divL x).take k)) ((divL x).getD k dCk) (cntU (decs st.us ((divL x).take k)) ((divL x).getD k dCk) - 1)) ((divL x).getD k dCk) == 0) = true := h0
    rw [hL1, beq_iff_eq] at h0
    obtain ⟨bu, hdu, _⟩ := delM (kf := fun c : Chk => .ag (ckA c)) (vf := fun n : Int => .i .i64 n) (d := (dCk, 0)) (born := fun j => if j < (decs st.us ((divL x).take k)).length then ub j else uc) (clock := 0) (k := (divL x).getD k dCk) (L := mset (decs st.us ((divL x).take k)) ((divL x).getD k dCk) (cntU (decs st.us ((divL x).take k)) ((divL x).getD k dCk) - 1)) (by rw [mget_mset, if_pos rfl]; rfl)
    repeat refine Or.inl ?_
    refine ⟨_, _, _, _, ⟨keysU _, rfl, hdu⟩, ?_⟩
    have ao : AOEq (mpB (fun c => .ag (ckA c)) (fun n => .i .i64 n) (dCk, 0) (decs st.us ((divL x).take (k + 1))) bu (if (mget (decs st.us ((divL x).take k)) ((divL x).getD k dCk)).isSome = true then uc else uc + 1)) (mpB (fun c => .ag (ckA c)) (fun n => .i .i64 n) (dCk, 0) (mdel (mset (decs st.us ((divL x).take k)) ((divL x).getD k dCk) (cntU (decs st.us ((divL x).take k)) ((divL x).getD k dCk) - 1)) ((divL x).getD k dCk)) bu (if (mget (decs st.us ((divL x).take k)) ((divL x).getD k dCk)).isSome = true then uc else uc + 1)) := by
     rw [hds]
     unfold decU
     rw [if_pos h0]
     exact AOEq.refl _
    refine ⟨(k + 1, _, _), [], (by show k + 1 ≤ (divL x).length; omega), by dsimp only; omega, rfl, rfl, rfl, rfl, rfl, ⟨rfl, wr (by omega) (by omega)⟩, ao⟩
   ·have h0 : (cntU (mset (decs st.us ((divL x).take k)) ((divL x).getD k dCk) (cntU (decs st.us ((divL x).take k)) ((divL x).getD k dCk) - 1)) ((divL x).getD k dCk) == 0) = false := h0
    rw [hL1, beq_eq_false_iff_ne] at h0
    have ao : AOEq (mpB (fun c => .ag (ckA c)) (fun n => .i .i64 n) (dCk, 0) (decs st.us ((divL x).take (k + 1))) (fun j => if j < (decs st.us ((divL x).take k)).length then ub j else uc) (if (mget (decs st.us ((divL x).take k)) ((divL x).getD k dCk)).isSome = true then uc else uc + 1)) (mpB (fun c => .ag (ckA c)) (fun n => .i .i64 n) (dCk, 0) (mset (decs st.us ((divL x).take k)) ((divL x).getD k dCk) (cntU (decs st.us ((divL x).take k)) ((divL x).getD k dCk) - 1)) (fun j => if j < (decs st.us ((divL x).take k)).length then ub j else uc) (if (mget (decs st.us ((divL x).take k)) ((divL x).getD k dCk)).isSome = true then uc else uc + 1)) := by
     rw [hds]
     unfold decU
     rw [if_neg h0]
     exact AOEq.refl _
    refine ⟨(k + 1, _, _), [], (by show k + 1 ≤ (divL x).length; omega), by dsimp only; omega, rfl, rfl, rfl, rfl, rfl, ⟨rfl, wr (by omega) (by omega)⟩, ao⟩
  ·have hc := dnlt hc
   have hc : ((divL x).length : Int) ≤ (k : Nat) := hc
   have hte : (divL x).take k = divL x := List.take_of_length_le (by omega)
   repeat refine Or.inl ?_
   refine ⟨_, _, _, _, ⟨hk, rfl, hdel⟩, ?_⟩
   have aoU : AOEq (usO (dropS st 7 n x) ⟨ub, uc, upd B.fb 7 born', B.fc⟩) (mpB (fun c => .ag (ckA c)) (fun n => .i .i64 n) (dCk, 0) (decs st.us ((divL x).take k)) ub uc) := by
    rw [hte]
    exact AOEq.refl _
   exact ⟨⟨ub, uc, upd B.fb 7 born', B.fc⟩, [], hBk ub uc, ⟨⟨⟨rfl, rfl, AVEq.refl _⟩, trivial⟩, ⟨⟨rfl, rfl, rfl, ⟨rfl, AVsEq.refl _⟩⟩, ⟨rfl, rfl, trivial, aoU⟩, ⟨rfl, rfl, trivial, AOEq.refl _⟩, ⟨rfl, rfl, trivial, AOEq.refl _⟩, ⟨rfl, rfl, trivial, AOEq.refl _⟩, ⟨rfl, rfl, trivial, AOEq.refl _⟩, ⟨rfl, rfl, trivial, AOEq.refl _⟩, ⟨rfl, rfl, trivial, AOEq.refl _⟩, ⟨rfl, rfl, trivial, AOEq.refl _⟩, ⟨rfl, rfl, trivial, AOEq.refl _⟩, ⟨rfl, rfl, trivial, AOEq.refl _⟩, ⟨rfl, rfl, trivial, AOEq.refl _⟩, ⟨rfl, rfl, trivial, AOEq.refl _⟩, ⟨rfl, rfl, trivial, AOEq.refl _⟩, trivial⟩, rfl⟩, rfl, fun h => by cases h⟩
 ·refine Or.inr (Or.inr ?_)
  refine ⟨true, [0, 1, 2, 3, 4, 5, 6, 7, 8, 9, 10, 11, 12, 13], rfl, Unit, _, _, _, _, of_fn st B 8 (by decide), fun _ _ => ?_⟩
  repeat refine Or.inl ?_
  refine ⟨fun hc => (by cases hc), fun _ => ?_⟩
  repeat refine Or.inl ?_
  refine ⟨_, _, ⟨hk, rfl, hl⟩, ?_⟩
  repeat refine Or.inl ?_
  refine ⟨fun hc => (by cases hc), fun _ => ?_⟩
  repeat refine Or.inl ?_
  have ao0 : AOEq (mpB (fun c => .ag (ckA c)) (fun n => .i .i64 n) (dCk, 0) (decs st.us ((divL x).take 0)) B.ub B.uc) (usO st B) := AOEq.refl _
  refine ⟨[], Nat × (Nat → Nat) × Nat, fun p => p.1 ≤ (divL x).length, fun p => [⟨34, [], .i .i64 p.1⟩], fun p => [⟨1, [], mpB (fun c => .ag (ckA c)) (fun n => .i .i64 n) (dCk, 0) (decs st.us ((divL x).take p.1)) p.2.1 p.2.2⟩], fun p => (divL x).length - p.1,
   ⟨(0, B.ub, B.uc), [], Nat.zero_le _, rfl, rfl, rfl, rfl, rfl, ⟨rfl, rfl⟩, ao0⟩, ?_⟩
  rintro ⟨k, ub, uc⟩ hkl
  have hkl : k ≤ (divL x).length := hkl
  have hUk := hU.decs (divL x) k hkl
  refine .inl ⟨fun hc => ?_, fun hc => ?_⟩
  ·have hc := dlt hc
   have hc : (k : Int) < (divL x).length := hc
   have ek : ((k : Nat) : Int).toNat = k := Int.toNat_natCast _
   have hcb := hUk.2 ((divL x).getD k dCk)
   have hds := decs_snoc (L := st.us) (l := divL x) (k := k) (by omega)
   have hlk := lookU (decs st.us ((divL x).take k)) ((divL x).getD k dCk)
   have hup := updU (decs st.us ((divL x).take k)) ub uc ((divL x).getD k dCk) (cntU (decs st.us ((divL x).take k)) ((divL x).getD k dCk) - 1)
   have hlk2 := lookU (mset (decs st.us ((divL x).take k)) ((divL x).getD k dCk) (cntU (decs st.us ((divL x).take k)) ((divL x).getD k dCk) - 1)) ((divL x).getD k dCk)
   repeat refine Or.inl ?_
   refine ⟨⟨by omega, by omega⟩, ?_⟩
   have hbin : binI .sub .i64 (cntU (decs st.us ((divL x).take k)) ((divL x).getD k dCk)) 1 = some (.i .i64 (cntU (decs st.us ((divL x).take k)) ((divL x).getD k dCk) - 1)) := by
    show some (AV.i .i64 (IntKind.i64.wrap _)) = _
    rw [wr (by omega) (by omega)]
   refine ⟨(mget (decs st.us ((divL x).take k)) ((divL x).getD k dCk)).isSome, cntU (decs st.us ((divL x).take k)) ((divL x).getD k dCk), cntU (decs st.us ((divL x).take k)) ((divL x).getD k dCk) - 1, _, _, _, _, _, ⟨keysU _, rfl, hlk, hbin, hup⟩, ?_⟩
   repeat refine Or.inl ?_
   refine ⟨_, _, ⟨keysU _, rfl, hlk2⟩, ?_⟩
   have hL1 : cntU (mset (decs st.us ((divL x).take k)) ((divL x).getD k dCk) (cntU (decs st.us ((divL x).take k)) ((divL x).getD k dCk) - 1)) ((divL x).getD k dCk) = cntU (decs st.us ((divL x).take k)) ((divL x).getD k dCk) - 1 := by rw [cnt_mset, if_pos rfl]
   refine ⟨fun h0 => ?_, fun h0 => ?_⟩
   ·have h0 : (cntU (mset (decs st.us ((divL x).take k)) ((divL x).getD k dCk) (cntU (decs st.us ((divL x).take k)) ((divL x).getD k dCk) - 1)) ((divL x).getD k dCk) == 0) = true := h0
    rw [hL1, beq_iff_eq] at h0
    obtain ⟨bu, hdu, _⟩ := delM (kf := fun c : Chk => .ag (ckA c)) (vf := fun n : Int => .i .i64 n) (d := (dCk, 0)) (born := fun j => if j < (decs st.us ((divL x).take k)).length then ub j else uc) (clock := 0) (k := (divL x).getD k dCk) (L := mset (decs st.us ((divL x).take k)) ((divL x).getD k dCk) (cntU (decs st.us ((divL x).take k)) ((divL x).getD k dCk) - 1)) (by rw [mget_mset, if_pos rfl]; rfl)
    repeat refine Or.inl ?_
    refine ⟨_, _, _, _, ⟨keysU _, rfl, hdu⟩, ?_⟩
    have ao : AOEq (mpB (fun c => .ag (ckA c)) (fun n => .i .i64 n) (dCk, 0) (decs st.us ((divL x).take (k + 1))) bu (if (mget (decs st.us ((divL x).take k)) ((divL x).getD k dCk)).isSome = true then uc else uc + 1)) (mpB (fun c => .ag (ckA c)) (fun n => .i .i64 n) (dCk, 0) (mdel (mset (decs st.us ((divL x).take k)) ((divL x).getD k dCk) (cntU (decs st.us ((divL x).take k)) ((divL x).getD k dCk) - 1)) ((divL x).getD k dCk)) bu (if (mget (decs st.us ((divL x).take k)) ((divL x).getD k dCk)).isSome = true then uc else uc + 1)) := by
     rw [hds]
     unfold decU
     rw [if_pos h0]
     exact AOEq.refl _
    refine ⟨(k + 1, _, _), [], (by show k + 1 ≤ (divL x).length; omega), by dsimp only; omega, rfl, rfl, rfl, rfl, rfl, ⟨rfl, wr (by omega) (by omega)⟩, ao⟩
   ·have h0 : (cntU (mset (decs st.us ((divL x).take k)) ((divL x).getD k dCk) (cntU (decs st.us ((divL x).take k)) ((divL x).getD k dCk) - 1)) ((divL x).getD k dCk) == 0) = false := h0
    rw [hL1, beq_eq_false_iff_ne] at h0
    have ao : AOEq (mpB (fun c => .ag (ckA c)) (fun n => .i .i64 n) (dCk, 0) (decs st.us ((divL x).take (k + 1))) (fun j => if j < (decs st.us ((divL x).take k)).length then ub j else uc) (if (mget (decs st.us ((divL x).take k)) ((divL x).getD k dCk)).isSome = true then uc else uc + 1)) (mpB (fun c => .ag (ckA c)) (fun n => .i .i64 n) (dCk, 0) (mset (decs st.us ((divL x).take k)) ((divL x).getD k dCk) (cntU (decs st.us ((divL x).take k)) ((divL x).getD k dCk) - 1)) (fun j => if j < (decs st.us ((divL x).take k)).length then ub j else uc) (if (mget (decs st.us ((divL x).take k)) ((divL x).getD k dCk)).isSome = true then uc else uc + 1)) := by
     rw [hds]
     unfold decU
     rw [if_neg h0]
     exact AOEq.refl _
    refine ⟨(k + 1, _, _), [], (by show k + 1 ≤ (divL x).length; omega), by dsimp only; omega, rfl, rfl, rfl, rfl, rfl, ⟨rfl, wr (by omega) (by omega)⟩, ao⟩
  ·have hc := dnlt hc
   have hc : ((divL x).length : Int) ≤ (k : Nat) := hc
   have hte : (divL x).take k = divL x := List.take_of_length_le (by omega)
   repeat refine Or.inl ?_
   refine ⟨_, _, _, _, ⟨hk, rfl, hdel⟩, ?_⟩
   have aoU : AOEq (usO (dropS st 8 n x) ⟨ub, uc, upd B.fb 8 born', B.fc⟩) (mpB (fun c => .ag (ckA c)) (fun n => .i .i64 n) (dCk, 0) (decs st.us ((divL x).take k)) ub uc) := by
    rw [hte]
    exact AOEq.refl _
   exact ⟨⟨ub, uc, upd B.fb 8 born', B.fc⟩, [], hBk ub uc, ⟨⟨⟨rfl, rfl, AVEq.refl _⟩, trivial⟩, ⟨⟨rfl, rfl, rfl, ⟨rfl, AVsEq.refl _⟩⟩, ⟨rfl, rfl, trivial, aoU⟩, ⟨rfl, rfl, trivial, AOEq.refl _⟩, ⟨rfl, rfl, trivial, AOEq.refl _⟩, ⟨rfl, rfl, trivial, AOEq.refl _⟩, ⟨rfl, rfl, trivial, AOEq.refl _⟩, ⟨rfl, rfl, trivial, AOEq.refl _⟩, ⟨rfl, rfl, trivial, AOEq.refl _⟩, ⟨rfl, rfl, trivial, AOEq.refl _⟩, ⟨rfl, rfl, trivial, AOEq.refl _⟩, ⟨rfl, rfl, trivial, AOEq.refl _⟩, ⟨rfl, rfl, trivial, AOEq.refl _⟩, ⟨rfl, rfl, trivial, AOEq.refl _⟩, ⟨rfl, rfl, trivial, AOEq.refl _⟩, trivial⟩, rfl⟩, rfl, fun h => by cases h⟩
 ·refine Or.inr (Or.inr ?_)
  refine ⟨true, [0, 1, 2, 3, 4, 5, 6, 7, 8, 9, 10, 11, 12, 13], rfl, Unit, _, _, _, _, of_fn st B 9 (by decide), fun _ _ => ?_⟩
  repeat refine Or.inl ?_
  refine ⟨fun hc => (by cases hc), fun _ => ?_⟩
  repeat refine Or.inl ?_
  refine ⟨_, _, ⟨hk, rfl, hl⟩, ?_⟩
  repeat refine Or.inl ?_
  refine ⟨fun hc => (by cases hc), fun _ => ?_⟩
  repeat refine Or.inl ?_
  have ao0 : AOEq (mpB (fun c => .ag (ckA c)) (fun n => .i .i64 n) (dCk, 0) (decs st.us ((divL x).take 0)) B.ub B.uc) (usO st B) := AOEq.refl _
  refine ⟨[], Nat × (Nat → Nat) × Nat, fun p => p.1 ≤ (divL x).length, fun p => [⟨34, [], .i .i64 p.1⟩], fun p => [⟨1, [], mpB (fun c => .ag (ckA c)) (fun n => .i .i64 n) (dCk, 0) (decs st.us ((divL x).take p.1)) p.2.1 p.2.2⟩], fun p => (divL x).length - p.1,
   ⟨(0, B.ub, B.uc), [], Nat.zero_le _, rfl, rfl, rfl, rfl, rfl, ⟨rfl, rfl⟩, ao0⟩, ?_⟩
  rintro ⟨k, ub, uc⟩ hkl
  have hkl : k ≤ (divL x).length := hkl
  have hUk := hU.decs (divL x) k hkl
  refine .inl ⟨fun hc => ?_, fun hc => ?_⟩
  ·have hc := dlt hc
   have hc : (k : Int) < (divL x).length := hc
   have ek : ((k : Nat) : Int).toNat = k := Int.toNat_natCast _
   have hcb := hUk.2 ((divL x).getD k dCk)
   have hds := decs_snoc (L := st.us) (l := divL x) (k := k) (by omega)
   have hlk := lookU (decs st.us ((divL x).take k)) ((divL x).getD k dCk)
   have hup := updU (decs st.us ((divL x).take k)) ub uc ((divL x).getD k dCk) (cntU (decs st.us ((divL x).take k)) ((divL x).getD k dCk) - 1)
   have hlk2 := lookU (mset (decs st.us ((divL x).take k)) ((divL x).getD k dCk) (cntU (decs st.us ((divL x).take k)) ((divL x).getD k dCk) - 1)) ((divL x).getD k dCk)
   repeat refine Or.inl ?_
   refine ⟨⟨by omega, by omega⟩, ?_⟩
   have hbin : binI .sub .i64 (cntU (decs st.us ((divL x).take k)) ((divL x).getD k dCk)) 1 = some (.i .i64 (cntU (decs st.us ((divL x).take k)) ((divL x).getD k dCk) - 1)) := by
    show some (AV.i .i64 (IntKind.i64.wrap _)) = _
    rw [wr (by omega) (by omega)]
   refine ⟨(mget (decs st.us ((divL x).take k)) ((divL x).getD k dCk)).isSome, cntU (decs st.us ((divL x).take k)) ((divL x).getD k dCk), cntU (decs st.us ((divL x).take k)) ((divL x).getD k dCk) - 1, _, _, _, _, _, ⟨keysU _, rfl, hlk, hbin, hup⟩, ?_⟩
   repeat refine Or.inl ?_
   refine ⟨_, _, ⟨keysU _, rfl, hlk2⟩, ?_⟩
   have hL1 : cntU (mset (decs st.us ((divL x).take k)) ((divL x).getD k dCk) (cntU (decs st.us ((divL x).take k)) ((divL x).getD k dCk) - 1)) ((divL x).getD k dCk) = cntU (decs st.us ((divL x).take k)) ((divL x).getD k dCk) - 1 := by rw [cnt_mset, if_pos rfl]
   refine ⟨fun h0 => ?_, fun h0 => ?_⟩
   ·have h0 : (cntU (mset (decs st.us ((divL x).take k)) ((divL x).getD k dCk) (cntU (decs st.us ((divL x).take k)) ((divL x).getD k dCk) - 1)) ((divL x).getD k dCk) == 0) = true := h0
    rw [hL1, beq_iff_eq] at h0
    obtain ⟨bu, hdu, _⟩ := delM (kf := fun c : Chk => .ag (ckA c)) (vf := fun n : Int => .i .i64 n) (d := (dCk, 0)) (born := fun j => if j < (decs st.us ((divL x).take k)).length then ub j else uc) (clock := 0) (k := (divL x).getD k dCk) (L := mset (decs st.us ((divL x).take k)) ((divL x).getD k dCk) (cntU (decs st.us ((divL x).take k)) ((divL x).getD k dCk) - 1)) (by rw [mget_mset, if_pos rfl]; rfl)
    repeat refine Or.inl ?_
    refine ⟨_, _, _, _, ⟨keysU _, rfl, hdu⟩, ?_⟩
    have ao : AOEq (mpB (fun c => .ag (ckA c)) (fun n => .i .i64 n) (dCk, 0) (decs st.us ((divL x).take (k + 1))) bu (if (mget (decs st.us ((divL x).take k)) ((divL x).getD k dCk)).isSome = true then uc else uc + 1)) (mpB (fun c => .ag (ckA c)) (fun n => .i .i64 n) (dCk, 0) (mdel (mset (decs st.us ((divL x).take k)) ((divL x).getD k dCk) (cntU (decs st.us ((divL x).take k)) ((divL x).getD k dCk) - 1)) ((divL x).getD k dCk)) bu (if (mget (decs st.us ((divL x).take k)) ((divL x).getD k dCk)).isSome = true then uc else uc + 1)) := by
     rw [hds]
     unfold decU
     rw [if_pos h0]
     exact AOEq.refl _
    refine ⟨(k + 1, _, _), [], (by show k + 1 ≤ (divL x).length; omega), by dsimp only; omega, rfl, rfl, rfl, rfl, rfl, ⟨rfl, wr (by omega) (by omega)⟩, ao⟩
   ·have h0 : (cntU (mset (decs st.us ((divL x).take k)) ((divL x).getD k dCk) (cntU (decs st.us ((divL x).take k)) ((divL x).getD k dCk) - 1)) ((divL x).getD k dCk) == 0) = false := h0
    rw [hL1, beq_eq_false_iff_ne] at h0
    have ao : AOEq (mpB (fun c => .ag (ckA c)) (fun n => .i .i64 n) (dCk, 0) (decs st.us ((divL x).take (k + 1))) (fun j => if j < (decs st.us ((divL x).take k)).length then ub j else uc) (if (mget (decs st.us ((divL x).take k)) ((divL x).getD k dCk)).isSome = true then uc else uc + 1)) (mpB (fun c => .ag (ckA c)) (fun n => .i .i64 n) (dCk, 0) (mset (decs st.us ((divL x).take k)) ((divL x).getD k dCk) (cntU (decs st.us ((divL x).take k)) ((divL x).getD k dCk) - 1)) (fun j => if j < (decs st.us ((divL x).take k)).length then ub j else uc) (if (mget (decs st.us ((divL x).take k)) ((divL x).getD k dCk)).isSome = true then uc else uc + 1)) := by
     rw [hds]
     unfold decU
     rw [if_neg h0]
     exact AOEq.refl _
    refine ⟨(k + 1, _, _), [], (by show k + 1 ≤ (divL x).length; omega), by dsimp only; omega, rfl, rfl, rfl, rfl, rfl, ⟨rfl, wr (by omega) (by omega)⟩, ao⟩
  ·have hc := dnlt hc
   have hc : ((divL x).length : Int) ≤ (k : Nat) := hc
   have hte : (divL x).take k = divL x := List.take_of_length_le (by omega)
   repeat refine Or.inl ?_
   refine ⟨_, _, _, _, ⟨hk, rfl, hdel⟩, ?_⟩
   have aoU : AOEq (usO (dropS st 9 n x) ⟨ub, uc, upd B.fb 9 born', B.fc⟩) (mpB (fun c => .ag (ckA c)) (fun n => .i .i64 n) (dCk, 0) (decs st.us ((divL x).take k)) ub uc) := by
    rw [hte]
    exact AOEq.refl _
   exact ⟨⟨ub, uc, upd B.fb 9 born', B.fc⟩, [], hBk ub uc, ⟨⟨⟨rfl, rfl, AVEq.refl _⟩, trivial⟩, ⟨⟨rfl, rfl, rfl, ⟨rfl, AVsEq.refl _⟩⟩, ⟨rfl, rfl, trivial, aoU⟩, ⟨rfl, rfl, trivial, AOEq.refl _⟩, ⟨rfl, rfl, trivial, AOEq.refl _⟩, ⟨rfl, rfl, trivial, AOEq.refl _⟩, ⟨rfl, rfl, trivial, AOEq.refl _⟩, ⟨rfl, rfl, trivial, AOEq.refl _⟩, ⟨rfl, rfl, trivial, AOEq.refl _⟩, ⟨rfl, rfl, trivial, AOEq.refl _⟩, ⟨rfl, rfl, trivial, AOEq.refl _⟩, ⟨rfl, rfl, trivial, AOEq.refl _⟩, ⟨rfl, rfl, trivial, AOEq.refl _⟩, ⟨rfl, rfl, trivial, AOEq.refl _⟩, ⟨rfl, rfl, trivial, AOEq.refl _⟩, trivial⟩, rfl⟩, rfl, fun h => by cases h⟩
 ·refine Or.inr (Or.inr ?_)
  refine ⟨true, [0, 1, 2, 3, 4, 5, 6, 7, 8, 9, 10, 11, 12, 13], rfl, Unit, _, _, _, _, of_fn st B 10 (by decide), fun _ _ => ?_⟩
  repeat refine Or.inl ?_
  refine ⟨fun hc => (by cases hc), fun _ => ?_⟩
  repeat refine Or.inl ?_
  refine ⟨_, _, ⟨hk, rfl, hl⟩, ?_⟩
  repeat refine Or.inl ?_
  refine ⟨fun hc => (by cases hc), fun _ => ?_⟩
  repeat refine Or.inl ?_
  have ao0 : AOEq (mpB (fun c => .ag (ckA c)) (fun n => .i .i64 n) (dCk, 0) (decs st.us ((divL x).take 0)) B.ub B.uc) (usO st B) := AOEq.refl _
  refine ⟨[], Nat × (Nat → Nat) × Nat, fun p => p.1 ≤ (divL x).length, fun p => [⟨34, [], .i .i64 p.1⟩], fun p => [⟨1, [], mpB (fun c => .ag (ckA c)) (fun n => .i .i64 n) (dCk, 0) (decs st.us ((divL x).take p.1)) p.2.1 p.2.2⟩], fun p => (divL x).length - p.1,
   ⟨(0, B.ub, B.uc), [], Nat.zero_le _, rfl, rfl, rfl, rfl, rfl, ⟨rfl, rfl⟩, ao0⟩, ?_⟩
  rintro ⟨k, ub, uc⟩ hkl
  have hkl : k ≤ (divL x).length := hkl
  have hUk := hU.decs (divL x) k hkl
  refine .inl ⟨fun hc => ?_, fun hc => ?_⟩
  ·have hc := dlt hc
   have hc : (k : Int) < (divL x).length := hc
   have ek : ((k : Nat) : Int).toNat = k := Int.toNat_natCast _
   have hcb := hUk.2 ((divL x).getD k dCk)
   have hds := decs_snoc (L := st.us) (l := divL x) (k := k) (by omega)
   have hlk := lookU (decs st.us ((divL x).take k)) ((divL x).getD k dCk)
   have hup := updU (decs st.us ((divL x).take k)) ub uc ((divL x).getD k dCk) (cntU (decs st.us ((divL x).take k)) ((divL x).getD k dCk) - 1)
   have hlk2 := lookU (mset (decs st.us ((divL x).take k)) ((divL x).getD k dCk) (cntU (decs st.us ((divL x).take k)) ((divL x).getD k dCk) - 1)) ((divL x).getD k dCk)
   repeat refine Or.inl ?_
   refine ⟨⟨by omega, by omega⟩, ?_⟩
   have hbin : binI .sub .i64 (cntU (decs st.us ((divL x).take k)) ((divL x).getD k dCk)) 1 = some (.i .i64 (cntU (decs st.us ((divL x).take k)) ((divL x).getD k dCk) - 1)) := by
    show some (AV.i .i64 (IntKind.i64.wrap _)) = _
    rw [wr (by omega) (by omega)]
   refine ⟨(mget (decs st.us ((divL x).take k)) ((divL x).getD k dCk)).isSome, cntU (decs st.us ((divL x).take k)) ((divL x).getD k dCk), cntU (decs st.us ((divL x).take k)) ((divL x).getD k dCk) - 1, _, _, _, _, _, ⟨keysU _, rfl, hlk, hbin, hup⟩, ?_⟩
   repeat refine Or.inl ?_
   refine ⟨_, _, ⟨keysU _, rfl, hlk2⟩, ?_⟩
   have hL1 : cntU (mset (decs st.us ((divL x).take k)) ((divL x).getD k dCk) (cntU (decs st.us ((divL x).take k)) ((divL x).getD k dCk) - 1)) ((divL x).getD k dCk) = cntU (decs st.us ((divL x).take k)) ((divL x).getD k dCk) - 1 := by rw [cnt_mset, if_pos rfl]
   refine ⟨fun h0 => ?_, fun h0 => ?_⟩
   ·have h0 : (cntU (mset (decs st.us ((divL x).take k)) ((divL x).getD k dCk) (cntU (decs st.us ((divL x).take k)) ((divL x).getD k dCk) - 1)) ((divL x).getD k dCk) == 0) = true := h0
    rw [hL1, beq_iff_eq] at h0
    obtain ⟨bu, hdu, _⟩ := delM (kf := fun c : Chk => .ag (ckA c)) (vf := fun n : Int => .i .i64 n) (d := (dCk, 0)) (born := fun j => if j < (decs st.us ((divL x).take k)).length then ub j else uc) (clock := 0) (k := (divL x).getD k dCk) (L := mset (decs st.us ((divL x).take k)) ((divL x).getD k dCk) (cntU (decs st.us ((divL x).take k)) ((divL x).getD k dCk) - 1)) (by rw [mget_mset, if_pos rfl]; rfl)
    repeat refine Or.inl ?_
    refine ⟨_, _, _, _, ⟨keysU _, rfl, hdu⟩, ?_⟩
    have ao : AOEq (mpB (fun c => .ag (ckA c)) (fun n => .i .i64 n) (dCk, 0) (decs st.us ((divL x).take (k + 1))) bu (if (mget (decs st.us ((divL x).take k)) ((divL x).getD k dCk)).isSome = true then uc else uc + 1)) (mpB (fun c => .ag (ckA c)) (fun n => .i .i64 n) (dCk, 0) (mdel (mset (decs st.us ((divL x).take k)) ((divL x).getD k dCk) (cntU (decs st.us ((divL x).take k)) ((divL x).getD k dCk) - 1)) ((divL x).getD k dCk)) bu (if (mget (decs st.us ((divL x).take k)) ((divL x).getD k dCk)).isSome = true then uc else uc + 1)) := by
     rw [hds]
     unfold decU
     rw [if_pos h0]
     exact AOEq.refl _
    refine ⟨(k + 1, _, _), [], (by show k + 1 ≤ (divL x).length; omega), by dsimp only; omega, rfl, rfl, rfl, rfl, rfl, ⟨rfl, wr (by omega) (by omega)⟩, ao⟩
   ·have h0 : (cntU (mset (decs st.us ((divL x).take k)) ((divL x).getD k dCk) (cntU (decs st.us ((divL x).take k)) ((divL x).getD k dCk) - 1)) ((divL x).getD k dCk) == 0) = false := h0
    rw [hL1, beq_eq_false_iff_ne] at h0
    have ao : AOEq (mpB (fun c => .ag (ckA c)) (fun n => .i .i64 n) (dCk, 0) (decs st.us ((divL x).take (k + 1))) (fun j => if j < (decs st.us ((divL x).take k)).length then ub j else uc) (if (mget (decs st.us ((divL x).take k)) ((divL x).getD k dCk)).isSome = true then uc else uc + 1)) (mpB (fun c => .ag (ckA c)) (fun n => .i .i64 n) (dCk, 0) (mset (decs st.us ((divL x).take k)) ((divL x).getD k dCk) (cntU (decs st.us ((divL x).take k)) ((divL x).getD k dCk) - 1)) (fun j => if j < (decs st.us ((divL x).take k)).length then ub j else uc) (if (mget (decs st.us ((divL x).take k)) ((divL x).getD k dCk)).isSome = true then uc else uc + 1)) := by
     rw [hds]
     unfold decU
     rw [if_neg h0]
     exact AOEq.refl _
    refine ⟨(k + 1, _, _), [], (by show k + 1 ≤ (divL x).length; omega), by dsimp only; omega, rfl, rfl, rfl, rfl, rfl, ⟨rfl, wr (by omega) (by omega)⟩, ao⟩
  ·have hc := dnlt hc
   have hc : ((divL x).length : Int) ≤ (k : Nat) := hc
   have hte : (divL x).take k = divL x := List.take_of_length_le (by omega)
   repeat refine Or.inl ?_
   refine ⟨_, _, _, _, ⟨hk, rfl, hdel⟩, ?_⟩
   have aoU : AOEq (usO (dropS st 10 n x) ⟨ub, uc, upd B.fb 10 born', B.fc⟩) (mpB (fun c => .ag (ckA c)) (fun n => .i .i64 n) (dCk, 0) (decs st.us ((divL x).take k)) ub uc) := by
    rw [hte]
    exact AOEq.refl _
   exact ⟨⟨ub, uc, upd B.fb 10 born', B.fc⟩, [], hBk ub uc, ⟨⟨⟨rfl, rfl, AVEq.refl _⟩, trivial⟩, ⟨⟨rfl, rfl, rfl, ⟨rfl, AVsEq.refl _⟩⟩, ⟨rfl, rfl, trivial, aoU⟩, ⟨rfl, rfl, trivial, AOEq.refl _⟩, ⟨rfl, rfl, trivial, AOEq.refl _⟩, ⟨rfl, rfl, trivial, AOEq.refl _⟩, ⟨rfl, rfl, trivial, AOEq.refl _⟩, ⟨rfl, rfl, trivial, AOEq.refl _⟩, ⟨rfl, rfl, trivial, AOEq.refl _⟩, ⟨rfl, rfl, trivial, AOEq.refl _⟩, ⟨rfl, rfl, trivial, AOEq.refl _⟩, ⟨rfl, rfl, trivial, AOEq.refl _⟩, ⟨rfl, rfl, trivial, AOEq.refl _⟩, ⟨rfl, rfl, trivial, AOEq.refl _⟩, ⟨rfl, rfl, trivial, AOEq.refl _⟩, trivial⟩, rfl⟩, rfl, fun h => by cases h⟩
 ·refine Or.inr (Or.inr ?_)
  refine ⟨true, [0, 1, 2, 3, 4, 5, 6, 7, 8, 9, 10, 11, 12, 13], rfl, Unit, _, _, _, _, of_fn st B 11 (by decide), fun _ _ => ?_⟩
  repeat refine Or.inl ?_
  refine ⟨fun hc => (by cases hc), fun _ => ?_⟩
  repeat refine Or.inl ?_
  refine ⟨_, _, ⟨hk, rfl, hl⟩, ?_⟩
  repeat refine Or.inl ?_
  refine ⟨fun hc => (by cases hc), fun _ => ?_⟩
  repeat refine Or.inl ?_
  have ao0 : AOEq (mpB (fun c => .ag (ckA c)) (fun n => .i .i64 n) (dCk, 0) (decs st.us ((divL x).take 0)) B.ub B.uc) (usO st B) := AOEq.refl _
  refine ⟨[], Nat × (Nat → Nat) × Nat, fun p => p.1 ≤ (divL x).length, fun p => [⟨34, [], .i .i64 p.1⟩], fun p => [⟨1, [], mpB (fun c => .ag (ckA c)) (fun n => .i .i64 n) (dCk, 0) (decs st.us ((divL x).take p.1)) p.2.1 p.2.2⟩], fun p => (divL x).length - p.1,
   ⟨(0, B.ub, B.uc), [], Nat.zero_le _, rfl, rfl, rfl, rfl, rfl, ⟨rfl, rfl⟩, ao0⟩, ?_⟩
  rintro ⟨k, ub, uc⟩ hkl
  have hkl : k ≤ (divL x).length := hkl
  have hUk := hU.decs (divL x) k hkl
  refine .inl ⟨fun hc => ?_, fun hc => ?_⟩
  ·have hc := dlt hc
   have hc : (k : Int) < (divL x).length := hc
   have ek : ((k : Nat) : Int).toNat = k := Int.toNat_natCast _
   have hcb := hUk.2 ((divL x).getD k dCk)
   have hds := decs_snoc (L := st.us) (l := divL x) (k := k) (by omega)
   have hlk := lookU (decs st.us ((divL x).take k)) ((divL x).getD k dCk)
   have hup := updU (decs st.us ((divL x).take k)) ub uc ((divL x).getD k dCk) (cntU (decs st.us ((divL x).take k)) ((divL x).getD k dCk) - 1)
   have hlk2 := lookU (mset (decs st.us ((divL x).take k)) ((divL x).getD k dCk) (cntU (decs st.us ((divL x).take k)) ((divL x).getD k dCk) - 1)) ((divL x).getD k dCk)
   repeat refine Or.inl ?_
   refine ⟨⟨by omega, by omega⟩, ?_⟩
   have hbin : binI .sub .i64 (cntU (decs st.us ((divL x).take k)) ((divL x).getD k dCk)) 1 = some (.i .i64 (cntU (decs st.us ((divL x).take k)) ((divL x).getD k dCk) - 1)) := by
    show some (AV.i .i64 (IntKind.i64.wrap _)) = _
    rw [wr (by omega) (by omega)]
   refine ⟨(mget (decs st.us ((divL x).take k)) ((divL x).getD k dCk)).isSome, cntU (decs st.us ((divL x).take k)) ((divL x).getD k dCk), cntU (decs st.us ((divL x).take k)) ((divL x).getD k dCk) - 1, _, _, _, _, _, ⟨keysU _, rfl, hlk, hbin, hup⟩, ?_⟩
   repeat refine Or.inl ?_
   refine ⟨_, _, ⟨keysU _, rfl, hlk2⟩, ?_⟩
   have hL1 : cntU (mset (decs st.us ((divL x).take k)) ((divL x).getD k dCk) (cntU (decs st.us ((divL x).take k)) ((divL x).getD k dCk) - 1)) ((divL x).getD k dCk) = cntU (decs st.us ((divL x).take k)) ((divL x).getD k dCk) - 1 := by rw [cnt_mset, if_pos rfl]
   refine ⟨fun h0 => ?_, fun h0 => ?_⟩
   ·have h0 : (cntU (mset (decs st.us ((divL x).take k)) ((divL x).getD k dCk) (cntU (decs st.us ((divL x).take k)) ((divL x).getD k dCk) - 1)) ((divL x).getD k dCk) == 0) = true := h0
    rw [hL1, beq_iff_eq] at h0
    obtain ⟨bu, hdu, _⟩ := delM (kf := fun c : Chk => .ag (ckA c)) (vf := fun n : Int => .i .i64 n) (d := (dCk, 0)) (born := fun j => if j < (decs st.us ((divL x).take k)).length then ub j else uc) (clock := 0) (k := (divL x).getD k dCk) (L := mset (decs st.us ((divL x).take k)) ((divL x).getD k dCk) (cntU (decs st.us ((divL x).take k)) ((divL x).getD k dCk) - 1)) (by rw [mget_mset, if_pos rfl]; rfl)
    repeat refine Or.inl ?_
    refine ⟨_, _, _, _, ⟨keysU _, rfl, hdu⟩, ?_⟩
    have ao : AOEq (mpB (fun c => .ag (ckA c)) (fun n => .i .i64 n) (dCk, 0) (decs st.us ((divL x).take (k + 1))) bu (if (mget (decs st.us ((divL x).take k)) ((divL x).getD k dCk)).isSome = true then uc else uc + 1)) (mpB (fun c => .ag (ckA c)) (fun n => .i .i64 n) (dCk, 0) (mdel (mset (decs st.us ((divL x).take k)) ((divL x).getD k dCk) (cntU (decs st.us ((divL x).take k)) ((divL x).getD k dCk) - 1)) ((divL x).getD k dCk)) bu (if (mget (decs st.us ((divL x).take k)) ((divL x).getD k dCk)).isSome = true then uc else uc + 1)) := by
     rw [hds]
     unfold decU
     rw [if_pos h0]
     exact AOEq.refl _
    refine ⟨(k + 1, _, _), [], (by show k + 1 ≤ (divL x).length; omega), by dsimp only; omega, rfl, rfl, rfl, rfl, rfl, ⟨rfl, wr (by omega) (by omega)⟩, ao⟩
   ·have h0 : (cntU (mset (decs st.us ((divL x).take k)) ((divL x).getD k dCk) (cntU (decs st.us ((divL x).take k)) ((divL x).getD k dCk) - 1)) ((divL x).getD k dCk) == 0) = false := h0
    rw [hL1, beq_eq_false_iff_ne] at h0
    have ao : AOEq (mpB (fun c => .ag (ckA c)) (fun n => .i .i64 n) (dCk, 0) (decs st.us ((divL x).take (k + 1))) (fun j => if j < (decs st.us ((divL x).take k)).length then ub j else uc) (if (mget (decs st.us ((divL x).take k)) ((divL x).getD k dCk)).isSome = true then uc else uc + 1)) (mpB (fun c => .ag (ckA c)) (fun n => .i .i64 n) (dCk, 0) (mset (decs st.us ((divL x).take k)) ((divL x).getD k dCk) (cntU (decs st.us ((divL x).take k)) ((divL x).getD k dCk) - 1)) (fun j => if j < (decs st.us ((divL x).take k)).length then ub j else uc) (if (mget (decs st.us ((divL x).take k)) ((divL x).getD k dCk)).isSome = true then uc else uc + 1)) := by
     rw [hds]
     unfold decU
     rw [if_neg h0]
     exact AOEq.refl _
    refine ⟨(k + 1, _, _), [], (by show k + 1 ≤ (divL x).length; omega), by dsimp only; omega, rfl, rfl, rfl, rfl, rfl, ⟨rfl, wr (by omega) (by omega)⟩, ao⟩
  ·have hc := dnlt hc
   have hc : ((divL x).length : Int) ≤ (k : Nat) := hc
   have hte : (divL x).take k = divL x := List.take_of_length_le (by omega)
   repeat refine Or.inl ?_
   refine ⟨_, _, _, _, ⟨hk, rfl, hdel⟩, ?_⟩
   have aoU : AOEq (usO (dropS st 11 n x) ⟨ub, uc, upd B.fb 11 born', B.fc⟩) (mpB (fun c => .ag (ckA c)) (fun n => .i .i64 n) (dCk, 0) (decs st.us ((divL x).take k)) ub uc) := by
    rw [hte]
    exact AOEq.refl _
   exact ⟨⟨ub, uc, upd B.fb 11 born', B.fc⟩, [], hBk ub uc, ⟨⟨⟨rfl, rfl, AVEq.refl _⟩, trivial⟩, ⟨⟨rfl, rfl, rfl, ⟨rfl, AVsEq.refl _⟩⟩, ⟨rfl, rfl, trivial, aoU⟩, ⟨rfl, rfl, trivial, AOEq.refl _⟩, ⟨rfl, rfl, trivial, AOEq.refl _⟩, ⟨rfl, rfl, trivial, AOEq.refl _⟩, ⟨rfl, rfl, trivial, AOEq.refl _⟩, ⟨rfl, rfl, trivial, AOEq.refl _⟩, ⟨rfl, rfl, trivial, AOEq.refl _⟩, ⟨rfl, rfl, trivial, AOEq.refl _⟩, ⟨rfl, rfl, trivial, AOEq.refl _⟩, ⟨rfl, rfl, trivial, AOEq.refl _⟩, ⟨rfl, rfl, trivial, AOEq.refl _⟩, ⟨rfl, rfl, trivial, AOEq.refl _⟩, ⟨rfl, rfl, trivial, AOEq.refl _⟩, trivial⟩, rfl⟩, rfl, fun h => by cases h⟩
end Go.Proofs.Ytnookbebiacaeaa
end

section
namespace Go.Eng
theorem Ctr.frz {P : Program} {f : FuncId} {args : List AV} {e : TypeId} {sz n : Nat} {g : Nat → List AV} (h : Ctr P f args [.row e sz n g] (.so 0)) : Ctr P f args [] (.rs sz n g) := by
 refine ⟨h.1, fun w vs hl hr => (h.2 w vs hl hr).mono ?_⟩
 rintro ex w' ⟨v, β, rfl, hb, hn, hrep⟩
 refine ⟨v, β, rfl, hb, ⟨fun j o hj => by simp at hj, fun j o b hj => by simp at hj, fun j j' o o' b hj => by simp at hj⟩, ?_⟩
 obtain ⟨_, rfl⟩ := hrep.so_inv
 obtain ⟨xs, hx, hlen, hc⟩ := hn.1 0 _ rfl
 refine .pure _ _ (row_view (fun b hb2 => ?_) hx (fun b hb2 hf => ?_) hlen hc)
 ·rcases hb2 with h | ⟨j, o, hj, _⟩
  ·exact .inl h
  ·simp at hj
 ·have h1 := hn.2.1 0 _ b rfl hb2
  rcases hf with h | ⟨j, o, hj, _⟩
  ·exact absurd h (by omega)
  ·simp at hj
end Go.Eng
namespace Go.Proofs.Ytnookbebiacaeaa
open Go.Eng Go.RowKit
structure TOk (L : List (Int × ByteArray)) (nx : Int) (m : Nat) : Prop where
 asc : (mkeys L).Pairwise (· < ·)
 lo : ∀ k ∈ mkeys L, 0 ≤ k ∧ k < nx
 len : L.length ≤ m
 n0 : 0 ≤ nx
 nm : nx ≤ m
 sz : ∀ p ∈ L, p.2.size ≤ 200
theorem sortI_id {l : List Int} (h : l.Pairwise (· < ·)) : sortI l = l := by
 unfold sortI
 exact List.mergeSort_of_pairwise (h.imp fun hab => by simpa using Int.le_of_lt hab)
theorem TOk.nodup {L : List (Int × ByteArray)} {nx : Int} {m : Nat} (h : TOk L nx m) : (mkeys L).Nodup := h.asc.imp fun hab => Int.ne_of_lt hab
theorem TOk.wf {L : List (Int × ByteArray)} {nx : Int} {m : Nat} (h : TOk L nx m) (hm : m ≤ 1000) : ∀ k ∈ mkeys L, (Lit.int .i64 k).wf = true := by
 intro k hk
 have h1 := h.lo k hk
 have h2 := h.nm
 have e1 : IntKind.i64.min = -9223372036854775808 := rfl
 have e2 : (Lit.int .i64 k).wf = (decide (IntKind.i64.min ≤ k) && decide (k ≤ 9223372036854775807)) := rfl
 rw [e2, Bool.and_eq_true, decide_eq_true_eq, decide_eq_true_eq]
 omega
theorem mget_at {L : List (Int × ByteArray)} (hn : (mkeys L).Nodup) {i : Nat} (hi : i < L.length) : mget L (L.getD i dFl).1 = some (L.getD i dFl).2 := by
 induction L generalizing i with
 | nil => simp at hi
 | cons p r ih =>
  simp only [mkeys, List.map_cons, List.nodup_cons] at hn
  cases i with
  | zero => simp [mget]
  | succ i =>
   simp only [List.getD_cons_succ, mget]
   have hir : i < r.length := by simpa using hi
   rw [if_neg]
   ·exact ih hn.2 hir
   ·intro e
    apply hn.1
    rw [e]
    exact List.mem_map.2 ⟨r.getD i dFl, getD_memD dFl hir, rfl⟩
theorem TOk.fresh {L : List (Int × ByteArray)} {nx : Int} {m : Nat} (h : TOk L nx m) : mget L nx = none := by
 cases hm : mget L nx with
 | none => rfl
 | some v =>
  have := h.lo nx (mget_mem hm)
  omega
theorem usedL_bd {L : List (Int × ByteArray)} {m : Nat} (h : ∀ p ∈ L, p.2.size ≤ m) : usedL L ≤ m * L.length := by
 induction L with
 | nil => simp [usedL]
 | cons p r ih =>
  have h1 := h p (by simp)
  have h2 := ih fun q hq => h q (by simp [hq])
  have e : usedL (p :: r) = p.2.size + usedL r := by simp [usedL]
  rw [e, List.length_cons, Nat.mul_succ]
  omega
theorem bytes_dif {x y : ByteArray} : (decide (divL x = divL y)) = decide (x = y) := by
 rw [Bool.eq_iff_iff, decide_eq_true_eq, decide_eq_true_eq]
 exact ⟨div_inj, fun h => by rw [h]⟩
def putB (st : St) (B : Bn) (t : Nat) (ub : Nat → Nat) (uc : Nat) : Bn := ⟨ub, uc, upd B.fb t (fun j => if j < (st.fs t).length then B.fb t j else B.fc t), upd B.fc t (B.fc t + 1)⟩
theorem put_BOk {st : St} {B : Bn} (hB : BOk st B) {t : Nat} (x : ByteArray) (h : t < 12) (ub : Nat → Nat) (uc : Nat) : BOk (putS st t x) (putB st B t ub uc) := by
 intro s hs
 show BI (upd st.fs t (st.fs t ++ [(st.nx t, x)]) s).length (upd B.fb t _ s) (upd B.fc t _ s)
 unfold upd
 by_cases e : s = t
 ·rw [if_pos e, if_pos e, if_pos e]
  have := biNew (hB t h)
  simpa using this
 ·rw [if_neg e, if_neg e, if_neg e]
  exact hB s hs
set_option maxRecDepth 20000 in
set_option maxHeartbeats 8000000 in
theorem put_none (st : St) (B : Bn) (t : Int) (x : ByteArray) (h : ¬ (0 ≤ t ∧ t < 12)) : CtrM Try.prog 69 true (storeO st B) [.p 0 0, .i .i64 t, .s x] (fun _ : Unit => True) (fun _ => storeO st B) (fun _ => []) (fun _ => .tup [.i .i64 0, .i .i64 1]) := by
 refine fn_of_execM tabOk Try.func69 (by kernel_rfl) rfl (N := Try.f69.ntmps) rfl (res := [.tmp 6, .tmp 7]) rfl true false (storeO st B) _ _ _ _ rfl (fun h => by cases h) [] ?_
 refine Or.inr (Or.inr ?_)
 refine ⟨true, [0, 1, 2, 3, 4, 5, 6, 7, 8, 9, 10, 11, 12, 13], rfl, Unit, _, _, _, _, of_none st B t h, fun _ _ => ?_⟩
 repeat refine Or.inl ?_
 refine ⟨fun _ => ?_, fun hc => (by cases hc)⟩
 exact ⟨(), [], trivial, ⟨⟨⟨rfl, rfl, AVEq.refl _⟩, trivial⟩, ⟨⟨rfl, rfl, rfl, ⟨rfl, AVsEq.refl _⟩⟩, ⟨rfl, rfl, trivial, AOEq.refl _⟩, ⟨rfl, rfl, trivial, AOEq.refl _⟩, ⟨rfl, rfl, trivial, AOEq.refl _⟩, ⟨rfl, rfl, trivial, AOEq.refl _⟩, ⟨rfl, rfl, trivial, AOEq.refl _⟩, ⟨rfl, rfl, trivial, AOEq.refl _⟩, ⟨rfl, rfl, trivial, AOEq.refl _⟩, ⟨rfl, rfl, trivial, AOEq.refl _⟩, ⟨rfl, rfl, trivial, AOEq.refl _⟩, ⟨rfl, rfl, trivial, AOEq.refl _⟩, ⟨rfl, rfl, trivial, AOEq.refl _⟩, ⟨rfl, rfl, trivial, AOEq.refl _⟩, ⟨rfl, rfl, trivial, AOEq.refl _⟩, trivial⟩, rfl⟩, rfl, fun h => by cases h⟩
end Go.Proofs.Ytnookbebiacaeaa
end
