/-
  Several texts in one: Cke, Ckf, Ckg.
-/
import Derived.Test.YtnookbebiacaeaaMg19

section
namespace Go.Proofs.Ytnookbebiacaeaa
open Go.Eng Go.RowKit
set_option maxRecDepth 20000 in
set_option maxHeartbeats 8000000 in
theorem put_new (st : St) (B : Bn) (t m : Nat) (x : ByteArray) (h : t < 12) (hm : m ≤ 200) (hT : TOk (st.fs t) (st.nx t) m) (hx : x.size ≤ 200) (hB : BOk st B) (hU : UB st.us 100000) (hall : ∀ j, j < (st.fs t).length → ((st.fs t).getD j dFl).2 ≠ x) :
  CtrM Try.prog 69 true (storeO st B) [.p 0 0, .i .i64 t, .s x] (fun B' : Bn => BOk (putS st t x) B') (fun B' => storeO (putS st t x) B') (fun _ => []) (fun _ => .tup [.i .i64 (st.nx t), .i .i64 0]) := by
 refine fn_of_execM tabOk Try.func69 (by kernel_rfl) rfl (N := Try.f69.ntmps) rfl (res := [.tmp 6, .tmp 7]) rfl true false (storeO st B) _ _ _ _ rfl (fun h => by cases h) [] ?_
 have hso : sortI (mkeys (st.fs t)) = mkeys (st.fs t) := sortI_id hT.asc
 have hkF := keysFile (st.fs t)
 have hdx := div_len x
 have hnd := hT.nodup
 have hTl := hT.len
 have hBk := put_BOk hB x h
 have hBt := hB t h
 have hn0 := hT.n0
 have hnm := hT.nm
 have husd := usedL_bd hT.sz
 have hup := updOk_new (kf := fun n : Int => .i .i64 n) (vf := filV) (d := dFl) (born := B.fb t) (clock := B.fc t) i64I hT.fresh x
 rw [mset_new hT.fresh] at hup
 rcases cases12 h with rfl | rfl | rfl | rfl | rfl | rfl | rfl | rfl | rfl | rfl | rfl | rfl
 ·refine Or.inr (Or.inr ?_)
  refine ⟨true, [0, 1, 2, 3, 4, 5, 6, 7, 8, 9, 10, 11, 12, 13], rfl, Unit, _, _, _, _, of_fn st B 0 (by decide), fun _ _ => ?_⟩
  repeat refine Or.inl ?_
  refine ⟨fun hc => (by cases hc), fun _ => ?_⟩
  refine ⟨fun hc => (by have hc : decide ((x.size : Int) > 65536) = true := hc; rw [decide_eq_true_eq] at hc; omega), fun _ => ?_⟩
  refine Or.inl ⟨_, _, (divided_fn x (by omega)).frz, ?_⟩
  refine Or.inl (Or.inr (Or.inr ?_))
  refine ⟨true, [0, 1, 2, 3, 4, 5, 6, 7, 8, 9, 10, 11, 12, 13], rfl, Unit, _, _, _, _, names_fn st B 0 (by decide) (hT.wf (by omega)) (by have := hT.len; omega), fun _ _ => ?_⟩
  repeat refine Or.inl ?_
  refine ⟨[], Nat, fun k => k ≤ (st.fs 0).length ∧ (∀ j, j < k → ((st.fs 0).getD j dFl).2 ≠ x), fun k => [⟨34, [], .i .i64 k⟩], fun k => [], fun k => (st.fs 0).length - k,
   ⟨0, [], ⟨Nat.zero_le _, fun j hj => absurd hj (Nat.not_lt_zero j)⟩, rfl, rfl, rfl, rfl, rfl, ⟨rfl, rfl⟩, trivial⟩, ?_⟩
  rintro k ⟨hk, hno⟩
  have hk : k ≤ (st.fs 0).length := hk
  refine .inl ⟨fun hc => ?_, fun hc => ?_⟩
  ·have hc := dlt hc
   have hc : (k : Int) < (st.fs 0).length := hc
   have ek : ((k : Nat) : Int).toNat = k := Int.toNat_natCast _
   repeat refine Or.inl ?_
   refine ⟨⟨by omega, by omega⟩, ?_⟩
   have hl := lookF (st.fs 0) ((mkeys (st.fs 0)).getD ((k : Nat) : Int).toNat 0)
   rw [ek, mkeys_getD, mget_at hnd (by omega)] at hl
   have hgk : AV.i .i64 ((sortI (mkeys (st.fs 0))).getD ((k : Nat) : Int).toNat 0) = AV.i .i64 ((st.fs 0).getD k dFl).1 := by rw [hso, ek, mkeys_getD]
   rw [← hgk] at hl
   have hsk : ((st.fs 0).getD k dFl).2.size ≤ 200 := hT.sz _ (getD_memD dFl (by omega))
   have hdk := div_len ((st.fs 0).getD k dFl).2
   refine ⟨by omega, ?_⟩
   refine ⟨_, _, ⟨hkF, rfl, hl⟩, ?_⟩
   refine Or.inl ⟨_, _, equal_fn (divL ((st.fs 0).getD k dFl).2) (divL x) (by omega) (by omega), ?_⟩
   refine ⟨fun h2 => ?_, fun h2 => ?_⟩
   ·exfalso
    have h2 : decide (divL ((st.fs 0).getD k dFl).2 = divL x) = true := h2
    rw [bytes_dif, decide_eq_true_eq] at h2
    exact hall k (by omega) h2
   ·refine ⟨k + 1, [], ⟨by omega, fun j hj => hall j (by omega)⟩, by dsimp only; omega, rfl, rfl, rfl, rfl, rfl, ⟨rfl, wr (by omega) (by omega)⟩, trivial⟩
  ·refine Or.inl (Or.inr (Or.inr ?_))
   refine ⟨true, [0, 1, 2, 3, 4, 5, 6, 7, 8, 9, 10, 11, 12, 13], rfl, Unit, _, _, _, _, used_fn st B 0 (by decide) (by omega) (fun p hp => Nat.le_trans (hT.sz p hp) (by decide)) hBt, fun _ _ => ?_⟩
   have hub : usedL (st.fs 0) ≤ 40000 := Nat.le_trans husd (Nat.le_trans (Nat.mul_le_mul_left 200 (Nat.le_trans hTl hm)) (by decide))
   refine ⟨fun h3 => ?_, fun _ => ?_⟩
   ·exfalso
    have h3 : decide (IntKind.i64.wrap ((usedL (st.fs 0) : Int) + x.size) > 1048576) = true := h3
    rw [wr (by omega) (by omega), decide_eq_true_eq] at h3
    omega
   have ao0 : AOEq (mpB (fun c => .ag (ckA c)) (fun n => .i .i64 n) (dCk, 0) (incs st.us ((divL x).take 0)) B.ub B.uc) (usO st B) := AOEq.refl _
   repeat refine Or.inl ?_
   refine ⟨[], Nat × (Nat → Nat) × Nat, fun p => p.1 ≤ (divL x).length, fun p => [⟨57, [], .i .i64 p.1⟩], fun p => [⟨1, [], mpB (fun c => .ag (ckA c)) (fun n => .i .i64 n) (dCk, 0) (incs st.us ((divL x).take p.1)) p.2.1 p.2.2⟩], fun p => (divL x).length - p.1,
    ⟨(0, B.ub, B.uc), [], Nat.zero_le _, rfl, rfl, rfl, rfl, rfl, ⟨rfl, rfl⟩, ao0⟩, ?_⟩
   rintro ⟨q, ub, uc⟩ hql
   have hql : q ≤ (divL x).length := hql
   have hUq := hU.incs (divL x) q hql
   refine .inl ⟨fun hc => ?_, fun hc => ?_⟩
   ·have hc := dlt hc
    have hc : (q : Int) < (divL x).length := hc
    have eq : ((q : Nat) : Int).toNat = q := Int.toNat_natCast _
    have hcb := hUq.2 ((divL x).getD q dCk)
    have hds := incs_snoc (L := st.us) (l := divL x) (k := q) (by omega)
    have hlk := lookU (incs st.us ((divL x).take q)) ((divL x).getD q dCk)
    have hup2 := updU (incs st.us ((divL x).take q)) ub uc ((divL x).getD q dCk) (cntU (incs st.us ((divL x).take q)) ((divL x).getD q dCk) + 1)
    repeat refine Or.inl ?_
    refine ⟨⟨by omega, by omega⟩, ?_⟩
    have hbin : binI .add .i64 (cntU (incs st.us ((divL x).take q)) ((divL x).getD q dCk)) 1 = some (.i .i64 (cntU (incs st.us ((divL x).take q)) ((divL x).getD q dCk) + 1)) := by
     show some (AV.i .i64 (IntKind.i64.wrap _)) = _
     rw [wr (by omega) (by omega)]
    refine ⟨(mget (incs st.us ((divL x).take q)) ((divL x).getD q dCk)).isSome, cntU (incs st.us ((divL x).take q)) ((divL x).getD q dCk), cntU (incs st.us ((divL x).take q)) ((divL x).getD q dCk) + 1, _, _, _, _, _, ⟨keysU _, rfl, hlk, hbin, hup2⟩, ?_⟩
    have ao : AOEq (mpB (fun c => .ag (ckA c)) (fun n => .i .i64 n) (dCk, 0) (incs st.us ((divL x).take (q + 1))) (fun j => if j < (incs st.us ((divL x).take q)).length then ub j else uc) (if (mget (incs st.us ((divL x).take q)) ((divL x).getD q dCk)).isSome = true then uc else uc + 1)) (mpB (fun c => .ag (ckA c)) (fun n => .i .i64 n) (dCk, 0) (mset (incs st.us ((divL x).take q)) ((divL x).getD q dCk) (cntU (incs st.us ((divL x).take q)) ((divL x).getD q dCk) + 1)) (fun j => if j < (incs st.us ((divL x).take q)).length then ub j else uc) (if (mget (incs st.us ((divL x).take q)) ((divL x).getD q dCk)).isSome = true then uc else uc + 1)) := by
     rw [hds]
     exact AOEq.refl _
    refine ⟨(q + 1, _, _), [], (by show q + 1 ≤ (divL x).length; omega), by dsimp only; omega, rfl, rfl, rfl, rfl, rfl, ⟨rfl, wr (by omega) (by omega)⟩, ao⟩
   ·have hc := dnlt hc
    have hc : ((divL x).length : Int) ≤ (q : Nat) := hc
    have hte : (divL x).take q = divL x := List.take_of_length_le (by omega)
    repeat refine Or.inl ?_
    refine ⟨_, _, _, _, _, ⟨hkF, rfl, hup⟩, ?_⟩
    have aoU : AOEq (usO (putS st 0 x) (putB st B 0 ub uc)) (mpB (fun c => .ag (ckA c)) (fun n => .i .i64 n) (dCk, 0) (incs st.us ((divL x).take q)) ub uc) := by
     rw [hte]
     exact AOEq.refl _
    have w1 : IntKind.i64.wrap (st.nx 0 + 1) = st.nx 0 + 1 := wr (by omega) (by omega)
    have w2 : IntKind.i64.wrap (IntKind.i64.wrap (st.nx 0 + 1) - 1) = st.nx 0 := by
     rw [w1, wr (by omega) (by omega)]
     omega
    have aoC : AOEq (.cells 151 (stC (putS st 0 x))) (.cells 151 [.mo 1, .mo 2, .i .i64 (IntKind.i64.wrap (st.nx 0 + 1)), .mo 3, .i .i64 (st.nx 1), .mo 4, .i .i64 (st.nx 2), .mo 5, .i .i64 (st.nx 3), .mo 6, .i .i64 (st.nx 4), .mo 7, .i .i64 (st.nx 5), .mo 8, .i .i64 (st.nx 6), .mo 9, .i .i64 (st.nx 7), .mo 10, .i .i64 (st.nx 8), .mo 11, .i .i64 (st.nx 9), .mo 12, .i .i64 (st.nx 10), .mo 13, .i .i64 (st.nx 11)]) := by
     rw [w1]
     exact AOEq.refl _
    have hav : AVEq (.tup [.i .i64 (st.nx 0), .i .i64 0]) (.tup [.i .i64 (IntKind.i64.wrap (IntKind.i64.wrap (st.nx 0 + 1) - 1)), .i .i64 0]) := by
     rw [w2]
     exact AVEq.refl _
    exact ⟨putB st B 0 ub uc, [], hBk ub uc, ⟨⟨⟨rfl, rfl, hav⟩, trivial⟩, ⟨⟨rfl, rfl, rfl, aoC⟩, ⟨rfl, rfl, trivial, aoU⟩, ⟨rfl, rfl, trivial, AOEq.refl _⟩, ⟨rfl, rfl, trivial, AOEq.refl _⟩, ⟨rfl, rfl, trivial, AOEq.refl _⟩, ⟨rfl, rfl, trivial, AOEq.refl _⟩, ⟨rfl, rfl, trivial, AOEq.refl _⟩, ⟨rfl, rfl, trivial, AOEq.refl _⟩, ⟨rfl, rfl, trivial, AOEq.refl _⟩, ⟨rfl, rfl, trivial, AOEq.refl _⟩, ⟨rfl, rfl, trivial, AOEq.refl _⟩, ⟨rfl, rfl, trivial, AOEq.refl _⟩, ⟨rfl, rfl, trivial, AOEq.refl _⟩, ⟨rfl, rfl, trivial, AOEq.refl _⟩, trivial⟩, rfl⟩, rfl, fun h => by cases h⟩
 ·refine Or.inr (Or.inr ?_)
  refine ⟨true, [0, 1, 2, 3, 4, 5, 6, 7, 8, 9, 10, 11, 12, 13], rfl, Unit, _, _, _, _, of_fn st B 1 (by decide), fun _ _ => ?_⟩
  repeat refine Or.inl ?_
  refine ⟨fun hc => (by cases hc), fun _ => ?_⟩
  refine ⟨fun hc => (by have hc : decide ((x.size : Int) > 65536) = true := hc; rw [decide_eq_true_eq] at hc; omega), fun _ => ?_⟩
  refine Or.inl ⟨_, _, (divided_fn x (by omega)).frz, ?_⟩
  refine Or.inl (Or.inr (Or.inr ?_))
  refine ⟨true, [0, 1, 2, 3, 4, 5, 6, 7, 8, 9, 10, 11, 12, 13], rfl, Unit, _, _, _, _, names_fn st B 1 (by decide) (hT.wf (by omega)) (by have := hT.len; omega), fun _ _ => ?_⟩
  repeat refine Or.inl ?_
  refine ⟨[], Nat, fun k => k ≤ (st.fs 1).length ∧ (∀ j, j < k → ((st.fs 1).getD j dFl).2 ≠ x), fun k => [⟨34, [], .i .i64 k⟩], fun k => [], fun k => (st.fs 1).length - k,
   ⟨0, [], ⟨Nat.zero_le _, fun j hj => absurd hj (Nat.not_lt_zero j)⟩, rfl, rfl, rfl, rfl, rfl, ⟨rfl, rfl⟩, trivial⟩, ?_⟩
  rintro k ⟨hk, hno⟩
  have hk : k ≤ (st.fs 1).length := hk
  refine .inl ⟨fun hc => ?_, fun hc => ?_⟩
  ·have hc := dlt hc
   have hc : (k : Int) < (st.fs 1).length := hc
   have ek : ((k : Nat) : Int).toNat = k := Int.toNat_natCast _
   repeat refine Or.inl ?_
   refine ⟨⟨by omega, by omega⟩, ?_⟩
   have hl := lookF (st.fs 1) ((mkeys (st.fs 1)).getD ((k : Nat) : Int).toNat 0)
   rw [ek, mkeys_getD, mget_at hnd (by omega)] at hl
   have hgk : AV.i .i64 ((sortI (mkeys (st.fs 1))).getD ((k : Nat) : Int).toNat 0) = AV.i .i64 ((st.fs 1).getD k dFl).1 := by rw [hso, ek, mkeys_getD]
   rw [← hgk] at hl
   have hsk : ((st.fs 1).getD k dFl).2.size ≤ 200 := hT.sz _ (getD_memD dFl (by omega))
   have hdk := div_len ((st.fs 1).getD k dFl).2
   refine ⟨by omega, ?_⟩
   refine ⟨_, _, ⟨hkF, rfl, hl⟩, ?_⟩
   refine Or.inl ⟨_, _, equal_fn (divL ((st.fs 1).getD k dFl).2) (divL x) (by omega) (by omega), ?_⟩
   refine ⟨fun h2 => ?_, fun h2 => ?_⟩
   ·exfalso
    have h2 : decide (divL ((st.fs 1).getD k dFl).2 = divL x) = true := h2
    rw [bytes_dif, decide_eq_true_eq] at h2
    exact hall k (by omega) h2
   ·refine ⟨k + 1, [], ⟨by omega, fun j hj => hall j (by omega)⟩, by dsimp only; omega, rfl, rfl, rfl, rfl, rfl, ⟨rfl, wr (by omega) (by omega)⟩, trivial⟩
  ·refine Or.inl (Or.inr (Or.inr ?_))
   refine ⟨true, [0, 1, 2, 3, 4, 5, 6, 7, 8, 9, 10, 11, 12, 13], rfl, Unit, _, _, _, _, used_fn st B 1 (by decide) (by omega) (fun p hp => Nat.le_trans (hT.sz p hp) (by decide)) hBt, fun _ _ => ?_⟩
   have hub : usedL (st.fs 1) ≤ 40000 := Nat.le_trans husd (Nat.le_trans (Nat.mul_le_mul_left 200 (Nat.le_trans hTl hm)) (by decide))
   refine ⟨fun h3 => ?_, fun _ => ?_⟩
   ·exfalso
    have h3 : decide (IntKind.i64.wrap ((usedL (st.fs 1) : Int) + x.size) > 1048576) = true := h3
    rw [wr (by omega) (by omega), decide_eq_true_eq] at h3
    omega
   have ao0 : AOEq (mpB (fun c => .ag (ckA c)) (fun n => .i .i64 n) (dCk, 0) (incs st.us ((divL x).take 0)) B.ub B.uc) (usO st B) := AOEq.refl _
   repeat refine Or.inl ?_
   refine ⟨[], Nat × (Nat → Nat) × Nat, fun p => p.1 ≤ (divL x).length, fun p => [⟨57, [], .i .i64 p.1⟩], fun p => [⟨1, [], mpB (fun c => .ag (ckA c)) (fun n => .i .i64 n) (dCk, 0) (incs st.us ((divL x).take p.1)) p.2.1 p.2.2⟩], fun p => (divL x).length - p.1,
    ⟨(0, B.ub, B.uc), [], Nat.zero_le _, rfl, rfl, rfl, rfl, rfl, ⟨rfl, rfl⟩, ao0⟩, ?_⟩
   rintro ⟨q, ub, uc⟩ hql
   have hql : q ≤ (divL x).length := hql
   have hUq := hU.incs (divL x) q hql
   refine .inl ⟨fun hc => ?_, fun hc => ?_⟩
   ·have hc := dlt hc
    have hc : (q : Int) < (divL x).length := hc
    have eq : ((q : Nat) : Int).toNat = q := Int.toNat_natCast _
    have hcb := hUq.2 ((divL x).getD q dCk)
    have hds := incs_snoc (L := st.us) (l := divL x) (k := q) (by omega)
    have hlk := lookU (incs st.us ((divL x).take q)) ((divL x).getD q dCk)
    have hup2 := updU (incs st.us ((divL x).take q)) ub uc ((divL x).getD q dCk) (cntU (incs st.us ((divL x).take q)) ((divL x).getD q dCk) + 1)
    repeat refine Or.inl ?_
    refine ⟨⟨by omega, by omega⟩, ?_⟩
    have hbin : binI .add .i64 (cntU (incs st.us ((divL x).take q)) ((divL x).getD q dCk)) 1 = some (.i .i64 (cntU (incs st.us ((divL x).take q)) ((divL x).getD q dCk) + 1)) := by
     show some (AV.i .i64 (IntKind.i64.wrap _)) = _
     rw [wr (by omega) (by omega)]
    refine ⟨(mget (incs st.us ((divL x).take q)) ((divL x).getD q dCk)).isSome, cntU (incs st.us ((divL x).take q)) ((divL x).getD q dCk), cntU (incs st.us ((divL x).take q)) ((divL x).getD q dCk) + 1, _, _, _, _, _, ⟨keysU _, rfl, hlk, hbin, hup2⟩, ?_⟩
    have ao : AOEq (mpB (fun c => .ag (ckA c)) (fun n => .i .i64 n) (dCk, 0) (incs st.us ((divL x).take (q + 1))) (fun j => if j < (incs st.us ((divL x).take q)).length then ub j else uc) (if (mget (incs st.us ((divL x).take q)) ((divL x).getD q dCk)).isSome = true then uc else uc + 1)) (mpB (fun c => .ag (ckA c)) (fun n => .i .i64 n) (dCk, 0) (mset (incs st.us ((divL x).take q)) ((divL x).getD q dCk) (cntU (incs st.us ((divL x).take q)) ((divL x).getD q dCk) + 1)) (fun j => if j < (incs st.us ((divL x).take q)).length then ub j else uc) (if (mget (incs st.us ((divL x).take q)) ((divL x).getD q dCk)).isSome = true then uc else uc + 1)) := by
     rw [hds]
     exact AOEq.refl _
    refine ⟨(q + 1, _, _), [], (by show q + 1 ≤ (divL x).length; omega), by dsimp only; omega, rfl, rfl, rfl, rfl, rfl, ⟨rfl, wr (by omega) (by omega)⟩, ao⟩
   ·have hc := dnlt hc
    have hc : ((divL x).length : Int) ≤ (q : Nat) := hc
    have hte : (divL x).take q = divL x := List.take_of_length_le (by omega)
    repeat refine Or.inl ?_
    refine ⟨_, _, _, _, _, ⟨hkF, rfl, hup⟩, ?_⟩
    have aoU : AOEq (usO (putS st 1 x) (putB st B 1 ub uc)) (mpB (fun c => .ag (ckA c)) (fun n => .i .i64 n) (dCk, 0) (incs st.us ((divL x).take q)) ub uc) := by
     rw [hte]
     exact AOEq.refl _
    have w1 : IntKind.i64.wrap (st.nx 1 + 1) = st.nx 1 + 1 := wr (by omega) (by omega)
    have w2 : IntKind.i64.wrap (IntKind.i64.wrap (st.nx 1 + 1) - 1) = st.nx 1 := by
     rw [w1, wr (by omega) (by omega)]
     omega
    have aoC : AOEq (.cells 151 (stC (putS st 1 x))) (.cells 151 [.mo 1, .mo 2, .i .i64 (st.nx 0), .mo 3, .i .i64 (IntKind.i64.wrap (st.nx 1 + 1)), .mo 4, .i .i64 (st.nx 2), .mo 5, .i .i64 (st.nx 3), .mo 6, .i .i64 (st.nx 4), .mo 7, .i .i64 (st.nx 5), .mo 8, .i .i64 (st.nx 6), .mo 9, .i .i64 (st.nx 7), .mo 10, .i .i64 (st.nx 8), .mo 11, .i .i64 (st.nx 9), .mo 12, .i .i64 (st.nx 10), .mo 13, .i .i64 (st.nx 11)]) := by
     rw [w1]
     exact AOEq.refl _
    have hav : AVEq (.tup [.i .i64 (st.nx 1), .i .i64 0]) (.tup [.i .i64 (IntKind.i64.wrap (IntKind.i64.wrap (st.nx 1 + 1) - 1)), .i .i64 0]) := by
     rw [w2]
     exact AVEq.refl _
    exact ⟨putB st B 1 ub uc, [], hBk ub uc, ⟨⟨⟨rfl, rfl, hav⟩, trivial⟩, ⟨⟨rfl, rfl, rfl, aoC⟩, ⟨rfl, rfl, trivial, aoU⟩, ⟨rfl, rfl, trivial, AOEq.refl _⟩, ⟨rfl, rfl, trivial, AOEq.refl _⟩, ⟨rfl, rfl, trivial, AOEq.refl _⟩, ⟨rfl, rfl, trivial, AOEq.refl _⟩, ⟨rfl, rfl, trivial, AOEq.refl _⟩, ⟨rfl, rfl, trivial, AOEq.refl _⟩, ⟨rfl, rfl, trivial, AOEq.refl _⟩, ⟨rfl, rfl, trivial, AOEq.refl _⟩, ⟨rfl, rfl, trivial, AOEq.refl _⟩, ⟨rfl, rfl, trivial, AOEq.refl _⟩, ⟨rfl, rfl, trivial, AOEq.refl _⟩, ⟨rfl, rfl, trivial, AOEq.refl _⟩, trivial⟩, rfl⟩, rfl, fun h => by cases h⟩
 ·refine Or.inr (Or.inr ?_)
  refine ⟨true, [0, 1, 2, 3, 4, 5, 6, 7, 8, 9, 10, 11, 12, 13], rfl, Unit, _, _, _, _, of_fn st B 2 (by decide), fun _ _ => ?_⟩
  repeat refine Or.inl ?_
  refine ⟨fun hc => (by cases hc), fun _ => ?_⟩
  refine ⟨fun hc => (by have hc : decide ((x.size : Int) > 65536) = true := hc; rw [decide_eq_true_eq] at hc; omega), fun _ => ?_⟩
  refine Or.inl ⟨_, _, (divided_fn x (by omega)).frz, ?_⟩
  refine Or.inl (Or.inr (Or.inr ?_))
  refine ⟨true, [0, 1, 2, 3, 4, 5, 6, 7, 8, 9, 10, 11, 12, 13], rfl, Unit, _, _, _, _, names_fn st B 2 (by decide) (hT.wf (by omega)) (by have := hT.len; omega), fun _ _ => ?_⟩
  repeat refine Or.inl ?_
  refine ⟨[], Nat, fun k => k ≤ (st.fs 2).length ∧ (∀ j, j < k → ((st.fs 2).getD j dFl).2 ≠ x), fun k => [⟨34, [], .i .i64 k⟩], fun k => [], fun k => (st.fs 2).length - k,
   ⟨0, [], ⟨Nat.zero_le _, fun j hj => absurd hj (Nat.not_lt_zero j)⟩, rfl, rfl, rfl, rfl, rfl, ⟨rfl, rfl⟩, trivial⟩, ?_⟩
  rintro k ⟨hk, hno⟩
  have hk : k ≤ (st.fs 2).length := hk
  refine .inl ⟨fun hc => ?_, fun hc => ?_⟩
  ·have hc := dlt hc
   have hc : (k : Int) < (st.fs 2).length := hc
   have ek : ((k : Nat) : Int).toNat = k := Int.toNat_natCast _
   repeat refine Or.inl ?_
   refine ⟨⟨by omega, by omega⟩, ?_⟩
   have hl := lookF (st.fs 2) ((mkeys (st.fs 2)).getD ((k : Nat) : Int).toNat 0)
   rw [ek, mkeys_getD, mget_at hnd (by omega)] at hl
   have hgk : AV.i .i64 ((sortI (mkeys (st.fs 2))).getD ((k : Nat) : Int).toNat 0) = AV.i .i64 ((st.fs 2).getD k dFl).1 := by rw [hso, ek, mkeys_getD]
   rw [← hgk] at hl
   have hsk : ((st.fs 2).getD k dFl).2.size ≤ 200 := hT.sz _ (getD_memD dFl (by omega))
   have hdk := div_len ((st.fs 2).getD k dFl).2
   refine ⟨by omega, ?_⟩
   refine ⟨_, _, ⟨hkF, rfl, hl⟩, ?_⟩
   refine Or.inl ⟨_, _, equal_fn (divL ((st.fs 2).getD k dFl).2) (divL x) (by omega) (by omega), ?_⟩
   refine ⟨fun h2 => ?_, fun h2 => ?_⟩
   ·exfalso
    have h2 : decide (divL ((st.fs 2).getD k dFl).2 = divL x) = true := h2
    rw [bytes_dif, decide_eq_true_eq] at h2
    exact hall k (by omega) h2
   ·refine ⟨k + 1, [], ⟨by omega, fun j hj => hall j (by omega)⟩, by dsimp only; omega, rfl, rfl, rfl, rfl, rfl, ⟨rfl, wr (by omega) (by omega)⟩, trivial⟩
  ·refine Or.inl (Or.inr (Or.inr ?_))
   refine ⟨true, [0, 1, 2, 3, 4, 5, 6, 7, 8, 9, 10, 11, 12, 13], rfl, Unit, _, _, _, _, used_fn st B 2 (by decide) (by omega) (fun p hp => Nat.le_trans (hT.sz p hp) (by decide)) hBt, fun _ _ => ?_⟩
   have hub : usedL (st.fs 2) ≤ 40000 := Nat.le_trans husd (Nat.le_trans (Nat.mul_le_mul_left 200 (Nat.le_trans hTl hm)) (by decide))
   refine ⟨fun h3 => ?_, fun _ => ?_⟩
   ·exfalso
    have h3 : decide (IntKind.i64.wrap ((usedL (st.fs 2) : Int) + x.size) > 1048576) = true := h3
    rw [wr (by omega) (by omega), decide_eq_true_eq] at h3
    omega
   have ao0 : AOEq (mpB (fun c => .ag (ckA c)) (fun n => .i .i64 n) (dCk, 0) (incs st.us ((divL x).take 0)) B.ub B.uc) (usO st B) := AOEq.refl _
   repeat refine Or.inl ?_
   refine ⟨[], Nat × (Nat → Nat) × Nat, fun p => p.1 ≤ (divL x).length, fun p => [⟨57, [], .i .i64 p.1⟩], fun p => [⟨1, [], mpB (fun c => .ag (ckA c)) (fun n => .i .i64 n) (dCk, 0) (incs st.us ((divL x).take p.1)) p.2.1 p.2.2⟩], fun p => (divL x).length - p.1,
    ⟨(0, B.ub, B.uc), [], Nat.zero_le _, rfl, rfl, rfl, rfl, rfl, ⟨rfl, rfl⟩, ao0⟩, ?_⟩
   rintro ⟨q, ub, uc⟩ hql
   have hql : q ≤ (divL x).length := hql
   have hUq := hU.incs (divL x) q hql
   refine .inl ⟨fun hc => ?_, fun hc => ?_⟩
   ·have hc := dlt hc
    have hc : (q : Int) < (divL x).length := hc
    have eq : ((q : Nat) : Int).toNat = q := Int.toNat_natCast _
    have hcb := hUq.2 ((divL x).getD q dCk)
    have hds := incs_snoc (L := st.us) (l := divL x) (k := q) (by omega)
    have hlk := lookU (incs st.us ((divL x).take q)) ((divL x).getD q dCk)
    have hup2 := updU (incs st.us ((divL x).take q)) ub uc ((divL x).getD q dCk) (cntU (incs st.us ((divL x).take q)) ((divL x).getD q dCk) + 1)
    repeat refine Or.inl ?_
    refine ⟨⟨by omega, by omega⟩, ?_⟩
    have hbin : binI .add .i64 (cntU (incs st.us ((divL x).take q)) ((divL x).getD q dCk)) 1 = some (.i .i64 (cntU (incs st.us ((divL x).take q)) ((divL x).getD q dCk) + 1)) := by
     show some (AV.i .i64 (IntKind.i64.wrap _)) = _
     rw [wr (by omega) (by omega)]
    refine ⟨(mget (incs st.us ((divL x).take q)) ((divL x).getD q dCk)).isSome, cntU (incs st.us ((divL x).take q)) ((divL x).getD q dCk), cntU (incs st.us ((divL x).take q)) ((divL x).getD q dCk) + 1, _, _, _, _, _, ⟨keysU _, rfl, hlk, hbin, hup2⟩, ?_⟩
    have ao : AOEq (mpB (fun c => .ag (ckA c)) (fun n => .i .i64 n) (dCk, 0) (incs st.us ((divL x).take (q + 1))) (fun j => if j < (incs st.us ((divL x).take q)).length then ub j else uc) (if (mget (incs st.us ((divL x).take q)) ((divL x).getD q dCk)).isSome = true then uc else uc + 1)) (mpB (fun c => .ag (ckA c)) (fun n => .i .i64 n) (dCk, 0) (mset (incs st.us ((divL x).take q)) ((divL x).getD q dCk) (cntU (incs st.us ((divL x).take q)) ((divL x).getD q dCk) + 1)) (fun j => if j < (incs st.us ((divL x).take q)).length then ub j else uc) (if (mget (incs st.us ((divL x).take q)) ((divL x).getD q dCk)).isSome = true then uc else uc + 1)) := by
     rw [hds]
     exact AOEq.refl _
    refine ⟨(q + 1, _, _), [], (by show q + 1 ≤ (divL x).length; omega), by dsimp only; omega, rfl, rfl, rfl, rfl, rfl, ⟨rfl, wr (by omega) (by omega)⟩, ao⟩
   ·have hc := dnlt hc
    have hc : ((divL x).length : Int) ≤ (q : Nat) := hc
    have hte : (divL x).take q = divL x := List.take_of_length_le (by omega)
    repeat refine Or.inl ?_
    refine ⟨_, _, _, _, _, ⟨hkF, rfl, hup⟩, ?_⟩
    have aoU : AOEq (usO (putS st 2 x) (putB st B 2 ub uc)) (mpB (fun c => .ag (ckA c)) (fun n => .i .i64 n) (dCk, 0) (incs st.us ((divL x).take q)) ub uc) := by
     rw [hte]
     exact AOEq.refl _
    have w1 : IntKind.i64.wrap (st.nx 2 + 1) = st.nx 2 + 1 := wr (by omega) (by omega)
    have w2 : IntKind.i64.wrap (IntKind.i64.wrap (st.nx 2 + 1) - 1) = st.nx 2 := by
     rw [w1, wr (by omega) (by omega)]
     omega
    have aoC : AOEq (.cells 151 (stC (putS st 2 x))) (.cells 151 [.mo 1, .mo 2, .i .i64 (st.nx 0), .mo 3, .i .i64 (st.nx 1), .mo 4, .i .i64 (IntKind.i64.wrap (st.nx 2 + 1)), .mo 5, .i .i64 (st.nx 3), .mo 6, .i .i64 (st.nx 4), .mo 7, .i .i64 (st.nx 5), .mo 8, .i .i64 (st.nx 6), .mo 9, .i .i64 (st.nx 7), .mo 10, .i .i64 (st.nx 8), .mo 11, .i .i64 (st.nx 9), .mo 12, .i .i64 (st.nx 10), .mo 13, .i .i64 (st.nx 11)]) := by
     rw [w1]
     exact AOEq.refl _
    have hav : AVEq (.tup [.i .i64 (st.nx 2), .i .i64 0]) (.tup [.i .i64 (IntKind.i64.wrap (IntKind.i64.wrap (st.nx 2 + 1) - 1)), .i .i64 0]) := by
     rw [w2]
     exact AVEq.refl _
    exact ⟨putB st B 2 ub uc, [], hBk ub uc, ⟨⟨⟨rfl, rfl, hav⟩, trivial⟩, ⟨⟨rfl, rfl, rfl, aoC⟩, ⟨rfl, rfl, trivial, aoU⟩, ⟨rfl, rfl, trivial, AOEq.refl _⟩, ⟨rfl, rfl, trivial, AOEq.refl _⟩, ⟨rfl, rfl, trivial, AOEq.refl _⟩, ⟨rfl, rfl, trivial, AOEq.refl _⟩, ⟨rfl, rfl, trivial, AOEq.refl _⟩, ⟨rfl, rfl, trivial, AOEq.refl _⟩, ⟨rfl, rfl, trivial, AOEq.refl _⟩, ⟨rfl, rfl, trivial, AOEq.refl _⟩, ⟨rfl, rfl, trivial, AOEq.refl _⟩, ⟨rfl, rfl, trivial, AOEq.refl _⟩, ⟨rfl, rfl, trivial, AOEq.refl _⟩, ⟨rfl, rfl, trivial, AOEq.refl _⟩, trivial⟩, rfl⟩, rfl, fun h => by cases h⟩
 ·refine Or.inr (Or.inr ?_)
  refine ⟨true, [0, 1, 2, 3, 4, 5, 6, 7, 8, 9, 10, 11, 12, 13], rfl, Unit, _, _, _, _, of_fn st B 3 (by decide), fun _ _ => ?_⟩
  repeat refine Or.inl ?_
  refine ⟨fun hc => (by cases hc), fun _ => ?_⟩
  refine ⟨fun hc => (by have hc : decide ((x.size : Int) > 65536) = true := hc; rw [decide_eq_true_eq] at hc; omega), fun _ => ?_⟩
  refine Or.inl ⟨_, _, (divided_fn x (by omega)).frz, ?_⟩
  refine Or.inl (Or.inr (Or.inr ?_))
  refine ⟨true, [0, 1, 2, 3, 4, 5, 6, 7, 8, 9, 10, 11, 12, 13], rfl, Unit, _, _, _, _, names_fn st B 3 (by decide) (hT.wf (by omega)) (by have := hT.len; omega), fun _ _ => ?_⟩
  repeat refine Or.inl ?_
  refine ⟨[], Nat, fun k => k ≤ (st.fs 3).length ∧ (∀ j, j < k → ((st.fs 3).getD j dFl).2 ≠ x), fun k => [⟨34, [], .i .i64 k⟩], fun k => [], fun k => (st.fs 3).length - k,
   ⟨0, [], ⟨Nat.zero_le _, fun j hj => absurd hj (Nat.not_lt_zero j)⟩, rfl, rfl, rfl, rfl, rfl, ⟨rfl, rfl⟩, trivial⟩, ?_⟩
  rintro k ⟨hk, hno⟩
  have hk : k ≤ (st.fs 3).length := hk
  refine .inl ⟨fun hc => ?_, fun hc => ?_⟩
  ·have hc := dlt hc
   have hc : (k : Int) < (st.fs 3).length := hc
   have ek : ((k : Nat) : Int).toNat = k := Int.toNat_natCast _
   repeat refine Or.inl ?_
   refine ⟨⟨by omega, by omega⟩, ?_⟩
   have hl := lookF (st.fs 3) ((mkeys (st.fs 3)).getD ((k : Nat) : Int).toNat 0)
   rw [ek, mkeys_getD, mget_at hnd (by omega)] at hl
   have hgk : AV.i .i64 ((sortI (mkeys (st.fs 3))).getD ((k : Nat) : Int).toNat 0) = AV.i .i64 ((st.fs 3).getD k dFl).1 := by rw [hso, ek, mkeys_getD]
   rw [← hgk] at hl
   have hsk : ((st.fs 3).getD k dFl).2.size ≤ 200 := hT.sz _ (getD_memD dFl (by omega))
   have hdk := div_len ((st.fs 3).getD k dFl).2
   refine ⟨by omega, ?_⟩
   refine ⟨_, _, ⟨hkF, rfl, hl⟩, ?_⟩
   refine Or.inl ⟨_, _, equal_fn (divL ((st.fs 3).getD k dFl).2) (divL x) (by omega) (by omega), ?_⟩
   refine ⟨fun h2 => ?_, fun h2 => ?_⟩
   ·exfalso
    have h2 : decide (divL ((st.fs 3).getD k dFl).2 = divL x) = true := h2
    rw [bytes_dif, decide_eq_true_eq] at h2
    exact hall k (by omega) h2
   ·refine ⟨k + 1, [], ⟨by omega, fun j hj => hall j (by omega)⟩, by dsimp only; omega, rfl, rfl, rfl, rfl, rfl, ⟨rfl, wr (by omega) (by omega)⟩, trivial⟩
  ·refine Or.inl (Or.inr (Or.inr ?_))
   refine ⟨true, [0, 1, 2, 3, 4, 5, 6, 7, 8, 9, 10, 11, 12, 13], rfl, Unit, _, _, _, _, used_fn st B 3 (by decide) (by omega) (fun p hp => Nat.le_trans (hT.sz p hp) (by decide)) hBt, fun _ _ => ?_⟩
   have hub : usedL (st.fs 3) ≤ 40000 := Nat.le_trans husd (Nat.le_trans (Nat.mul_le_mul_left 200 (Nat.le_trans hTl hm)) (by decide))
   refine ⟨fun h3 => ?_, fun _ => ?_⟩
   ·exfalso
    have h3 : decide (IntKind.i64.wrap ((usedL (st.fs 3) : Int) + x.size) > 1048576) = true := h3
    rw [wr (by omega) (by omega), decide_eq_true_eq] at h3
    omega
   have ao0 : AOEq (mpB (fun c => .ag (ckA c)) (fun n => .i .i64 n) (dCk, 0) (incs st.us ((divL x).take 0)) B.ub B.uc) (usO st B) := AOEq.refl _
   repeat refine Or.inl ?_
   refine ⟨[], Nat × (Nat → Nat) × Nat, fun p => p.1 ≤ (divL x).length, fun p => [⟨57, [], .i .i64 p.1⟩], fun p => [⟨1, [], mpB (fun c => .ag (ckA c)) (fun n => .i .i64 n) (dCk, 0) (incs st.us ((divL x).take p.1)) p.2.1 p.2.2⟩], fun p => (divL x).length - p.1,
    ⟨(0, B.ub, B.uc), [], Nat.zero_le _, rfl, rfl, rfl, rfl, rfl, ⟨rfl, rfl⟩, ao0⟩, ?_⟩
   rintro ⟨q, ub, uc⟩ hql
   have hql : q ≤ (divL x).length := hql
   have hUq := hU.incs (divL x) q hql
   refine .inl ⟨fun hc => ?_, fun hc => ?_⟩
   ·have hc := dlt hc
    have hc : (q : Int) < (divL x).length := hc
    have eq : ((q : Nat) : Int).toNat = q := Int.toNat_natCast _
    have hcb := hUq.2 ((divL x).getD q dCk)
    have hds := incs_snoc (L := st.us) (l := divL x) (k := q) (by omega)
    have hlk := lookU (incs st.us ((divL x).take q)) ((divL x).getD q dCk)
    have hup2 := updU (incs st.us ((divL x).take q)) ub uc ((divL x).getD q dCk) (cntU (incs st.us ((divL x).take q)) ((divL x).getD q dCk) + 1)
    repeat refine Or.inl ?_
    refine ⟨⟨by omega, by omega⟩, ?_⟩
    have hbin : binI .add .i64 (cntU (incs st.us ((divL x).take q)) ((divL x).getD q dCk)) 1 = some (.i .i64 (cntU (incs st.us ((divL x).take q)) ((divL x).getD q dCk) + 1)) := by
     show some (AV.i .i64 (IntKind.i64.wrap _)) = _
     rw [wr (by omega) (by omega)]
    refine ⟨(mget (incs st.us ((divL x).take q)) ((divL x).getD q dCk)).isSome, cntU (incs st.us ((divL x).take q)) ((divL x).getD q dCk), cntU (incs st.us ((divL x).take q)) ((divL x).getD q dCk) + 1, _, _, _, _, _, ⟨keysU _, rfl, hlk, hbin, hup2⟩, ?_⟩
    have ao : AOEq (mpB (fun c => .ag (ckA c)) (fun n => .i .i64 n) (dCk, 0) (incs st.us ((divL x).take (q + 1))) (fun j => if j < (incs st.us ((divL x).take q)).length then ub j else uc) (if (mget (incs st.us ((divL x).take q)) ((divL x).getD q dCk)).isSome = true then uc else uc + 1)) (mpB (fun c => .ag (ckA c)) (fun n => .i .i64 n) (dCk, 0) (mset (incs st.us ((divL x).take q)) ((divL x).getD q dCk) (cntU (incs st.us ((divL x).take q)) ((divL x).getD q dCk) + 1)) (fun j => if j < (incs st.us ((divL x).take q)).length then ub j else uc) (if (mget (incs st.us ((divL x).take q)) ((divL x).getD q dCk)).isSome = true then uc else uc + 1)) := by
     rw [hds]
     exact AOEq.refl _
    refine ⟨(q + 1, _, _), [], (by show q + 1 ≤ (divL x).length; omega), by dsimp only; omega, rfl, rfl, rfl, rfl, rfl, ⟨rfl, wr (by omega) (by omega)⟩, ao⟩
   ·have hc := dnlt hc
    have hc : ((divL x).length : Int) ≤ (q : Nat) := hc
    have hte : (divL x).take q = divL x := List.take_of_length_le (by omega)
    repeat refine Or.inl ?_
    refine ⟨_, _, _, _, _, ⟨hkF, rfl, hup⟩, ?_⟩
    have aoU : AOEq (usO (putS st 3 x) (putB st B 3 ub uc)) (mpB (fun c => .ag (ckA c)) (fun n => .i .i64 n) (dCk, 0) (incs st.us ((divL x).take q)) ub uc) := by
     rw [hte]
     exact AOEq.refl _
    have w1 : IntKind.i64.wrap (st.nx 3 + 1) = st.nx 3 + 1 := wr (by omega) (by omega)
    have w2 : IntKind.i64.wrap (IntKind.i64.wrap (st.nx 3 + 1) - 1) = st.nx 3 := by
     rw [w1, wr (by omega) (by omega)]
     omega
    have aoC : AOEq (.cells 151 (stC (putS st 3 x))) (.cells 151 [.mo 1, .mo 2, .i .i64 (st.nx 0), .mo 3, .i .i64 (st.nx 1), .mo 4, .i .i64 (st.nx 2), .mo 5, .i .i64 (IntKind.i64.wrap (st.nx 3 + 1)), .mo 6, .i .i64 (st.nx 4), .mo 7, .i .i64 (st.nx 5), .mo 8, .i .i64 (st.nx 6), .mo 9, .i .i64 (st.nx 7), .mo 10, .i .i64 (st.nx 8), .mo 11, .i .i64 (st.nx 9), .mo 12, .i .i64 (st.nx 10), .mo 13, .i .i64 (st.nx 11)]) := by
     rw [w1]
     exact AOEq.refl _
    have hav : AVEq (.tup [.i .i64 (st.nx 3), .i .i64 0]) (.tup [.i .i64 (IntKind.i64.wrap (IntKind.i64.wrap (st.nx 3 + 1) - 1)), .i .i64 0]) := by
     rw [w2]
     exact AVEq.refl _
    exact ⟨putB st B 3 ub uc, [], hBk ub uc, ⟨⟨⟨rfl, rfl, hav⟩, trivial⟩, ⟨⟨rfl, rfl, rfl, aoC⟩, ⟨rfl, rfl, trivial, aoU⟩, ⟨rfl, rfl, trivial, AOEq.refl _⟩, ⟨rfl, rfl, trivial, AOEq.refl _⟩, ⟨rfl, rfl, trivial, AOEq.refl _⟩, ⟨rfl, rfl, trivial, AOEq.refl _⟩, ⟨rfl, rfl, trivial, AOEq.refl _⟩, ⟨rfl, rfl, trivial, AOEq.refl _⟩, ⟨rfl, rfl, trivial, AOEq.refl _⟩, ⟨rfl, rfl, trivial, AOEq.refl _⟩, ⟨rfl, rfl, trivial, AOEq.refl _⟩, ⟨rfl, rfl, trivial, AOEq.refl _⟩, ⟨rfl, rfl, trivial, AOEq.refl _⟩, ⟨rfl, rfl, trivial, AOEq.refl _⟩, trivial⟩, rfl⟩, rfl, fun h => by cases h⟩
 ·refine Or.inr (Or.inr ?_)
  refine ⟨true, [0, 1, 2, 3, 4, 5, 6, 7, 8, 9, 10, 11, 12, 13], rfl, Unit, _, _, _, _, of_fn st B 4 (by decide), fun _ _ => ?_⟩
  repeat refine Or.inl ?_
  refine ⟨fun hc => (by cases hc), fun _ => ?_⟩
  refine ⟨fun hc => (by have hc : decide ((x.size : Int) > 65536) = true := hc; rw [decide_eq_true_eq] at hc; omega), fun _ => ?_⟩
  refine Or.inl ⟨_, _, (divided_fn x (by omega)).frz, ?_⟩
  refine Or.inl (Or.inr (Or.inr ?_))
  refine ⟨true, [0, 1, 2, 3, 4, 5, 6, 7, 8, 9, 10, 11, 12, 13], rfl, Unit, _, _, _, _, names_fn st B 4 (by decide) (hT.wf (by omega)) (by have := hT.len; omega), fun _ _ => ?_⟩
  repeat refine Or.inl ?_
  refine ⟨[], Nat, fun k => k ≤ (st.fs 4).length ∧ (∀ j, j < k → ((st.fs 4).getD j dFl).2 ≠ x), fun k => [⟨34, [], .i .i64 k⟩], fun k => [], fun k => (st.fs 4).length - k,
   ⟨0, [], ⟨Nat.zero_le _, fun j hj => absurd hj (Nat.not_lt_zero j)⟩, rfl, rfl, rfl, rfl, rfl, ⟨rfl, rfl⟩, trivial⟩, ?_⟩
  rintro k ⟨hk, hno⟩
  have hk : k ≤ (st.fs 4).length := hk
  refine .inl ⟨fun hc => ?_, fun hc => ?_⟩
  ·have hc := dlt hc
   have hc : (k : Int) < (st.fs 4).length := hc
   have ek : ((k : Nat) : Int).toNat = k := Int.toNat_natCast _
   repeat refine Or.inl ?_
   refine ⟨⟨by omega, by omega⟩, ?_⟩
   have hl := lookF (st.fs 4) ((mkeys (st.fs 4)).getD ((k : Nat) : Int).toNat 0)
   rw [ek, mkeys_getD, mget_at hnd (by omega)] at hl
   have hgk : AV.i .i64 ((sortI (mkeys (st.fs 4))).getD ((k : Nat) : Int).toNat 0) = AV.i .i64 ((st.fs 4).getD k dFl).1 := by rw [hso, ek, mkeys_getD]
   rw [← hgk] at hl
   have hsk : ((st.fs 4).getD k dFl).2.size ≤ 200 := hT.sz _ (getD_memD dFl (by omega))
   have hdk := div_len ((st.fs 4).getD k dFl).2
   refine ⟨by omega, ?_⟩
   refine ⟨_, _, ⟨hkF, rfl, hl⟩, ?_⟩
   refine Or.inl ⟨_, _, equal_fn (divL ((st.fs 4).getD k dFl).2) (divL x) (by omega) (by omega), ?_⟩
   refine ⟨fun h2 => ?_, fun h2 => ?_⟩
   ·exfalso
    have h2 : decide (divL ((st.fs 4).getD k dFl).2 = divL x) = true := h2
    rw [bytes_dif, decide_eq_true_eq] at h2
    exact hall k (by omega) h2
   ·refine ⟨k + 1, [], ⟨by omega, fun j hj => hall j (by omega)⟩, by dsimp only; omega, rfl, rfl, rfl, rfl, rfl, ⟨rfl, wr (by omega) (by omega)⟩, trivial⟩
  ·refine Or.inl (Or.inr (Or.inr ?_))
   refine ⟨true, [0, 1, 2, 3, 4, 5, 6, 7, 8, 9, 10, 11, 12, 13], rfl, Unit, _, _, _, _, used_fn st B 4 (by decide) (by omega) (fun p hp => Nat.le_trans (hT.sz p hp) (by decide)) hBt, fun _ _ => ?_⟩
   have hub : usedL (st.fs 4) ≤ 40000 := Nat.le_trans husd (Nat.le_trans (Nat.mul_le_mul_left 200 (Nat.le_trans hTl hm)) (by decide))
   refine ⟨fun h3 => ?_, fun _ => ?_⟩
   ·exfalso
    have h3 : decide (IntKind.i64.wrap ((usedL (st.fs 4) : Int) + x.size) > 1048576) = true := h3
    rw [wr (by omega) (by omega), decide_eq_true_eq] at h3
    omega
   have ao0 : AOEq (mpB (fun c => .ag (ckA c)) (fun n => .i .i64 n) (dCk, 0) (incs st.us ((divL x).take 0)) B.ub B.uc) (usO st B) := AOEq.refl _
   repeat refine Or.inl ?_
   refine ⟨[], Nat × (Nat → Nat) × Nat, fun p => p.1 ≤ (divL x).length, fun p => [⟨57, [], .i .i64 p.1⟩], fun p => [⟨1, [], mpB (fun c => .ag (ckA c)) (fun n => .i .i64 n) (dCk, 0) (incs st.us ((divL x).take p.1)) p.2.1 p.2.2⟩], fun p => (divL x).length - p.1,
    ⟨(0, B.ub, B.uc), [], Nat.zero_le _, rfl, rfl, rfl, rfl, rfl, ⟨rfl, rfl⟩, ao0⟩, ?_⟩
   rintro ⟨q, ub, uc⟩ hql
   have hql : q ≤ (divL x).length := hql
   have hUq := hU.incs (divL x) q hql
   refine .inl ⟨fun hc => ?_, fun hc => ?_⟩
   ·have hc := dlt hc
    have hc : (q : Int) < (divL x).length := hc
    have eq : ((q : Nat) : Int).toNat = q := Int.toNat_natCast _
    have hcb := hUq.2 ((divL x).getD q dCk)
    have hds := incs_snoc (L := st.us) (l := divL x) (k := q) (by omega)
    have hlk := lookU (incs st.us ((divL x).take q)) ((divL x).getD q dCk)
    have hup2 := updU (incs st.us ((divL x).take q)) ub uc ((divL x).getD q dCk) (cntU (incs st.us ((divL x).take q)) ((divL x).getD q dCk) + 1)
    repeat refine Or.inl ?_
    refine ⟨⟨by omega, by omega⟩, ?_⟩
    have hbin : binI .add .i64 (cntU (incs st.us ((divL x).take q)) ((divL x).getD q dCk)) 1 = some (.i .i64 (cntU (incs st.us ((divL x).take q)) ((divL x).getD q dCk) + 1)) := by
     show some (AV.i .i64 (IntKind.i64.wrap _)) = _
     rw [wr (by omega) (by omega)]
    refine ⟨(mget (incs st.us ((divL x).take q)) ((divL x).getD q dCk)).isSome, cntU (incs st.us ((divL x).take q)) ((divL x).getD q dCk), cntU (incs st.us ((divL x).take q)) ((divL x).getD q dCk) + 1, _, _, _, _, _, ⟨keysU _, rfl, hlk, hbin, hup2⟩, ?_⟩
    have ao : AOEq (mpB (fun c => .ag (ckA c)) (fun n => .i .i64 n) (dCk, 0) (incs st.us ((divL x).take (q + 1))) (fun j => if j < (incs st.us ((divL x).take q)).length then ub j else uc) (if (mget (incs st.us ((divL x).take q)) ((divL x).getD q dCk)).isSome = true then uc else uc + 1)) (mpB (fun c => .ag (ckA c)) (fun n => .i .i64 n) (dCk, 0) (mset (incs st.us ((divL x).take q)) ((divL x).getD q dCk) (cntU (incs st.us ((divL x).take q)) ((divL x).getD q dCk) + 1)) (fun j => if j < (incs st.us ((divL x).take q)).length then ub j else uc) (if (mget (incs st.us ((divL x).take q)) ((divL x).getD q dCk)).isSome = true then uc else uc + 1)) := by
     rw [hds]
     exact AOEq.refl _
    refine ⟨(q + 1, _, _), [], (by show q + 1 ≤ (divL x).length; omega), by dsimp only; omega, rfl, rfl, rfl, rfl, rfl, ⟨rfl, wr (by omega) (by omega)⟩, ao⟩
   ·have hc := dnlt hc
    have hc : ((divL x).length : Int) ≤ (q : Nat) := hc
    have hte : (divL x).take q = divL x := List.take_of_length_le (by omega)
    repeat refine Or.inl ?_
    refine ⟨_, _, _, _, _, ⟨hkF, rfl, hup⟩, ?_⟩
    have aoU : AOEq (usO (putS st 4 x) (putB st B 4 ub uc)) (mpB (fun c => .ag (ckA c)) (fun n => .i .i64 n) (dCk, 0) (incs st.us ((divL x).take q)) ub uc) := by
     rw [hte]
     exact AOEq.refl _
    have w1 : IntKind.i64.wrap (st.nx 4 + 1) = st.nx 4 + 1 := wr (by omega) (by omega)
    have w2 : IntKind.i64.wrap (IntKind.i64.wrap (st.nx 4 + 1) - 1) = st.nx 4 := by
     rw [w1, wr (by omega) (by omega)]
     omega
    have aoC : AOEq (.cells 151 (stC (putS st 4 x))) (.cells 151 [.mo 1, .mo 2, .i .i64 (st.nx 0), .mo 3, .i .i64 (st.nx 1), .mo 4, .i .i64 (st.nx 2), .mo 5, .i .i64 (st.nx 3), .mo 6, .i .i64 (IntKind.i64.wrap (st.nx 4 + 1)), .mo 7, .i .i64 (st.nx 5), .mo 8, .i .i64 (st.nx 6), .mo 9, .i .i64 (st.nx 7), .mo 10, .i .i64 (st.nx 8), .mo 11, .i .i64 (st.nx 9), .mo 12, .i .i64 (st.nx 10), .mo 13, .i .i64 (st.nx 11)]) := by
     rw [w1]
     exact AOEq.refl _
    have hav : AVEq (.tup [.i .i64 (st.nx 4), .i .i64 0]) (.tup [.i .i64 (IntKind.i64.wrap (IntKind.i64.wrap (st.nx 4 + 1) - 1)), .i .i64 0]) := by
     rw [w2]
     exact AVEq.refl _
    exact ⟨putB st B 4 ub uc, [], hBk ub uc, ⟨⟨⟨rfl, rfl, hav⟩, trivial⟩, ⟨⟨rfl, rfl, rfl, aoC⟩, ⟨rfl, rfl, trivial, aoU⟩, ⟨rfl, rfl, trivial, AOEq.refl _⟩, ⟨rfl, rfl, trivial, AOEq.refl _⟩, ⟨rfl, rfl, trivial, AOEq.refl _⟩, ⟨rfl, rfl, trivial, AOEq.refl _⟩, ⟨rfl, rfl, trivial, AOEq.refl _⟩, ⟨rfl, rfl, trivial, AOEq.refl _⟩, ⟨rfl, rfl, trivial, AOEq.refl _⟩, ⟨rfl, rfl, trivial, AOEq.refl _⟩, ⟨rfl, rfl, trivial, AOEq.refl _⟩, ⟨rfl, rfl, trivial, AOEq.refl _⟩, ⟨rfl, rfl, trivial, AOEq.refl _⟩, ⟨rfl, rfl, trivial, AOEq.refl _⟩, trivial⟩, rfl⟩, rfl, fun h => by cases h⟩
 ·refine Or.inr (Or.inr ?_)
  refine ⟨true, [0, 1, 2, 3, 4, 5, 6, 7, 8, 9, 10, 11, 12, 13], rfl, Unit, _, _, _, _, of_fn st B 5 (by decide), fun _ _ => ?_⟩
  repeat refine Or.inl ?_
  refine ⟨fun hc => (by cases hc), fun _ => ?_⟩
  refine ⟨fun hc => (by have hc : decide ((x.size : Int) > 65536) = true := hc; rw [decide_eq_true_eq] at hc; omega), fun _ => ?_⟩
  refine Or.inl ⟨_, _, (divided_fn x (by omega)).frz, ?_⟩
  refine Or.inl (Or.inr (Or.inr ?_))
  refine ⟨true, [0, 1, 2, 3, 4, 5, 6, 7, 8, 9, 10, 11, 12, 13], rfl, Unit, _, _, _, _, names_fn st B 5 (by decide) (hT.wf (by omega)) (by have := hT.len; omega), fun _ _ => ?_⟩
  repeat refine Or.inl ?_
  refine ⟨[], Nat, fun k => k ≤ (st.fs 5).length ∧ (∀ j, j < k → ((st.fs 5).getD j dFl).2 ≠ x), fun k => [⟨34, [], .i .i64 k⟩], fun k => [], fun k => (st.fs 5).length - k,
   ⟨0, [], ⟨Nat.zero_le _, fun j hj => absurd hj (Nat.not_lt_zero j)⟩, rfl, rfl, rfl, rfl, rfl, ⟨rfl, rfl⟩, trivial⟩, ?_⟩
  rintro k ⟨hk, hno⟩
  have hk : k ≤ (st.fs 5).length := hk
  refine .inl ⟨fun hc => ?_, fun hc => ?_⟩
  ·have hc := dlt hc
   have hc : (k : Int) < (st.fs 5).length := hc
   have ek : ((k : Nat) : Int).toNat = k := Int.toNat_natCast _
   repeat refine Or.inl ?_
   refine ⟨⟨by omega, by omega⟩, ?_⟩
   have hl := lookF (st.fs 5) ((mkeys (st.fs 5)).getD ((k : Nat) : Int).toNat 0)
   rw [ek, mkeys_getD, mget_at hnd (by omega)] at hl
   have hgk : AV.i .i64 ((sortI (mkeys (st.fs 5))).getD ((k : Nat) : Int).toNat 0) = AV.i .i64 ((st.fs 5).getD k dFl).1 := by rw [hso, ek, mkeys_getD]
   rw [← hgk] at hl
   have hsk : ((st.fs 5).getD k dFl).2.size ≤ 200 := hT.sz _ (getD_memD dFl (by omega))
   have hdk := div_len ((st.fs 5).getD k dFl).2
   refine ⟨by omega, ?_⟩
   refine ⟨_, _, ⟨hkF, rfl, hl⟩, ?_⟩
   refine Or.inl ⟨_, _, equal_fn (divL ((st.fs 5).getD k dFl).2) (divL x) (by omega) (by omega), ?_⟩
   refine ⟨fun h2 => ?_, fun h2 => ?_⟩
   ·exfalso
    have h2 : decide (divL ((st.fs 5).getD k dFl).2 = divL x) = true := h2
    rw [bytes_dif, decide_eq_true_eq] at h2
    exact hall k (by omega) h2
   ·refine ⟨k + 1, [], ⟨by omega, fun j hj => hall j (by omega)⟩, by dsimp only; omega, rfl, rfl, rfl, rfl, rfl, ⟨rfl, wr (by omega) (by omega)⟩, trivial⟩
  ·refine Or.inl (Or.inr (Or.inr ?_))
   refine ⟨true, [0, 1, 2, 3, 4, 5, 6, 7, 8, 9, 10, 11, 12, 13], rfl, Unit, _, _, _, _, used_fn st B 5 (by decide) (by omega) (fun p hp => Nat.le_trans (hT.sz p hp) (by decide)) hBt, fun _ _ => ?_⟩
   have hub : usedL (st.fs 5) ≤ 40000 := Nat.le_trans husd (Nat.le_trans (Nat.mul_le_mul_left 200 (Nat.le_trans hTl hm)) (by decide))
   refine ⟨fun h3 => ?_, fun _ => ?_⟩
   ·exfalso
    have h3 : decide (IntKind.i64.wrap ((usedL (st.fs 5) : Int) + x.size) > 1048576) = true := h3
    rw [wr (by omega) (by omega), decide_eq_true_eq] at h3
    omega
   have ao0 : AOEq (mpB (fun c => .ag (ckA c)) (fun n => .i .i64 n) (dCk, 0) (incs st.us ((divL x).take 0)) B.ub B.uc) (usO st B) := AOEq.refl _
   repeat refine Or.inl ?_
   refine ⟨[], Nat × (Nat → Nat) × Nat, fun p => p.1 ≤ (divL x).length, fun p => [⟨57, [], .i .i64 p.1⟩], fun p => [⟨1, [], mpB (fun c => .ag (ckA c)) (fun n => .i .i64 n) (dCk, 0) (incs st.us ((divL x).take p.1)) p.2.1 p.2.2⟩], fun p => (divL x).length - p.1,
    ⟨(0, B.ub, B.uc), [], Nat.zero_le _, rfl, rfl, rfl, rfl, rfl, ⟨rfl, rfl⟩, ao0⟩, ?_⟩
   rintro ⟨q, ub, uc⟩ hql
   have hql : q ≤ (divL x).length := hql
   have hUq := hU.incs (divL x) q hql
   refine .inl ⟨fun hc => ?_, fun hc => ?_⟩
   ·have hc := dlt hc
    have hc : (q : Int) < (divL x).length := hc
    have eq : ((q : Nat) : Int).toNat = q := Int.toNat_natCast _
    have hcb := hUq.2 ((divL x).getD q dCk)
    have hds := incs_snoc (L := st.us) (l := divL x) (k := q) (by omega)
    have hlk := lookU (incs st.us ((divL x).take q)) ((divL x).getD q dCk)
    have hup2 := updU (incs st.us ((divL x).take q)) ub uc ((divL x).getD q dCk) (cntU (incs st.us ((divL x).take q)) ((divL x).getD q dCk) + 1)
    repeat refine Or.inl ?_
    refine ⟨⟨by omega, by omega⟩, ?_⟩
    have hbin : binI .add .i64 (cntU (incs st.us ((divL x).take q)) ((divL x).getD q dCk)) 1 = some (.i .i64 (cntU (incs st.us ((divL x).take q)) ((divL x).getD q dCk) + 1)) := by
     show some (AV.i .i64 (IntKind.i64.wrap _)) = _
     rw [wr (by omega) (by omega)]
    refine ⟨(mget (incs st.us ((divL x).take q)) ((divL x).getD q dCk)).isSome, cntU (incs st.us ((divL x).take q)) ((divL x).getD q dCk), cntU (incs st.us ((divL x).take q)) ((divL x).getD q dCk) + 1, _, _, _, _, _, ⟨keysU _, rfl, hlk, hbin, hup2⟩, ?_⟩
    have ao : AOEq (mpB (fun c => .ag (ckA c)) (fun n => .i .i64 n) (dCk, 0) (incs st.us ((divL x).take (q + 1))) (fun j => if j < (incs st.us ((divL x).take q)).length then ub j else uc) (if (mget (incs st.us ((divL x).take q)) ((divL x).getD q dCk)).isSome = true then uc else uc + 1)) (mpB (fun c => .ag (ckA c)) (fun n => .i .i64 n) (dCk, 0) (mset (incs st.us ((divL x).take q)) ((divL x).getD q dCk) (cntU (incs st.us ((divL x).take q)) ((divL x).getD q dCk) + 1)) (fun j => if j < (incs st.us ((divL x).take q)).length then ub j else uc) (if (mget (incs st.us ((divL x).take q)) ((divL x).getD q dCk)).isSome = true then uc else uc + 1)) := by
     rw [hds]
     exact AOEq.refl _
    refine ⟨(q + 1, _, _), [], (by show q + 1 ≤ (divL x).length; omega), by dsimp only; omega, rfl, rfl, rfl, rfl, rfl, ⟨rfl, wr (by omega) (by omega)⟩, ao⟩
   ·have hc := dnlt hc
    have hc : ((divL x).length : Int) ≤ (q : Nat) := hc
    have hte : (divL x).take q = divL x := List.take_of_length_le (by omega)
    repeat refine Or.inl ?_
    refine ⟨_, _, _, _, _, ⟨hkF, rfl, hup⟩, ?_⟩
    have aoU : AOEq (usO (putS st 5 x) (putB st B 5 ub uc)) (mpB (fun c => .ag (ckA c)) (fun n => .i .i64 n) (dCk, 0) (incs st.us ((divL x).take q)) ub uc) := by
     rw [hte]
     exact AOEq.refl _
    have w1 : IntKind.i64.wrap (st.nx 5 + 1) = st.nx 5 + 1 := wr (by omega) (by omega)
    have w2 : IntKind.i64.wrap (IntKind.i64.wrap (st.nx 5 + 1) - 1) = st.nx 5 := by
     rw [w1, wr (by omega) (by omega)]
     omega
    have aoC : AOEq (.cells 151 (stC (putS st 5 x))) (.cells 151 [.mo 1, .mo 2, .i .i64 (st.nx 0), .mo 3, .i .i64 (st.nx 1), .mo 4, .i .i64 (st.nx 2), .mo 5, .i .i64 (st.nx 3), .mo 6, .i .i64 (st.nx 4), .mo 7, .i .i64 (IntKind.i64.wrap (st.nx 5 + 1)), .mo 8, .i .i64 (st.nx 6), .mo 9, .i .i64 (st.nx 7), .mo 10, .i .i64 (st.nx 8), .mo 11, .i .i64 (st.nx 9), .mo 12, .i .i64 (st.nx 10), .mo 13, .i .i64 (st.nx 11)]) := by
     rw [w1]
     exact AOEq.refl _
    have hav : AVEq (.tup [.i .i64 (st.nx 5), .i .i64 0]) (.tup [.i .i64 (IntKind.i64.wrap (IntKind.i64.wrap (st.nx 5 + 1) - 1)), .i .i64 0]) := by
     rw [w2]
     exact AVEq.refl _
    exact ⟨putB st B 5 ub uc, [], hBk ub uc, ⟨⟨⟨rfl, rfl, hav⟩, trivial⟩, ⟨⟨rfl, rfl, rfl, aoC⟩, ⟨rfl, rfl, trivial, aoU⟩, ⟨rfl, rfl, trivial, AOEq.refl _⟩, ⟨rfl, rfl, trivial, AOEq.refl _⟩, ⟨rfl, rfl, trivial, AOEq.refl _⟩, ⟨rfl, rfl, trivial, AOEq.refl _⟩, ⟨rfl, rfl, trivial, AOEq.refl _⟩, ⟨rfl, rfl, trivial, AOEq.refl _⟩, ⟨rfl, rfl, trivial, AOEq.refl _⟩, ⟨rfl, rfl, trivial, AOEq.refl _⟩, ⟨rfl, rfl, trivial, AOEq.refl _⟩, ⟨rfl, rfl, trivial, AOEq.refl _⟩, ⟨rfl, rfl, trivial, AOEq.refl _⟩, ⟨rfl, rfl, trivial, AOEq.refl _⟩, trivial⟩, rfl⟩, rfl, fun h => by cases h⟩
 ·refine Or.inr (Or.inr ?_)
  refine ⟨true, [0, 1, 2, 3, 4, 5, 6, 7, 8, 9, 10, 11, 12, 13], rfl, Unit, _, _, _, _, of_fn st B 6 (by decide), fun _ _ => ?_⟩
  repeat refine Or.inl ?_
  refine ⟨fun hc => (by cases hc), fun _ => ?_⟩
  refine ⟨fun hc => (by have hc : decide ((x.size : Int) > 65536) = true := hc; rw [decide_eq_true_eq] at hc; omega), fun _ => ?_⟩
  refine Or.inl ⟨_, _, (divided_fn x (by omega)).frz, ?_⟩
  refine Or.inl (Or.inr (Or.inr ?_))
  refine ⟨true, [0, 1, 2, 3, 4, 5, 6, 7, 8, 9, 10, 11, 12, 13], rfl, Unit, _, _, _, _, names_fn st B 6 (by decide) (hT.wf (by omega)) (by have := hT.len; omega), fun _ _ => ?_⟩
  repeat refine Or.inl ?_
  refine ⟨[], Nat, fun k => k ≤ (st.fs 6).length ∧ (∀ j, j < k → ((st.fs 6).getD j dFl).2 ≠ x), fun k => [⟨34, [], .i .i64 k⟩], fun k => [], fun k => (st.fs 6).length - k,
   ⟨0, [], ⟨Nat.zero_le _, fun j hj => absurd hj (Nat.not_lt_zero j)⟩, rfl, rfl, rfl, rfl, rfl, ⟨rfl, rfl⟩, trivial⟩, ?_⟩
  rintro k ⟨hk, hno⟩
  have hk : k ≤ (st.fs 6).length := hk
  refine .inl ⟨fun hc => ?_, fun hc => ?_⟩
  ·have hc := dlt hc
   have hc : (k : Int) < (st.fs 6).length := hc
   have ek : ((k : Nat) : Int).toNat = k := Int.toNat_natCast _
   repeat refine Or.inl ?_
   refine ⟨⟨by omega, by omega⟩, ?_⟩
   have hl := lookF (st.fs 6) ((mkeys (st.fs 6)).getD ((k : Nat) : Int).toNat 0)
   rw [ek, mkeys_getD, mget_at hnd (by omega)] at hl
   have hgk : AV.i .i64 ((sortI (mkeys (st.fs 6))).getD ((k : Nat) : Int).toNat 0) = AV.i .i64 ((st.fs 6).getD k dFl).1 := by rw [hso, ek, mkeys_getD]
   rw [← hgk] at hl
   have hsk : ((st.fs 6).getD k dFl).2.size ≤ 200 := hT.sz _ (getD_memD dFl (by omega))
   have hdk := div_len ((st.fs 6).getD k dFl).2
   refine ⟨by omega, ?_⟩
   refine ⟨_, _, ⟨hkF, rfl, hl⟩, ?_⟩
   refine Or.inl ⟨_, _, equal_fn (divL ((st.fs 6).getD k dFl).2) (divL x) (by omega) (by omega), ?_⟩
   refine ⟨fun h2 => ?_, fun h2 => ?_⟩
   ·exfalso
    have h2 : decide (divL ((st.fs 6).getD k dFl).2 = divL x) = true := h2
    rw [bytes_dif, decide_eq_true_eq] at h2
    exact hall k (by omega) h2
   ·refine ⟨k + 1, [], ⟨by omega, fun j hj => hall j (by omega)⟩, by dsimp only; omega, rfl, rfl, rfl, rfl, rfl, ⟨rfl, wr (by omega) (by omega)⟩, trivial⟩
  ·refine Or.inl (Or.inr (Or.inr ?_))
   refine ⟨true, [0, 1, 2, 3, 4, 5, 6, 7, 8, 9, 10, 11, 12, 13], rfl, Unit, _, _, _, _, used_fn st B 6 (by decide) (by omega) (fun p hp => Nat.le_trans (hT.sz p hp) (by decide)) hBt, fun _ _ => ?_⟩
   have hub : usedL (st.fs 6) ≤ 40000 := Nat.le_trans husd (Nat.le_trans (Nat.mul_le_mul_left 200 (Nat.le_trans hTl hm)) (by decide))
   refine ⟨fun h3 => ?_, fun _ => ?_⟩
   ·exfalso
    have h3 : decide (IntKind.i64.wrap ((usedL (st.fs 6) : Int) + x.size) > 1048576) = true := h3
    rw [wr (by omega) (by omega), decide_eq_true_eq] at h3
    omega
   have ao0 : AOEq (mpB (fun c => .ag (ckA c)) (fun n => .i .i64 n) (dCk, 0) (incs st.us ((divL x).take 0)) B.ub B.uc) (usO st B) := AOEq.refl _
   repeat refine Or.inl ?_
   refine ⟨[], Nat × (Nat → Nat) × Nat, fun p => p.1 ≤ (divL x).length, fun p => [⟨57, [], .i .i64 p.1⟩], fun p => [⟨1, [], mpB (fun c => .ag (ckA c)) (fun n => .i .i64 n) (dCk, 0) (incs st.us ((divL x).take p.1)) p.2.1 p.2.2⟩], fun p => (divL x).length - p.1,
    ⟨(0, B.ub, B.uc), [], Nat.zero_le _, rfl, rfl, rfl, rfl, rfl, ⟨rfl, rfl⟩, ao0⟩, ?_⟩
   rintro ⟨q, ub, uc⟩ hql
   have hql : q ≤ (divL x).length := hql
   have hUq := hU.incs (divL x) q hql
   refine .inl ⟨fun hc => ?_, fun hc => ?_⟩
   ·have hc := dlt hc
    have hc : (q : Int) < (divL x).length := hc
    have eq : ((q : Nat) : Int).toNat = q := Int.toNat_natCast _
    have hcb := hUq.2 ((divL x).getD q dCk)
    have hds := incs_snoc (L := st.us) (l := divL x) (k := q) (by omega)
    have hlk := lookU (incs st.us ((divL x).take q)) ((divL x).getD q dCk)
    have hup2 := updU (incs st.us ((divL x).take q)) ub uc ((divL x).getD q dCk) (cntU (incs st.us ((divL x).take q)) ((divL x).getD q dCk) + 1)
    repeat refine Or.inl ?_
    refine ⟨⟨by omega, by omega⟩, ?_⟩
    have hbin : binI .add .i64 (cntU (incs st.us ((divL x).take q)) ((divL x).getD q dCk)) 1 = some (.i .i64 (cntU (incs st.us ((divL x).take q)) ((divL x).getD q dCk) + 1)) := by
     show some (AV.i .i64 (IntKind.i64.wrap _)) = _
     rw [wr (by omega) (by omega)]
    refine ⟨(mget (incs st.us ((divL x).take q)) ((divL x).getD q dCk)).isSome, cntU (incs st.us ((divL x).take q)) ((divL x).getD q dCk), cntU (incs st.us ((divL x).take q)) ((divL x).getD q dCk) + 1, _, _, _, _, _, ⟨keysU _, rfl, hlk, hbin, hup2⟩, ?_⟩
    have ao : AOEq (mpB (fun c => .ag (ckA c)) (fun n => .i .i64 n) (dCk, 0) (incs st.us ((divL x).take (q + 1))) (fun j => if j < (incs st.us ((divL x).take q)).length then ub j else uc) (if (mget (incs st.us ((divL x).take q)) ((divL x).getD q dCk)).isSome = true then uc else uc + 1)) (mpB (fun c => .ag (ckA c)) (fun n => .i .i64 n) (dCk, 0) (mset (incs st.us ((divL x).take q)) ((divL x).getD q dCk) (cntU (incs st.us ((divL x).take q)) ((divL x).getD q dCk) + 1)) (fun j => if j < (incs st.us ((divL x).take q)).length then ub j else uc) (if (mget (incs st.us ((divL x).take q)) ((divL x).getD q dCk)).isSome = true then uc else uc + 1)) := by
     rw [hds]
     exact AOEq.refl _
    refine ⟨(q + 1, _, _), [], (by show q + 1 ≤ (divL x).length; omega), by dsimp only; omega, rfl, rfl, rfl, rfl, rfl, ⟨rfl, wr (by omega) (by omega)⟩, ao⟩
   ·have hc := dnlt hc
    have hc : ((divL x).length : Int) ≤ (q : Nat) := hc
    have hte : (divL x).take q = divL x := List.take_of_length_le (by omega)
    repeat refine Or.inl ?_
    refine ⟨_, _, _, _, _, ⟨hkF, rfl, hup⟩, ?_⟩
    have aoU : AOEq (usO (putS st 6 x) (putB st B 6 ub uc)) (mpB (fun c => .ag (ckA c)) (fun n => .i .i64 n) (dCk, 0) (incs st.us ((divL x).take q)) ub uc) := by
     rw [hte]
     exact AOEq.refl _
    have w1 : IntKind.i64.wrap (st.nx 6 + 1) = st.nx 6 + 1 := wr (by omega) (by omega)
    have w2 : IntKind.i64.wrap (IntKind.i64.wrap (st.nx 6 + 1) - 1) = st.nx 6 := by
     rw [w1, wr (by omega) (by omega)]
     omega
    have aoC : AOEq (.cells 151 (stC (putS st 6 x))) (.cells 151 [.mo 1, .mo 2, .i .i64 (st.nx 0), .mo 3, .i .i64 (st.nx 1), .mo 4, .i .i64 (st.nx 2), .mo 5, .i .i64 (st.nx 3), .mo 6, .i .i64 (st.nx 4), .mo 7, .i .i64 (st.nx 5), .mo 8, .i .i64 (IntKind.i64.wrap (st.nx 6 + 1)), .mo 9, .i .i64 (st.nx 7), .mo 10, .i .i64 (st.nx 8), .mo 11, .i .i64 (st.nx 9), .mo 12, .i .i64 (st.nx 10), .mo 13, .i .i64 (st.nx 11)]) := by
     rw [w1]
     exact AOEq.refl _
    have hav : AVEq (.tup [.i .i64 (st.nx 6), .i .i64 0]) (.tup [.i .i64 (IntKind.i64.wrap (IntKind.i64.wrap (st.nx 6 + 1) - 1)), .i .i64 0]) := by
     rw [w2]
     exact AVEq.refl _
    exact ⟨putB st B 6 ub uc, [], hBk ub uc, ⟨⟨⟨rfl, rfl, hav⟩, trivial⟩, ⟨⟨rfl, rfl, rfl, aoC⟩, ⟨rfl, rfl, trivial, aoU⟩, ⟨rfl, rfl, trivial, AOEq.refl _⟩, ⟨rfl, rfl, trivial, AOEq.refl _⟩, ⟨rfl, rfl, trivial, AOEq.refl _⟩, ⟨rfl, rfl, trivial, AOEq.refl _⟩, ⟨rfl, rfl, trivial, AOEq.refl _⟩, ⟨rfl, rfl, trivial, AOEq.refl _⟩, ⟨rfl, rfl, trivial, AOEq.refl _⟩, ⟨rfl, rfl, trivial, AOEq.refl _⟩, ⟨rfl, rfl, trivial, AOEq.refl _⟩, ⟨rfl, rfl, trivial, AOEq.refl _⟩, ⟨rfl, rfl, trivial, AOEq.refl _⟩, ⟨rfl, rfl, trivial, AOEq.refl _⟩, trivial⟩, rfl⟩, rfl, fun h => by cases h⟩
 ·refine Or.inr (Or.inr ?_)
  refine ⟨true, [0, 1, 2, 3, 4, 5, 6, 7, 8, 9, 10, 11, 12, 13], rfl, Unit, _, _, _, _, of_fn st B 7 (by decide), fun _ _ => ?_⟩
  repeat refine Or.inl ?_
  refine ⟨fun hc => (by cases hc), fun _ => ?_⟩
  refine ⟨fun hc => (by have hc : decide ((x.size : Int) > 65536) = true := hc; rw [decide_eq_true_eq] at hc; omega), fun _ => ?_⟩
  refine Or.inl ⟨_, _, (divided_fn x (by omega)).frz, ?_⟩
  refine Or.inl (Or.inr (Or.inr ?_))
  refine ⟨true, [0, 1, 2, 3, 4, 5, 6, 7, 8, 9, 10, 11, 12, 13], rfl, Unit, _, _, _, _, names_fn st B 7 (by decide) (hT.wf (by omega)) (by have := hT.len; omega), fun _ _ => ?_⟩
  repeat refine Or.inl ?_
  refine ⟨[], Nat, fun k => k ≤ (st.fs 7).length ∧ (∀ j, j < k → ((st.fs 7).getD j dFl).2 ≠ x), fun k => [⟨34, [], .i .i64 k⟩], fun k => [], fun k => (st.fs 7).length - k,
   ⟨0, [], ⟨Nat.zero_le _, fun j hj => absurd hj (Nat.not_lt_zero j)⟩, rfl, rfl, rfl, rfl, rfl, ⟨rfl, rfl⟩, trivial⟩, ?_⟩
  rintro k ⟨hk, hno⟩
  have hk : k ≤ (st.fs 7).length := hk
  refine .inl ⟨fun hc => ?_, fun hc => ?_⟩
  ·have hc := dlt hc
   have hc : (k : Int) < (st.fs 7).length := hc
   have ek : ((k : Nat) : Int).toNat = k := Int.toNat_natCast _
   repeat refine Or.inl ?_
   refine ⟨⟨by omega, by omega⟩, ?_⟩
   have hl := lookF (st.fs 7) ((mkeys (st.fs 7)).getD ((k : Nat) : Int).toNat 0)
   rw [ek, mkeys_getD, mget_at hnd (by omega)] at hl
   have hgk : AV.i .i64 ((sortI (mkeys (st.fs 7))).getD ((k : Nat) : Int).toNat 0) = AV.i .i64 ((st.fs 7).getD k dFl).1 := by rw [hso, ek, mkeys_getD]
   rw [← hgk] at hl
   have hsk : ((st.fs 7).getD k dFl).2.size ≤ 200 := hT.sz _ (getD_memD dFl (by omega))
   have hdk := div_len ((st.fs 7).getD k dFl).2
   refine ⟨by omega, ?_⟩
   refine ⟨_, _, ⟨hkF, rfl, hl⟩, ?_⟩
   refine Or.inl ⟨_, _, equal_fn (divL ((st.fs 7).getD k dFl).2) (divL x) (by omega) (by omega), ?_⟩
   refine ⟨fun h2 => ?_, fun h2 => ?_⟩
   ·exfalso
    have h2 : decide (divL ((st.fs 7).getD k dFl).2 = divL x) = true := h2
    rw [bytes_dif, decide_eq_true_eq] at h2
    exact hall k (by omega) h2
   ·refine ⟨k + 1, [], ⟨by omega, fun j hj => hall j (by omega)⟩, by dsimp only; omega, rfl, rfl, rfl, rfl, rfl, ⟨rfl, wr (by omega) (by omega)⟩, trivial⟩
  ·refine Or.inl (Or.inr (Or.inr ?_))
   refine ⟨true, [0, 1, 2, 3, 4, 5, 6, 7, 8, 9, 10, 11, 12, 13], rfl, Unit, _, _, _, _, used_fn st B 7 (by decide) (by omega) (fun p hp => Nat.le_trans (hT.sz p hp) (by decide)) hBt, fun _ _ => ?_⟩
   have hub : usedL (st.fs 7) ≤ 40000 := Nat.le_trans husd (Nat.le_trans (Nat.mul_le_mul_left 200 (Nat.le_trans hTl hm)) (by decide))
   refine ⟨fun h3 => ?_, fun _ => ?_⟩
   ·exfalso
    have h3 : decide (IntKind.i64.wrap ((usedL (st.fs 7) : Int) + x.size) > 1048576) = true := h3
    rw [wr (by omega) (by omega), decide_eq_true_eq] at h3
    omega
   have ao0 : AOEq (mpB (fun c => .ag (ckA c)) (fun n => .i .i64 n) (dCk, 0) (incs st.us ((divL x).take 0)) B.ub B.uc) (usO st B) := AOEq.refl _
   repeat refine Or.inl ?_
   refine ⟨[], Nat × (Nat → Nat) × Nat, fun p => p.1 ≤ (divL x).length, fun p => [⟨57, [], .i .i64 p.1⟩], fun p => [⟨1, [], mpB (fun c => .ag (ckA c)) (fun n => .i .i64 n) (dCk, 0) (incs st.us ((divL x).take p.1)) p.2.1 p.2.2⟩], fun p => (divL x).length - p.1,
    ⟨(0, B.ub, B.uc), [], Nat.zero_le _, rfl, rfl, rfl, rfl, rfl, ⟨rfl, rfl⟩, ao0⟩, ?_⟩
   rintro ⟨q, ub, uc⟩ hql
   have hql : q ≤ (divL x).length := hql
   have hUq := hU.incs (divL x) q hql
   refine .inl ⟨fun hc => ?_, fun hc => ?_⟩
   ·have hc := dlt hc
    have hc : (q : Int) < (divL x).length := hc
    have eq : ((q : Nat) : Int).toNat = q := Int.toNat_natCast _
    have hcb := hUq.2 ((divL x).getD q dCk)
    have hds := incs_snoc (L := st.us) (l := divL x) (k := q) (by omega)
    have hlk := lookU (incs st.us ((divL x).take q)) ((divL x).getD q dCk)
    have hup2 := updU (incs st.us ((divL x).take q)) ub uc ((divL x).getD q dCk) (cntU (incs st.us ((divL x).take q)) ((divL x).getD q dCk) + 1)
    repeat refine Or.inl ?_
    refine ⟨⟨by omega, by omega⟩, ?_⟩
    have hbin : binI .add .i64 (cntU (incs st.us ((divL x).take q)) ((divL x).getD q dCk)) 1 = some (.i .i64 (cntU (incs st.us ((divL x).take q)) ((divL x).getD q dCk) + 1)) := by
     show some (AV.i .i64 (IntKind.i64.wrap _)) = _
     rw [wr (by omega) (by omega)]
    refine ⟨(mget (incs st.us ((divL x).take q)) ((divL x).getD q dCk)).isSome, cntU (incs st.us ((divL x).take q)) ((divL x).getD q dCk), cntU (incs st.us ((divL x).take q)) ((divL x).getD q dCk) + 1, _, _, _, _, _, ⟨keysU _, rfl, hlk, hbin, hup2⟩, ?_⟩
    have ao : AOEq (mpB (fun c => .ag (ckA c)) (fun n => .i .i64 n) (dCk, 0) (incs st.us ((divL x).take (q + 1))) (fun j => if j < (incs st.us ((divL x).take q)).length then ub j else uc) (if (mget (incs st.us ((divL x).take q)) ((divL x).getD q dCk)).isSome = true then uc else uc + 1)) (mpB (fun c => .ag (ckA c)) (fun n => .i .i64 n) (dCk, 0) (mset (incs st.us ((divL x).take q)) ((divL x).getD q dCk) (cntU (incs st.us ((divL x).take q)) ((divL x).getD q dCk) + 1)) (fun j => if j < (incs st.us ((divL x).take q)).length then ub j else uc) (if (mget (incs st.us ((divL x).take q)) ((divL x).getD q dCk)).isSome = true then uc else uc + 1)) := by
     rw [hds]
     exact AOEq.refl _
    refine ⟨(q + 1, _, _), [], (by show q + 1 ≤ (divL x).length; omega), by dsimp only; omega, rfl, rfl, rfl, rfl, rfl, ⟨rfl, wr (by omega) (by omega)⟩, ao⟩
   ·have hc := dnlt hc
    have hc : ((divL x).length : Int) ≤ (q : Nat) := hc
    have hte : (divL x).take q = divL x := List.take_of_length_le (by omega)
    repeat refine Or.inl ?_
    refine ⟨_, _, _, _, _, ⟨hkF, rfl, hup⟩, ?_⟩
    have aoU : AOEq (usO (putS st 7 x) (putB st B 7 ub uc)) (mpB (fun c => .ag (ckA c)) (fun n => .i .i64 n) (dCk, 0) (incs st.us ((divL x).take q)) ub uc) := by
     rw [hte]
     exact AOEq.refl _
    have w1 : IntKind.i64.wrap (st.nx 7 + 1) = st.nx 7 + 1 := wr (by omega) (by omega)
    have w2 : IntKind.i64.wrap (IntKind.i64.wrap (st.nx 7 + 1) - 1) = st.nx 7 := by
     rw [w1, wr (by omega) (by omega)]
     omega
    have aoC : AOEq (.cells 151 (stC (putS st 7 x))) (.cells 151 [.mo 1, .mo 2, .i .i64 (st.nx 0), .mo 3, .i .i64 (st.nx 1), .mo 4, .i .i64 (st.nx 2), .mo 5, .i .i64 (st.nx 3), .mo 6, .i .i64 (st.nx 4), .mo 7, .i .i64 (st.nx 5), .mo 8, .i .i64 (st.nx 6), .mo 9, .i .i64 (IntKind.i64.wrap (st.nx 7 + 1)), .mo 10, .i .i64 (st.nx 8), .mo 11, .i .i64 (st.nx 9), .mo 12, .i .i64 (st.nx 10), .mo 13, .i .i64 (st.nx 11)]) := by
     rw [w1]
     exact AOEq.refl _
    have hav : AVEq (.tup [.i .i64 (st.nx 7), .i .i64 0]) (.tup [.i .i64 (IntKind.i64.wrap (IntKind.i64.wrap (st.nx 7 + 1) - 1)), .i .i64 0]) := by
     rw [w2]
     exact AVEq.refl _
    exact ⟨putB st B 7 ub uc, [], hBk ub uc, ⟨⟨⟨rfl, rfl, hav⟩, trivial⟩, ⟨⟨rfl, rfl, rfl, aoC⟩, ⟨rfl, rfl, trivial, aoU⟩, ⟨rfl, rfl, trivial, AOEq.refl _⟩, ⟨rfl, rfl, trivial, AOEq.refl _⟩, ⟨rfl, rfl, trivial, AOEq.refl _⟩, ⟨rfl, rfl, trivial, AOEq.refl _⟩, ⟨rfl, rfl, trivial, AOEq.refl _⟩, ⟨rfl, rfl, trivial, AOEq.refl _⟩, ⟨rfl, rfl, trivial, AOEq.refl _⟩, ⟨rfl, rfl, trivial, AOEq.refl _⟩, ⟨rfl, rfl, trivial, AOEq.refl _⟩, ⟨rfl, rfl, trivial, AOEq.refl _⟩, ⟨rfl, rfl, trivial, AOEq.refl _⟩, ⟨rfl, rfl, trivial, AOEq.refl _⟩, trivial⟩, rfl⟩, rfl, fun h => by cases h⟩
 ·refine Or.inr (Or.inr ?_)
  refine ⟨true, [0, 1, 2, 3, 4, 5, 6, 7, 8, 9, 10, 11, 12, 13], rfl, Unit, _, _, _, _, of_fn st B 8 (by decide), fun _ _ => ?_⟩
  repeat refine Or.inl ?_
  refine ⟨fun hc => (by cases hc), fun _ => ?_⟩
  refine ⟨fun hc => (by have hc : decide ((x.size : Int) > 65536) = true := hc; rw [decide_eq_true_eq] at hc; omega), fun _ => ?_⟩
  refine Or.inl ⟨_, _, (divided_fn x (by omega)).frz, ?_⟩
  refine Or.inl (Or.inr (Or.inr ?_))
  refine ⟨true, [0, 1, 2, 3, 4, 5, 6, 7, 8, 9, 10, 11, 12, 13], rfl, Unit, _, _, _, _, names_fn st B 8 (by decide) (hT.wf (by omega)) (by have := hT.len; omega), fun _ _ => ?_⟩
  repeat refine Or.inl ?_
  refine ⟨[], Nat, fun k => k ≤ (st.fs 8).length ∧ (∀ j, j < k → ((st.fs 8).getD j dFl).2 ≠ x), fun k => [⟨34, [], .i .i64 k⟩], fun k => [], fun k => (st.fs 8).length - k,
   ⟨0, [], ⟨Nat.zero_le _, fun j hj => absurd hj (Nat.not_lt_zero j)⟩, rfl, rfl, rfl, rfl, rfl, ⟨rfl, rfl⟩, trivial⟩, ?_⟩
  rintro k ⟨hk, hno⟩
  have hk : k ≤ (st.fs 8).length := hk
  refine .inl ⟨fun hc => ?_, fun hc => ?_⟩
  ·have hc := dlt hc
   have hc : (k : Int) < (st.fs 8).length := hc
   have ek : ((k : Nat) : Int).toNat = k := Int.toNat_natCast _
   repeat refine Or.inl ?_
   refine ⟨⟨by omega, by omega⟩, ?_⟩
   have hl := lookF (st.fs 8) ((mkeys (st.fs 8)).getD ((k : Nat) : Int).toNat 0)
   rw [ek, mkeys_getD, mget_at hnd (by omega)] at hl
   have hgk : AV.i .i64 ((sortI (mkeys (st.fs 8))).getD ((k : Nat) : Int).toNat 0) = AV.i .i64 ((st.fs 8).getD k dFl).1 := by rw [hso, ek, mkeys_getD]
   rw [← hgk] at hl
   have hsk : ((st.fs 8).getD k dFl).2.size ≤ 200 := hT.sz _ (getD_memD dFl (by omega))
   have hdk := div_len ((st.fs 8).getD k dFl).2
   refine ⟨by omega, ?_⟩
   refine ⟨_, _, ⟨hkF, rfl, hl⟩, ?_⟩
   refine Or.inl ⟨_, _, equal_fn (divL ((st.fs 8).getD k dFl).2) (divL x) (by omega) (by omega), ?_⟩
   refine ⟨fun h2 => ?_, fun h2 => ?_⟩
   ·exfalso
    have h2 : decide (divL ((st.fs 8).getD k dFl).2 = divL x) = true := h2
    rw [bytes_dif, decide_eq_true_eq] at h2
    exact hall k (by omega) h2
   ·refine ⟨k + 1, [], ⟨by omega, fun j hj => hall j (by omega)⟩, by dsimp only; omega, rfl, rfl, rfl, rfl, rfl, ⟨rfl, wr (by omega) (by omega)⟩, trivial⟩
  ·refine Or.inl (Or.inr (Or.inr ?_))
   refine ⟨true, [0, 1, 2, 3, 4, 5, 6, 7, 8, 9, 10, 11, 12, 13], rfl, Unit, _, _, _, _, used_fn st B 8 (by decide) (by omega) (fun p hp => Nat.le_trans (hT.sz p hp) (by decide)) hBt, fun _ _ => ?_⟩
   have hub : usedL (st.fs 8) ≤ 40000 := Nat.le_trans husd (Nat.le_trans (Nat.mul_le_mul_left 200 (Nat.le_trans hTl hm)) (by decide))
   refine ⟨fun h3 => ?_, fun _ => ?_⟩
   ·exfalso
    have h3 : decide (IntKind.i64.wrap ((usedL (st.fs 8) : Int) + x.size) > 1048576) = true := h3
    rw [wr (by omega) (by omega), decide_eq_true_eq] at h3
    omega
   have ao0 : AOEq (mpB (fun c => .ag (ckA c)) (fun n => .i .i64 n) (dCk, 0) (incs st.us ((divL x).take 0)) B.ub B.uc) (usO st B) := AOEq.refl _
   repeat refine Or.inl ?_
   refine ⟨[], Nat × (Nat → Nat) × Nat, fun p => p.1 ≤ (divL x).length, fun p => [⟨57, [], .i .i64 p.1⟩], fun p => [⟨1, [], mpB (fun c => .ag (ckA c)) (fun n => .i .i64 n) (dCk, 0) (incs st.us ((divL x).take p.1)) p.2.1 p.2.2⟩], fun p => (divL x).length - p.1,
    ⟨(0, B.ub, B.uc), [], Nat.zero_le _, rfl, rfl, rfl, rfl, rfl, ⟨rfl, rfl⟩, ao0⟩, ?_⟩
   rintro ⟨q, ub, uc⟩ hql
   have hql : q ≤ (divL x).length := hql
   have hUq := hU.incs (divL x) q hql
   refine .inl ⟨fun hc => ?_, fun hc => ?_⟩
   ·have hc := dlt hc
    have hc : (q : Int) < (divL x).length := hc
    have eq : ((q : Nat) : Int).toNat = q := Int.toNat_natCast _
    have hcb := hUq.2 ((divL x).getD q dCk)
    have hds := incs_snoc (L := st.us) (l := divL x) (k := q) (by omega)
    have hlk := lookU (incs st.us ((divL x).take q)) ((divL x).getD q dCk)
    have hup2 := updU (incs st.us ((divL x).take q)) ub uc ((divL x).getD q dCk) (cntU (incs st.us ((divL x).take q)) ((divL x).getD q dCk) + 1)
    repeat refine Or.inl ?_
    refine ⟨⟨by omega, by omega⟩, ?_⟩
    have hbin : binI .add .i64 (cntU (incs st.us ((divL x).take q)) ((divL x).getD q dCk)) 1 = some (.i .i64 (cntU (incs st.us ((divL x).take q)) ((divL x).getD q dCk) + 1)) := by
     show some (AV.i .i64 (IntKind.i64.wrap _)) = _
     rw [wr (by omega) (by omega)]
    refine ⟨(mget (incs st.us ((divL x).take q)) ((divL x).getD q dCk)).isSome, cntU (incs st.us ((divL x).take q)) ((divL x).getD q dCk), cntU (incs st.us ((divL x).take q)) ((divL x).getD q dCk) + 1, _, _, _, _, _, ⟨keysU _, rfl, hlk, hbin, hup2⟩, ?_⟩
    have ao : AOEq (mpB (fun c => .ag (ckA c)) (fun n => .i .i64 n) (dCk, 0) (incs st.us ((divL x).take (q + 1))) (fun j => if j < (incs st.us ((divL x).take q)).length then ub j else uc) (if (mget (incs st.us ((divL x).take q)) ((divL x).getD q dCk)).isSome = true then uc else uc + 1)) (mpB (fun c => .ag (ckA c)) (fun n => .i .i64 n) (dCk, 0) (mset (incs st.us ((divL x).take q)) ((divL x).getD q dCk) (cntU (incs st.us ((divL x).take q)) ((divL x).getD q dCk) + 1)) (fun j => if j < (incs st.us ((divL x).take q)).length then ub j else uc) (if (mget (incs st.us ((divL x).take q)) ((divL x).getD q dCk)).isSome = true then uc else uc + 1)) := by
     rw [hds]
     exact AOEq.refl _
    refine ⟨(q + 1, _, _), [], (by show q + 1 ≤ (divL x).length; omega), by dsimp only; omega, rfl, rfl, rfl, rfl, rfl, ⟨rfl, wr (by omega) (by omega)⟩, ao⟩
   ·have hc := dnlt hc
    have hc : ((divL x).length : Int) ≤ (q : Nat) := hc
    have hte : (divL x).take q = divL x := List.take_of_length_le (by omega)
    repeat refine Or.inl ?_
    refine ⟨_, _, _, _, _, ⟨hkF, rfl, hup⟩, ?_⟩
    have aoU : AOEq (usO (putS st 8 x) (putB st B 8 ub uc)) (mpB (fun c => .ag (ckA c)) (fun n => .i .i64 n) (dCk, 0) (incs st.us ((divL x).take q)) ub uc) := by
     rw [hte]
     exact AOEq.refl _
    have w1 : IntKind.i64.wrap (st.nx 8 + 1) = st.nx 8 + 1 := wr (by omega) (by omega)
    have w2 : IntKind.i64.wrap (IntKind.i64.wrap (st.nx 8 + 1) - 1) = st.nx 8 := by
     rw [w1, wr (by omega) (by omega)]
     omega
    have aoC : AOEq (.cells 151 (stC (putS st 8 x))) (.cells 151 [.mo 1, .mo 2, .i .i64 (st.nx 0), .mo 3, .i .i64 (st.nx 1), .mo 4, .i .i64 (st.nx 2), .mo 5, .i .i64 (st.nx 3), .mo 6, .i .i64 (st.nx 4), .mo 7, .i .i64 (st.nx 5), .mo 8, .i .i64 (st.nx 6), .mo 9, .i .i64 (st.nx 7), .mo 10, .i .i64 (IntKind.i64.wrap (st.nx 8 + 1)), .mo 11, .i .i64 (st.nx 9), .mo 12, .i .i64 (st.nx 10), .mo 13, .i .i64 (st.nx 11)]) := by
     rw [w1]
     exact AOEq.refl _
    have hav : AVEq (.tup [.i .i64 (st.nx 8), .i .i64 0]) (.tup [.i .i64 (IntKind.i64.wrap (IntKind.i64.wrap (st.nx 8 + 1) - 1)), .i .i64 0]) := by
     rw [w2]
     exact AVEq.refl _
    exact ⟨putB st B 8 ub uc, [], hBk ub uc, ⟨⟨⟨rfl, rfl, hav⟩, trivial⟩, ⟨⟨rfl, rfl, rfl, aoC⟩, ⟨rfl, rfl, trivial, aoU⟩, ⟨rfl, rfl, trivial, AOEq.refl _⟩, ⟨rfl, rfl, trivial, AOEq.refl _⟩, ⟨rfl, rfl, trivial, AOEq.refl _⟩, ⟨rfl, rfl, trivial, AOEq.refl _⟩, ⟨rfl, rfl, trivial, AOEq.refl _⟩, ⟨rfl, rfl, trivial, AOEq.refl _⟩, ⟨rfl, rfl, trivial, AOEq.refl _⟩, ⟨rfl, rfl, trivial, AOEq.refl _⟩, ⟨rfl, rfl, trivial, AOEq.refl _⟩, ⟨rfl, rfl, trivial, AOEq.refl _⟩, ⟨rfl, rfl, trivial, AOEq.refl _⟩, ⟨rfl, rfl, trivial, AOEq.refl _⟩, trivial⟩, rfl⟩, rfl, fun h => by cases h⟩
 ·refine Or.inr (Or.inr ?_)
  refine ⟨true, [0, 1, 2, 3, 4, 5, 6, 7, 8, 9, 10, 11, 12, 13], rfl, Unit, _, _, _, _, of_fn st B 9 (by decide), fun _ _ => ?_⟩
  repeat refine Or.inl ?_
  refine ⟨fun hc => (by cases hc), fun _ => ?_⟩
  refine ⟨fun hc => (by have hc : decide ((x.size : Int) > 65536) = true := hc; rw [decide_eq_true_eq] at hc; omega), fun _ => ?_⟩
  refine Or.inl ⟨_, _, (divided_fn x (by omega)).frz, ?_⟩
  refine Or.inl (Or.inr (Or.inr ?_))
  refine ⟨true, [0, 1, 2, 3, 4, 5, 6, 7, 8, 9, 10, 11, 12, 13], rfl, Unit, _, _, _, _, names_fn st B 9 (by decide) (hT.wf (by omega)) (by have := hT.len; omega), fun _ _ => ?_⟩
  repeat refine Or.inl ?_
  refine ⟨[], Nat, fun k => k ≤ (st.fs 9).length ∧ (∀ j, j < k → ((st.fs 9).getD j dFl).2 ≠ x), fun k => [⟨34, [], .i .i64 k⟩], fun k => [], fun k => (st.fs 9).length - k,
   ⟨0, [], ⟨Nat.zero_le _, fun j hj => absurd hj (Nat.not_lt_zero j)⟩, rfl, rfl, rfl, rfl, rfl, ⟨rfl, rfl⟩, trivial⟩, ?_⟩
  rintro k ⟨hk, hno⟩
  have hk : k ≤ (st.fs 9).length := hk
  refine .inl ⟨fun hc => ?_, fun hc => ?_⟩
  ·have hc := dlt hc
   have hc : (k : Int) < (st.fs 9).length := hc
   have ek : ((k : Nat) : Int).toNat = k := Int.toNat_natCast _
   repeat refine Or.inl ?_
   refine ⟨⟨by omega, by omega⟩, ?_⟩
   have hl := lookF (st.fs 9) ((mkeys (st.fs 9)).getD ((k : Nat) : Int).toNat 0)
   rw [ek, mkeys_getD, mget_at hnd (by omega)] at hl
   have hgk : AV.i .i64 ((sortI (mkeys (st.fs 9))).getD ((k : Nat) : Int).toNat 0) = AV.i .i64 ((st.fs 9).getD k dFl).1 := by rw [hso, ek, mkeys_getD]
   rw [← hgk] at hl
   have hsk : ((st.fs 9).getD k dFl).2.size ≤ 200 := hT.sz _ (getD_memD dFl (by omega))
   have hdk := div_len ((st.fs 9).getD k dFl).2
   refine ⟨by omega, ?_⟩
   refine ⟨_, _, ⟨hkF, rfl, hl⟩, ?_⟩
   refine Or.inl ⟨_, _, equal_fn (divL ((st.fs 9).getD k dFl).2) (divL x) (by omega) (by omega), ?_⟩
   refine ⟨fun h2 => ?_, fun h2 => ?_⟩
   ·exfalso
    have h2 : decide (divL ((st.fs 9).getD k dFl).2 = divL x) = true := h2
    rw [bytes_dif, decide_eq_true_eq] at h2
    exact hall k (by omega) h2
   ·refine ⟨k + 1, [], ⟨by omega, fun j hj => hall j (by omega)⟩, by dsimp only; omega, rfl, rfl, rfl, rfl, rfl, ⟨rfl, wr (by omega) (by omega)⟩, trivial⟩
  ·refine Or.inl (Or.inr (Or.inr ?_))
   refine ⟨true, [0, 1, 2, 3, 4, 5, 6, 7, 8, 9, 10, 11, 12, 13], rfl, Unit, _, _, _, _, used_fn st B 9 (by decide) (by omega) (fun p hp => Nat.le_trans (hT.sz p hp) (by decide)) hBt, fun _ _ => ?_⟩
   have hub : usedL (st.fs 9) ≤ 40000 := Nat.le_trans husd (Nat.le_trans (Nat.mul_le_mul_left 200 (Nat.le_trans hTl hm)) (by decide))
   refine ⟨fun h3 => ?_, fun _ => ?_⟩
   ·exfalso
    have h3 : decide (IntKind.i64.wrap ((usedL (st.fs 9) : Int) + x.size) > 1048576) = true := h3
    rw [wr (by omega) (by omega), decide_eq_true_eq] at h3
    omega
   have ao0 : AOEq (mpB (fun c => .ag (ckA c)) (fun n => .i .i64 n) (dCk, 0) (incs st.us ((divL x).take 0)) B.ub B.uc) (usO st B) := AOEq.refl _
   repeat refine Or.inl ?_
   refine ⟨[], Nat × (Nat → Nat) × Nat, fun p => p.1 ≤ (divL x).length, fun p => [⟨57, [], .i .i64 p.1⟩], fun p => [⟨1, [], mpB (fun c => .ag (ckA c)) (fun n => .i .i64 n) (dCk, 0) (incs st.us ((divL x).take p.1)) p.2.1 p.2.2⟩], fun p => (divL x).length - p.1,
    ⟨(0, B.ub, B.uc), [], Nat.zero_le _, rfl, rfl, rfl, rfl, rfl, ⟨rfl, rfl⟩, ao0⟩, ?_⟩
   rintro ⟨q, ub, uc⟩ hql
   have hql : q ≤ (divL x).length := hql
   have hUq := hU.incs (divL x) q hql
   refine .inl ⟨fun hc => ?_, fun hc => ?_⟩
   ·have hc := dlt hc
    have hc : (q : Int) < (divL x).length := hc
    have eq : ((q : Nat) : Int).toNat = q := Int.toNat_natCast _
    have hcb := hUq.2 ((divL x).getD q dCk)
    have hds := incs_snoc (L := st.us) (l := divL x) (k := q) (by omega)
    have hlk := lookU (incs st.us ((divL x).take q)) ((divL x).getD q dCk)
    have hup2 := updU (incs st.us ((divL x).take q)) ub uc ((divL x).getD q dCk) (cntU (incs st.us ((divL x).take q)) ((divL x).getD q dCk) + 1)
    repeat refine Or.inl ?_
    refine ⟨⟨by omega, by omega⟩, ?_⟩
    have hbin : binI .add .i64 (cntU (incs st.us ((divL x).take q)) ((divL x).getD q dCk)) 1 = some (.i .i64 (cntU (incs st.us ((divL x).take q)) ((divL x).getD q dCk) + 1)) := by
     show some (AV.i .i64 (IntKind.i64.wrap _)) = _
     rw [wr (by omega) (by omega)]
    refine ⟨(mget (incs st.us ((divL x).take q)) ((divL x).getD q dCk)).isSome, cntU (incs st.us ((divL x).take q)) ((divL x).getD q dCk), cntU (incs st.us ((divL x).take q)) ((divL x).getD q dCk) + 1, _, _, _, _, _, ⟨keysU _, rfl, hlk, hbin, hup2⟩, ?_⟩
    have ao : AOEq (mpB (fun c => .ag (ckA c)) (fun n => .i .i64 n) (dCk, 0) (incs st.us ((divL x).take (q + 1))) (fun j => if j < (incs st.us ((divL x).take q)).length then ub j else uc) (if (mget (incs st.us ((divL x).take q)) ((divL x).getD q dCk)).isSome = true then uc else uc + 1)) (mpB (fun c => .ag (ckA c)) (fun n => .i .i64 n) (dCk, 0) (mset (incs st.us ((divL x).take q)) ((divL x).getD q dCk) (cntU (incs st.us ((divL x).take q)) ((divL x).getD q dCk) + 1)) (fun j => if j < (incs st.us ((divL x).take q)).length then ub j else uc) (if (mget (incs st.us ((divL x).take q)) ((divL x).getD q dCk)).isSome = true then uc else uc + 1)) := by
     rw [hds]
     exact AOEq.refl _
    refine ⟨(q + 1, _, _), [], (by show q + 1 ≤ (divL x).length; omega), by dsimp only; omega, rfl, rfl, rfl, rfl, rfl, ⟨rfl, wr (by omega) (by omega)⟩, ao⟩
   ·have hc := dnlt hc
    have hc : ((divL x).length : Int) ≤ (q : Nat) := hc
    have hte : (divL x).take q = divL x := List.take_of_length_le (by omega)
    repeat refine Or.inl ?_
    refine ⟨_, _, _, _, _, ⟨hkF, rfl, hup⟩, ?_⟩
    have aoU : AOEq (usO (putS st 9 x) (putB st B 9 ub uc)) (mpB (fun c => .ag (ckA c)) (fun n => .i .i64 n) (dCk, 0) (incs st.us ((divL x).take q)) ub uc) := by
     rw [hte]
     exact AOEq.refl _
    have w1 : IntKind.i64.wrap (st.nx 9 + 1) = st.nx 9 + 1 := wr (by omega) (by omega)
    have w2 : IntKind.i64.wrap (IntKind.i64.wrap (st.nx 9 + 1) - 1) = st.nx 9 := by
     rw [w1, wr (by omega) (by omega)]
     omega
    have aoC : AOEq (.cells 151 (stC (putS st 9 x))) (.cells 151 [.mo 1, .mo 2, .i .i64 (st.nx 0), .mo 3, .i .i64 (st.nx 1), .mo 4, .i .i64 (st.nx 2), .mo 5, .i .i64 (st.nx 3), .mo 6, .i .i64 (st.nx 4), .mo 7, .i .i64 (st.nx 5), .mo 8, .i .i64 (st.nx 6), .mo 9, .i .i64 (st.nx 7), .mo 10, .i .i64 (st.nx 8), .mo 11, .i .i64 (IntKind.i64.wrap (st.nx 9 + 1)), .mo 12, .i .i64 (st.nx 10), .mo 13, .i .i64 (st.nx 11)]) := by
     rw [w1]
     exact AOEq.refl _
    have hav : AVEq (.tup [.i .i64 (st.nx 9), .i .i64 0]) (.tup [.i .i64 (IntKind.i64.wrap (IntKind.i64.wrap (st.nx 9 + 1) - 1)), .i .i64 0]) := by
     rw [w2]
     exact AVEq.refl _
    exact ⟨putB st B 9 ub uc, [], hBk ub uc, ⟨⟨⟨rfl, rfl, hav⟩, trivial⟩, ⟨⟨rfl, rfl, rfl, aoC⟩, ⟨rfl, rfl, trivial, aoU⟩, ⟨rfl, rfl, trivial, AOEq.refl _⟩, ⟨rfl, rfl, trivial, AOEq.refl _⟩, ⟨rfl, rfl, trivial, AOEq.refl _⟩, ⟨rfl, rfl, trivial, AOEq.refl _⟩, ⟨rfl, rfl, trivial, AOEq.refl _⟩, ⟨rfl, rfl, trivial, AOEq.refl _⟩, ⟨rfl, rfl, trivial, AOEq.refl _⟩, ⟨rfl, rfl, trivial, AOEq.refl _⟩, ⟨rfl, rfl, trivial, AOEq.refl _⟩, ⟨rfl, rfl, trivial, AOEq.refl _⟩, ⟨rfl, rfl, trivial, AOEq.refl _⟩, ⟨rfl, rfl, trivial, AOEq.refl _⟩, trivial⟩, rfl⟩, rfl, fun h => by cases h⟩
 ·refine Or.inr (Or.inr ?_)
  refine ⟨true, [0, 1, 2, 3, 4, 5, 6, 7, 8, 9, 10, 11, 12, 13], rfl, Unit, _, _, _, _, of_fn st B 10 (by decide), fun _ _ => ?_⟩
  repeat refine Or.inl ?_
  refine ⟨fun hc => (by cases hc), fun _ => ?_⟩
  refine ⟨fun hc => (by have hc : decide ((x.size : Int) > 65536) = true := hc; rw [decide_eq_true_eq] at hc; omega), fun _ => ?_⟩
  refine Or.inl ⟨_, _, (divided_fn x (by omega)).frz, ?_⟩
  refine Or.inl (Or.inr (Or.inr ?_))
  refine ⟨true, [0, 1, 2, 3, 4, 5, 6, 7, 8, 9, 10, 11, 12, 13], rfl, Unit, _, _, _, _, names_fn st B 10 (by decide) (hT.wf (by omega)) (by have := hT.len; omega), fun _ _ => ?_⟩
  repeat refine Or.inl ?_
  refine ⟨[], Nat, fun k => k ≤ (st.fs 10).length ∧ (∀ j, j < k → ((st.fs 10).getD j dFl).2 ≠ x), fun k => [⟨34, [], .i .i64 k⟩], fun k => [], fun k => (st.fs 10).length - k,
   ⟨0, [], ⟨Nat.zero_le _, fun j hj => absurd hj (Nat.not_lt_zero j)⟩, rfl, rfl, rfl, rfl, rfl, ⟨rfl, rfl⟩, trivial⟩, ?_⟩
  rintro k ⟨hk, hno⟩
  have hk : k ≤ (st.fs 10).length := hk
  refine .inl ⟨fun hc => ?_, fun hc => ?_⟩
  ·have hc := dlt hc
   have hc : (k : Int) < (st.fs 10).length := hc
   have ek : ((k : Nat) : Int).toNat = k := Int.toNat_natCast _
   repeat refine Or.inl ?_
   refine ⟨⟨by omega, by omega⟩, ?_⟩
   have hl := lookF (st.fs 10) ((mkeys (st.fs 10)).getD ((k : Nat) : Int).toNat 0)
   rw [ek, mkeys_getD, mget_at hnd (by omega)] at hl
   have hgk : AV.i .i64 ((sortI (mkeys (st.fs 10))).getD ((k : Nat) : Int).toNat 0) = AV.i .i64 ((st.fs 10).getD k dFl).1 := by rw [hso, ek, mkeys_getD]
   rw [← hgk] at hl
   have hsk : ((st.fs 10).getD k dFl).2.size ≤ 200 := hT.sz _ (getD_memD dFl (by omega))
   have hdk := div_len ((st.fs 10).getD k dFl).2
   refine ⟨by omega, ?_⟩
   refine ⟨_, _, ⟨hkF, rfl, hl⟩, ?_⟩
   refine Or.inl ⟨_, _, equal_fn (divL ((st.fs 10).getD k dFl).2) (divL x) (by omega) (by omega), ?_⟩
   refine ⟨fun h2 => ?_, fun h2 => ?_⟩
   ·exfalso
    have h2 : decide (divL ((st.fs 10).getD k dFl).2 = divL x) = true := h2
    rw [bytes_dif, decide_eq_true_eq] at h2
    exact hall k (by omega) h2
   ·refine ⟨k + 1, [], ⟨by omega, fun j hj => hall j (by omega)⟩, by dsimp only; omega, rfl, rfl, rfl, rfl, rfl, ⟨rfl, wr (by omega) (by omega)⟩, trivial⟩
  ·refine Or.inl (Or.inr (Or.inr ?_))
   refine ⟨true, [0, 1, 2, 3, 4, 5, 6, 7, 8, 9, 10, 11, 12, 13], rfl, Unit, _, _, _, _, used_fn st B 10 (by decide) (by omega) (fun p hp => Nat.le_trans (hT.sz p hp) (by decide)) hBt, fun _ _ => ?_⟩
   have hub : usedL (st.fs 10) ≤ 40000 := Nat.le_trans husd (Nat.le_trans (Nat.mul_le_mul_left 200 (Nat.le_trans hTl hm)) (by decide))
   refine ⟨fun h3 => ?_, fun _ => ?_⟩
   ·exfalso
    have h3 : decide (IntKind.i64.wrap ((usedL (st.fs 10) : Int) + x.size) > 1048576) = true := h3
    rw [wr (by omega) (by omega), decide_eq_true_eq] at h3
    omega
   have ao0 : AOEq (mpB (fun c => .ag (ckA c)) (fun n => .i .i64 n) (dCk, 0) (incs st.us ((divL x).take 0)) B.ub B.uc) (usO st B) := AOEq.refl _
   repeat refine Or.inl ?_
   refine ⟨[], Nat × (Nat → Nat) × Nat, fun p => p.1 ≤ (divL x).length, fun p => [⟨57, [], .i .i64 p.1⟩], fun p => [⟨1, [], mpB (fun c => .ag (ckA c)) (fun n => .i .i64 n) (dCk, 0) (incs st.us ((divL x).take p.1)) p.2.1 p.2.2⟩], fun p => (divL x).length - p.1,
    ⟨(0, B.ub, B.uc), [], Nat.zero_le _, rfl, rfl, rfl, rfl, rfl, ⟨rfl, rfl⟩, ao0⟩, ?_⟩
   rintro ⟨q, ub, uc⟩ hql
   have hql : q ≤ (divL x).length := hql
   have hUq := hU.incs (divL x) q hql
   refine .inl ⟨fun hc => ?_, fun hc => ?_⟩
   ·have hc := dlt hc
    have hc : (q : Int) < (divL x).length := hc
    have eq : ((q : Nat) : Int).toNat = q := Int.toNat_natCast _
    have hcb := hUq.2 ((divL x).getD q dCk)
    have hds := incs_snoc (L := st.us) (l := divL x) (k := q) (by omega)
    have hlk := lookU (incs st.us ((divL x).take q)) ((divL x).getD q dCk)
    have hup2 := updU (incs st.us ((divL x).take q)) ub uc ((divL x).getD q dCk) (cntU (incs st.us ((divL x).take q)) ((divL x).getD q dCk) + 1)
    repeat refine Or.inl ?_
    refine ⟨⟨by omega, by omega⟩, ?_⟩
    have hbin : binI .add .i64 (cntU (incs st.us ((divL x).take q)) ((divL x).getD q dCk)) 1 = some (.i .i64 (cntU (incs st.us ((divL x).take q)) ((divL x).getD q dCk) + 1)) := by
     show some (AV.i .i64 (IntKind.i64.wrap _)) = _
     rw [wr (by omega) (by omega)]
    refine ⟨(mget (incs st.us ((divL x).take q)) ((divL x).getD q dCk)).isSome, cntU (incs st.us ((divL x).take q)) ((divL x).getD q dCk), cntU (incs st.us ((divL x).take q)) ((divL x).getD q dCk) + 1, _, _, _, _, _, ⟨keysU _, rfl, hlk, hbin, hup2⟩, ?_⟩
    have ao : AOEq (mpB (fun c => .ag (ckA c)) (fun n => .i .i64 n) (dCk, 0) (incs st.us ((divL x).take (q + 1))) (fun j => if j < (incs st.us ((divL x).take q)).length then ub j else uc) (if (mget (incs st.us ((divL x).take q)) ((divL x).getD q dCk)).isSome = true then uc else uc + 1)) (mpB (fun c => .ag (ckA c)) (fun n => .i .i64 n) (dCk, 0) (mset (incs st.us ((divL x).take q)) ((divL x).getD q dCk) (cntU (incs st.us ((divL x).take q)) ((divL x).getD q dCk) + 1)) (fun j => if j < (incs st.us ((divL x).take q)).length then ub j else uc) (if (mget (incs st.us ((divL x).take q)) ((divL x).getD q dCk)).isSome = true then uc else uc + 1)) := by
     rw [hds]
     exact AOEq.refl _
    refine ⟨(q + 1, _, _), [], (by show q + 1 ≤ (divL x).length; omega), by dsimp only; omega, rfl, rfl, rfl, rfl, rfl, ⟨rfl, wr (by omega) (by omega)⟩, ao⟩
   ·have hc := dnlt hc
    have hc : ((divL x).length : Int) ≤ (q : Nat) := hc
    have hte : (divL x).take q = divL x := List.take_of_length_le (by omega)
    repeat refine Or.inl ?_
    refine ⟨_, _, _, _, _, ⟨hkF, rfl, hup⟩, ?_⟩
    have aoU : AOEq (usO (putS st 10 x) (putB st B 10 ub uc)) (mpB (fun c => .ag (ckA c)) (fun n => .i .i64 n) (dCk, 0) (incs st.us ((divL x).take q)) ub uc) := by
     rw [hte]
     exact AOEq.refl _
    have w1 : IntKind.i64.wrap (st.nx 10 + 1) = st.nx 10 + 1 := wr (by omega) (by omega)
    have w2 : IntKind.i64.wrap (IntKind.i64.wrap (st.nx 10 + 1) - 1) = st.nx 10 := by
     rw [w1, wr (by omega) (by omega)]
     omega
    have aoC : AOEq (.cells 151 (stC (putS st 10 x))) (.cells 151 [.mo 1, .mo 2, .i .i64 (st.nx 0), .mo 3, .i .i64 (st.nx 1), .mo 4, .i .i64 (st.nx 2), .mo 5, .i .i64 (st.nx 3), .mo 6, .i .i64 (st.nx 4), .mo 7, .i .i64 (st.nx 5), .mo 8, .i .i64 (st.nx 6), .mo 9, .i .i64 (st.nx 7), .mo 10, .i .i64 (st.nx 8), .mo 11, .i .i64 (st.nx 9), .mo 12, .i .i64 (IntKind.i64.wrap (st.nx 10 + 1)), .mo 13, .i .i64 (st.nx 11)]) := by
     rw [w1]
     exact AOEq.refl _
    have hav : AVEq (.tup [.i .i64 (st.nx 10), .i .i64 0]) (.tup [.i .i64 (IntKind.i64.wrap (IntKind.i64.wrap (st.nx 10 + 1) - 1)), .i .i64 0]) := by
     rw [w2]
     exact AVEq.refl _
    exact ⟨putB st B 10 ub uc, [], hBk ub uc, ⟨⟨⟨rfl, rfl, hav⟩, trivial⟩, ⟨⟨rfl, rfl, rfl, aoC⟩, ⟨rfl, rfl, trivial, aoU⟩, ⟨rfl, rfl, trivial, AOEq.refl _⟩, ⟨rfl, rfl, trivial, AOEq.refl _⟩, ⟨rfl, rfl, trivial, AOEq.refl _⟩, ⟨rfl, rfl, trivial, AOEq.refl _⟩, ⟨rfl, rfl, trivial, AOEq.refl _⟩, ⟨rfl, rfl, trivial, AOEq.refl _⟩, ⟨rfl, rfl, trivial, AOEq.refl _⟩, ⟨rfl, rfl, trivial, AOEq.refl _⟩, ⟨rfl, rfl, trivial, AOEq.refl _⟩, ⟨rfl, rfl, trivial, AOEq.refl _⟩, ⟨rfl, rfl, trivial, AOEq.refl _⟩, ⟨rfl, rfl, trivial, AOEq.refl _⟩, trivial⟩, rfl⟩, rfl, fun h => by cases h⟩
 ·refine Or.inr (Or.inr ?_)
  refine ⟨true, [0, 1, 2, 3, 4, 5, 6, 7, 8, 9, 10, 11, 12, 13], rfl, Unit, _, _, _, _, of_fn st B 11 (by decide), fun _ _ => ?_⟩
  repeat refine Or.inl ?_
  refine ⟨fun hc => (by cases hc), fun _ => ?_⟩
  refine ⟨fun hc => (by have hc : decide ((x.size : Int) > 65536) = true := hc; rw [decide_eq_true_eq] at hc; omega), fun _ => ?_⟩
  refine Or.inl ⟨_, _, (divided_fn x (by omega)).frz, ?_⟩
  refine Or.inl (Or.inr (Or.inr ?_))
  refine ⟨true, [0, 1, 2, 3, 4, 5, 6, 7, 8, 9, 10, 11, 12, 13], rfl, Unit, _, _, _, _, names_fn st B 11 (by decide) (hT.wf (by omega)) (by have := hT.len; omega), fun _ _ => ?_⟩
  repeat refine Or.inl ?_
  refine ⟨[], Nat, fun k => k ≤ (st.fs 11).length ∧ (∀ j, j < k → ((st.fs 11).getD j dFl).2 ≠ x), fun k => [⟨34, [], .i .i64 k⟩], fun k => [], fun k => (st.fs 11).length - k,
   ⟨0, [], ⟨Nat.zero_le _, fun j hj => absurd hj (Nat.not_lt_zero j)⟩, rfl, rfl, rfl, rfl, rfl, ⟨rfl, rfl⟩, trivial⟩, ?_⟩
  rintro k ⟨hk, hno⟩
  have hk : k ≤ (st.fs 11).length := hk
  refine .inl ⟨fun hc => ?_, fun hc => ?_⟩
  ·have hc := dlt hc
   have hc : (k : Int) < (st.fs 11).length := hc
   have ek : ((k : Nat) : Int).toNat = k := Int.toNat_natCast _
   repeat refine Or.inl ?_
   refine ⟨⟨by omega, by omega⟩, ?_⟩
   have hl := lookF (st.fs 11) ((mkeys (st.fs 11)).getD ((k : Nat) : Int).toNat 0)
   rw [ek, mkeys_getD, mget_at hnd (by omega)] at hl
   have hgk : AV.i .i64 ((sortI (mkeys (st.fs 11))).getD ((k : Nat) : Int).toNat 0) = AV.i .i64 ((st.fs 11).getD k dFl).1 := by rw [hso, ek, mkeys_getD]
   rw [← hgk] at hl
   have hsk : ((st.fs 11).getD k dFl).2.size ≤ 200 := hT.sz _ (getD_memD dFl (by omega))
   have hdk := div_len ((st.fs 11).getD k dFl).2
   refine ⟨by omega, ?_⟩
   refine ⟨_, _, ⟨hkF, rfl, hl⟩, ?_⟩
   refine Or.inl ⟨_, _, equal_fn (divL ((st.fs 11).getD k dFl).2) (divL x) (by omega) (by omega), ?_⟩
   refine ⟨fun h2 => ?_, fun h2 => ?_⟩
   ·exfalso
    have h2 : decide (divL ((st.fs 11).getD k dFl).2 = divL x) = true := h2
    rw [bytes_dif, decide_eq_true_eq] at h2
    exact hall k (by omega) h2
   ·refine ⟨k + 1, [], ⟨by omega, fun j hj => hall j (by omega)⟩, by dsimp only; omega, rfl, rfl, rfl, rfl, rfl, ⟨rfl, wr (by omega) (by omega)⟩, trivial⟩
  ·refine Or.inl (Or.inr (Or.inr ?_))
   refine ⟨true, [0, 1, 2, 3, 4, 5, 6, 7, 8, 9, 10, 11, 12, 13], rfl, Unit, _, _, _, _, used_fn st B 11 (by decide) (by omega) (fun p hp => Nat.le_trans (hT.sz p hp) (by decide)) hBt, fun _ _ => ?_⟩
   have hub : usedL (st.fs 11) ≤ 40000 := Nat.le_trans husd (Nat.le_trans (Nat.mul_le_mul_left 200 (Nat.le_trans hTl hm)) (by decide))
   refine ⟨fun h3 => ?_, fun _ => ?_⟩
   ·exfalso
    have h3 : decide (IntKind.i64.wrap ((usedL (st.fs 11) : Int) + x.size) > 1048576) = true := h3
    rw [wr (by omega) (by omega), decide_eq_true_eq] at h3
    omega
   have ao0 : AOEq (mpB (fun c => .ag (ckA c)) (fun n => .i .i64 n) (dCk, 0) (incs st.us ((divL x).take 0)) B.ub B.uc) (usO st B) := AOEq.refl _
   repeat refine Or.inl ?_
   refine ⟨[], Nat × (Nat → Nat) × Nat, fun p => p.1 ≤ (divL x).length, fun p => [⟨57, [], .i .i64 p.1⟩], fun p => [⟨1, [], mpB (fun c => .ag (ckA c)) (fun n => .i .i64 n) (dCk, 0) (incs st.us ((divL x).take p.1)) p.2.1 p.2.2⟩], fun p => (divL x).length - p.1,
    ⟨(0, B.ub, B.uc), [], Nat.zero_le _, rfl, rfl, rfl, rfl, rfl, ⟨rfl, rfl⟩, ao0⟩, ?_⟩
   rintro ⟨q, ub, uc⟩ hql
   have hql : q ≤ (divL x).length := hql
   have hUq := hU.incs (divL x) q hql
   refine .inl ⟨fun hc => ?_, fun hc => ?_⟩
   ·have hc := dlt hc
    have hc : (q : Int) < (divL x).length := hc
    have eq : ((q : Nat) : Int).toNat = q := Int.toNat_natCast _
    have hcb := hUq.2 ((divL x).getD q dCk)
    have hds := incs_snoc (L := st.us) (l := divL x) (k := q) (by omega)
    have hlk := lookU (incs st.us ((divL x).take q)) ((divL x).getD q dCk)
    have hup2 := updU (incs st.us ((divL x).take q)) ub uc ((divL x).getD q dCk) (cntU (incs st.us ((divL x).take q)) ((divL x).getD q dCk) + 1)
    repeat refine Or.inl ?_
    refine ⟨⟨by omega, by omega⟩, ?_⟩
    have hbin : binI .add .i64 (cntU (incs st.us ((divL x).take q)) ((divL x).getD q dCk)) 1 = some (.i .i64 (cntU (incs st.us ((divL x).take q)) ((divL x).getD q dCk) + 1)) := by
     show some (AV.i .i64 (IntKind.i64.wrap _)) = _
     rw [wr (by omega) (by omega)]
    refine ⟨(mget (incs st.us ((divL x).take q)) ((divL x).getD q dCk)).isSome, cntU (incs st.us ((divL x).take q)) ((divL x).getD q dCk), cntU (incs st.us ((divL x).take q)) ((divL x).getD q dCk) + 1, _, _, _, _, _, ⟨keysU _, rfl, hlk, hbin, hup2⟩, ?_⟩
    have ao : AOEq (mpB (fun c => .ag (ckA c)) (fun n => .i .i64 n) (dCk, 0) (incs st.us ((divL x).take (q + 1))) (fun j => if j < (incs st.us ((divL x).take q)).length then ub j else uc) (if (mget (incs st.us ((divL x).take q)) ((divL x).getD q dCk)).isSome = true then uc else uc + 1)) (mpB (fun c => .ag (ckA c)) (fun n => .i .i64 n) (dCk, 0) (mset (incs st.us ((divL x).take q)) ((divL x).getD q dCk) (cntU (incs st.us ((divL x).take q)) ((divL x).getD q dCk) + 1)) (fun j => if j < (incs st.us ((divL x).take q)).length then ub j else uc) (if (mget (incs st.us ((divL x).take q)) ((divL x).getD q dCk)).isSome = true then uc else uc + 1)) := by
     rw [hds]
     exact AOEq.refl _
    refine ⟨(q + 1, _, _), [], (by show q + 1 ≤ (divL x).length; omega), by dsimp only; omega, rfl, rfl, rfl, rfl, rfl, ⟨rfl, wr (by omega) (by omega)⟩, ao⟩
   ·have hc := dnlt hc
    have hc : ((divL x).length : Int) ≤ (q : Nat) := hc
    have hte : (divL x).take q = divL x := List.take_of_length_le (by omega)
    repeat refine Or.inl ?_
    refine ⟨_, _, _, _, _, ⟨hkF, rfl, hup⟩, ?_⟩
    have aoU : AOEq (usO (putS st 11 x) (putB st B 11 ub uc)) (mpB (fun c => .ag (ckA c)) (fun n => .i .i64 n) (dCk, 0) (incs st.us ((divL x).take q)) ub uc) := by
     rw [hte]
     exact AOEq.refl _
    have w1 : IntKind.i64.wrap (st.nx 11 + 1) = st.nx 11 + 1 := wr (by omega) (by omega)
    have w2 : IntKind.i64.wrap (IntKind.i64.wrap (st.nx 11 + 1) - 1) = st.nx 11 := by
     rw [w1, wr (by omega) (by omega)]
     omega
    have aoC : AOEq (.cells 151 (stC (putS st 11 x))) (.cells 151 [.mo 1, .mo 2, .i .i64 (st.nx 0), .mo 3, .i .i64 (st.nx 1), .mo 4, .i .i64 (st.nx 2), .mo 5, .i .i64 (st.nx 3), .mo 6, .i .i64 (st.nx 4), .mo 7, .i .i64 (st.nx 5), .mo 8, .i .i64 (st.nx 6), .mo 9, .i .i64 (st.nx 7), .mo 10, .i .i64 (st.nx 8), .mo 11, .i .i64 (st.nx 9), .mo 12, .i .i64 (st.nx 10), .mo 13, .i .i64 (IntKind.i64.wrap (st.nx 11 + 1))]) := by
     rw [w1]
     exact AOEq.refl _
    have hav : AVEq (.tup [.i .i64 (st.nx 11), .i .i64 0]) (.tup [.i .i64 (IntKind.i64.wrap (IntKind.i64.wrap (st.nx 11 + 1) - 1)), .i .i64 0]) := by
     rw [w2]
     exact AVEq.refl _
    exact ⟨putB st B 11 ub uc, [], hBk ub uc, ⟨⟨⟨rfl, rfl, hav⟩, trivial⟩, ⟨⟨rfl, rfl, rfl, aoC⟩, ⟨rfl, rfl, trivial, aoU⟩, ⟨rfl, rfl, trivial, AOEq.refl _⟩, ⟨rfl, rfl, trivial, AOEq.refl _⟩, ⟨rfl, rfl, trivial, AOEq.refl _⟩, ⟨rfl, rfl, trivial, AOEq.refl _⟩, ⟨rfl, rfl, trivial, AOEq.refl _⟩, ⟨rfl, rfl, trivial, AOEq.refl _⟩, ⟨rfl, rfl, trivial, AOEq.refl _⟩, ⟨rfl, rfl, trivial, AOEq.refl _⟩, ⟨rfl, rfl, trivial, AOEq.refl _⟩, ⟨rfl, rfl, trivial, AOEq.refl _⟩, ⟨rfl, rfl, trivial, AOEq.refl _⟩, ⟨rfl, rfl, trivial, AOEq.refl _⟩, trivial⟩, rfl⟩, rfl, fun h => by cases h⟩
end Go.Proofs.Ytnookbebiacaeaa
end

section
namespace Go.Proofs.Ytnookbebiacaeaa
open Go.Eng
abbrev Fl := Int × Int × ByteArray
def dFf : Fl := (0, 0, noB)
def rF (l : List Fl) (k : Nat) : List AV := [.i .i64 (l.getD k dFf).1, .i .i64 (l.getD k dFf).2.1, .s (l.getD k dFf).2.2]
def rfV (R : List Fl) (N : List Int) : List AV := [.rs 3 R.length (rF R), .rs 1 N.length (rI N)]
def rUsed (R : List Fl) (t : Int) : Nat := ((R.filter fun f => f.1 == t).map fun f => f.2.2.size).sum
def rNames (R : List Fl) (t : Int) : List Int := (R.filter fun f => f.1 == t).map fun f => f.2.1
theorem filter_snoc {R : List Fl} {k : Nat} (h : k < R.length) (t : Int) : (R.take (k + 1)).filter (fun f => f.1 == t) = (R.take k).filter (fun f => f.1 == t) ++ if (R.getD k dFf).1 == t then [R.getD k dFf] else [] := by
 rw [take_snocD dFf h, List.filter_append]
 congr 1
 simp only [List.filter_cons, List.filter_nil]
theorem rUsed_snoc {R : List Fl} {k : Nat} (h : k < R.length) (t : Int) : rUsed (R.take (k + 1)) t = rUsed (R.take k) t + if (R.getD k dFf).1 == t then (R.getD k dFf).2.2.size else 0 := by
 unfold rUsed
 rw [filter_snoc h]
 split
 ·rw [List.map_append, List.sum_append_nat]
  simp
 ·rw [List.append_nil]
  simp
theorem rUsed_bd {R : List Fl} (hz : ∀ f ∈ R, f.2.2.size ≤ 65536) (t : Int) : ∀ k, k ≤ R.length → rUsed (R.take k) t ≤ 65536 * k
 | 0, _ => by simp [rUsed]
 | k + 1, h => by
  have ih := rUsed_bd hz t k (by omega)
  rw [rUsed_snoc (by omega)]
  have := hz _ (getD_memD dFf (show k < R.length by omega))
  split <;> omega
set_option maxRecDepth 20000 in
set_option maxHeartbeats 4000000 in
theorem rused_fn (R : List Fl) (N : List Int) (hR : R.length ≤ 10000) (hz : ∀ f ∈ R, f.2.2.size ≤ 65536) (t : Int) : Ctr Try.prog 60 [.rp (rfV R N), .i .i64 t] [] (.i .i64 (rUsed R t)) := by
 refine fn_of_exec tabOk Try.func60 (by kernel_rfl) rfl (N := Try.f60.ntmps) rfl (res := [.tmp 4]) rfl rfl [] ?_
 repeat refine Or.inl ?_
 refine ⟨[], Nat, fun k => k ≤ R.length, fun k => [⟨6, [], .i .i64 k⟩, ⟨5, [], .i .i64 (rUsed (R.take k) t)⟩], fun _ => [], fun k => R.length - k,
  ⟨0, [], Nat.zero_le _, rfl, rfl, rfl, rfl, rfl, ⟨⟨rfl, rfl⟩, ⟨rfl, rfl⟩⟩, trivial⟩, ?_⟩
 intro k hk
 have hk : k ≤ R.length := hk
 refine .inl ⟨fun hc => ?_, fun hc => ?_⟩
 ·have hc := dlt hc
  have hc : (k : Int) < R.length := hc
  have ek : ((k : Nat) : Int).toNat = k := Int.toNat_natCast _
  have hsn := rUsed_snoc (R := R) (k := k) (by omega) t
  have hb := rUsed_bd hz t k hk
  have hzk := hz _ (getD_memD dFf (show k < R.length by omega))
  repeat refine Or.inl ?_
  refine ⟨⟨by omega, by omega⟩, ?_⟩
  refine ⟨fun h => ?_, fun h => ?_⟩
  ·have h : ((R.getD ((k : Nat) : Int).toNat dFf).1 == t) = true := h
   rw [ek] at h
   rw [if_pos h] at hsn
   refine ⟨⟨by omega, by omega⟩, ?_⟩
   refine ⟨k + 1, [], (by show k + 1 ≤ R.length; omega), by dsimp only; omega, rfl, rfl, rfl, rfl, rfl, ⟨⟨rfl, wr (by omega) (by omega)⟩, ⟨rfl, ?_⟩⟩, trivial⟩
   rw [hsn, ek, wr (by omega) (by omega)]
   omega
  ·have h : ((R.getD ((k : Nat) : Int).toNat dFf).1 == t) = false := h
   rw [ek] at h
   rw [if_neg (by rw [h]; decide)] at hsn
   refine ⟨k + 1, [], (by show k + 1 ≤ R.length; omega), by dsimp only; omega, rfl, rfl, rfl, rfl, rfl, ⟨⟨rfl, wr (by omega) (by omega)⟩, ⟨rfl, ?_⟩⟩, trivial⟩
   rw [hsn]
   rfl
 ·have hc := dnlt hc
  have hc : (R.length : Int) ≤ (k : Nat) := hc
  refine RetIs.i ?_
  rw [List.take_of_length_le (by omega)]
theorem rNames_snoc {R : List Fl} {k : Nat} (h : k < R.length) (t : Int) : rNames (R.take (k + 1)) t = rNames (R.take k) t ++ if (R.getD k dFf).1 == t then [(R.getD k dFf).2.1] else [] := by
 unfold rNames
 rw [filter_snoc h, List.map_append]
 split <;> rfl
theorem rNames_len (R : List Fl) (t : Int) : (rNames R t).length ≤ R.length := by
 unfold rNames
 rw [List.length_map]
 exact List.length_filter_le _ _
theorem snocI_row (l : List Int) (x : Int) : AOEq (.row 3 1 (l ++ [x]).length (rI (l ++ [x]))) (.row 3 1 (l.length + 1) (catG l.length (rI l) (rowOf 1 [.i .i64 x]))) := by
 refine ⟨rfl, rfl, by simp, fun k hk => ?_⟩
 unfold catG rI
 by_cases h : k < l.length
 ·rw [if_pos h, getD_snoc, if_pos h]
 ·have : k = l.length := by
   rw [List.length_append, List.length_singleton] at hk
   omega
  subst this
  rw [if_neg h, getD_snoc, if_neg h, if_pos rfl]
  simp
  rfl
set_option maxRecDepth 20000 in
set_option maxHeartbeats 4000000 in
theorem rnames_fn (R : List Fl) (N : List Int) (hR : R.length ≤ 10000) (t : Int) : Ctr Try.prog 65 [.rp (rfV R N), .i .i64 t] [.row 3 1 (rNames R t).length (rI (rNames R t))] (.so 0) := by
 refine fn_of_exec tabOk Try.func65 (by kernel_rfl) rfl (N := Try.f65.ntmps) rfl (res := [.tmp 4]) rfl rfl [(1000001, [.nl 5 3 1])] ?_
 repeat refine Or.inl ?_
 refine ⟨[], Nat, fun k => k ≤ R.length, fun k => [⟨6, [], .i .i64 k⟩, ⟨5, [], .so 0⟩], fun k => [⟨0, [], .row 3 1 (rNames (R.take k) t).length (rI (rNames (R.take k) t))⟩], fun k => R.length - k,
  ⟨0, [], Nat.zero_le _, rfl, rfl, rfl, rfl, rfl, ⟨⟨rfl, rfl⟩, rfl⟩, ⟨rfl, rfl, rfl, fun k hk => absurd hk (Nat.not_lt_zero k)⟩⟩, ?_⟩
 intro k hk
 have hk : k ≤ R.length := hk
 refine .inl ⟨fun hc => ?_, fun hc => ?_⟩
 ·have hc := dlt hc
  have hc : (k : Int) < R.length := hc
  have ek : ((k : Nat) : Int).toNat = k := Int.toNat_natCast _
  have hsn := rNames_snoc (R := R) (k := k) (by omega) t
  have hnl := rNames_len (R.take k) t
  rw [List.length_take] at hnl
  repeat refine Or.inl ?_
  refine ⟨⟨by omega, by omega⟩, ?_⟩
  refine ⟨fun h => ?_, fun h => ?_⟩
  ·have h : ((R.getD ((k : Nat) : Int).toNat dFf).1 == t) = true := h
   rw [ek] at h
   rw [if_pos h] at hsn
   repeat refine Or.inl ?_
   refine ⟨⟨by omega, by omega⟩, ?_⟩
   refine ⟨fits (by omega), ?_⟩
   have ao := snocI_row (rNames (R.take k) t) (R.getD k dFf).2.1
   rw [← hsn] at ao
   have ao2 : AOEq (.row 3 1 (rNames (R.take (k + 1)) t).length (rI (rNames (R.take (k + 1)) t))) (.row 3 1 ((rNames (R.take k) t).length + 1) (catG (rNames (R.take k) t).length (rI (rNames (R.take k) t)) (rowOf 1 [.i .i64 (R.getD ((k : Nat) : Int).toNat dFf).2.1]))) := by
    rw [ek]
    exact ao
   refine ⟨k + 1, [(0, 2)], (by show k + 1 ≤ R.length; omega), by dsimp only; omega, rfl, rfl, rfl, rfl, rfl, ⟨⟨rfl, wr (by omega) (by omega)⟩, rfl⟩, ao2⟩
  ·have h : ((R.getD ((k : Nat) : Int).toNat dFf).1 == t) = false := h
   rw [ek] at h
   rw [if_neg (by rw [h]; decide), List.append_nil] at hsn
   have ao : AOEq (.row 3 1 (rNames (R.take (k + 1)) t).length (rI (rNames (R.take (k + 1)) t))) (.row 3 1 (rNames (R.take k) t).length (rI (rNames (R.take k) t))) := by
    rw [hsn]
    exact AOEq.refl _
   refine ⟨k + 1, [], (by show k + 1 ≤ R.length; omega), by dsimp only; omega, rfl, rfl, rfl, rfl, rfl, ⟨⟨rfl, wr (by omega) (by omega)⟩, rfl⟩, ao⟩
 ·have hc := dnlt hc
  have hc : (R.length : Int) ≤ (k : Nat) := hc
  have hte : R.take k = R := List.take_of_length_le (by omega)
  rw [hte]
  exact RetIs.so rfl rfl (fun _ _ => rfl) (fun _ _ => rfl)
end Go.Proofs.Ytnookbebiacaeaa
end

section
namespace Go.Proofs.Ytnookbebiacaeaa
open Go.Eng
def hitF (t n : Int) (f : Fl) : Bool := f.1 == t && f.2.1 == n
def rAt (R : List Fl) (t n : Int) : Int := if R.any (hitF t n) then (R.findIdx (hitF t n) : Int) else -1
theorem find_take {R : List Fl} {p : Fl → Bool} {k : Nat} (h : k < R.length) (hno : ∀ j, j < k → p (R.getD j dFf) = false) (hp : p (R.getD k dFf) = true) : R.findIdx p = k ∧ R.any p = true := by
 have hg : R.getD k dFf = R[k] := gdI h
 refine ⟨?_, List.any_eq_true.2 ⟨R.getD k dFf, getD_memD dFf h, hp⟩⟩
 rw [List.findIdx_eq h]
 refine ⟨by rw [← hg]; exact hp, fun j hj => ?_⟩
 have := hno j hj
 rw [gdI (by omega)] at this
 simpa using this
set_option maxRecDepth 20000 in
set_option maxHeartbeats 4000000 in
theorem rat_fn (R : List Fl) (N : List Int) (hR : R.length ≤ 10000) (t n : Int) : Ctr Try.prog 172 [.rp (rfV R N), .i .i64 t, .i .i64 n] [] (.i .i64 (rAt R t n)) := by
 refine fn_of_exec tabOk Try.func172 (by kernel_rfl) rfl (N := Try.f172.ntmps) rfl (res := [.tmp 6]) rfl rfl [] ?_
 repeat refine Or.inl ?_
 refine ⟨[], Nat, fun k => k ≤ R.length ∧ ∀ j, j < k → hitF t n (R.getD j dFf) = false, fun k => [⟨7, [], .i .i64 k⟩], fun _ => [], fun k => R.length - k,
  ⟨0, [], ⟨Nat.zero_le _, fun j hj => absurd hj (Nat.not_lt_zero j)⟩, rfl, rfl, rfl, rfl, rfl, ⟨rfl, rfl⟩, trivial⟩, ?_⟩
 rintro k ⟨hk, hno⟩
 have hk : k ≤ R.length := hk
 refine .inl ⟨fun hc => ?_, fun hc => ?_⟩
 ·have hc := dlt hc
  have hc : (k : Int) < R.length := hc
  have ek : ((k : Nat) : Int).toNat = k := Int.toNat_natCast _
  repeat refine Or.inl ?_
  refine ⟨⟨by omega, by omega⟩, ?_⟩
  refine ⟨fun _ => ⟨by omega, by omega⟩, ?_⟩
  refine ⟨fun h => ?_, fun h => ?_⟩
  ·have h : ((R.getD ((k : Nat) : Int).toNat dFf).1 == t && (R.getD ((k : Nat) : Int).toNat dFf).2.1 == n) = true := h
   rw [ek] at h
   obtain ⟨h1, h2⟩ := find_take (p := hitF t n) (show k < R.length by omega) hno h
   have e : rAt R t n = k := by unfold rAt; rw [if_pos h2, h1]
   rw [e]
   exact RetIs.i rfl
  ·have h : ((R.getD ((k : Nat) : Int).toNat dFf).1 == t && (R.getD ((k : Nat) : Int).toNat dFf).2.1 == n) = false := h
   rw [ek] at h
   refine ⟨k + 1, [], ⟨by omega, fun j hj => ?_⟩, by dsimp only; omega, rfl, rfl, rfl, rfl, rfl, ⟨rfl, wr (by omega) (by omega)⟩, trivial⟩
   by_cases hjk : j = k
   ·rw [hjk]; exact h
   ·exact hno j (by omega)
 ·have hc := dnlt hc
  have hc : (R.length : Int) ≤ (k : Nat) := hc
  have e : rAt R t n = -1 := by
   unfold rAt
   rw [if_neg]
   intro h
   obtain ⟨f, hf, hp⟩ := List.any_eq_true.1 h
   obtain ⟨j, hj, rfl⟩ := List.getElem_of_mem hf
   have := hno j (by omega)
   rw [gdI hj] at this
   rw [this] at hp
   cases hp
  rw [e]
  exact RetIs.i rfl
def rGet (R : List Fl) (t n : Int) : Option ByteArray := (R.find? (hitF t n)).map fun f => f.2.2
theorem at_neg {R : List Fl} {t n : Int} (h : rAt R t n < 0) : R.find? (hitF t n) = none ∧ rAt R t n = -1 := by
 unfold rAt at h ⊢
 by_cases ha : R.any (hitF t n) = true
 ·rw [if_pos ha] at h
  omega
 ·rw [if_neg ha]
  refine ⟨?_, rfl⟩
  rw [List.find?_eq_none]
  intro f hf hp
  exact ha (List.any_eq_true.2 ⟨f, hf, hp⟩)
theorem at_pos {R : List Fl} {t n : Int} (h : ¬ rAt R t n < 0) : (rAt R t n).toNat < R.length ∧ R.find? (hitF t n) = some (R.getD (rAt R t n).toNat dFf) ∧ 0 ≤ rAt R t n := by
 unfold rAt at h ⊢
 by_cases ha : R.any (hitF t n) = true
 ·rw [if_pos ha] at h ⊢
  rw [Int.toNat_natCast]
  have hlt : R.findIdx (hitF t n) < R.length := by
   rw [List.findIdx_lt_length]
   exact List.any_eq_true.1 ha
  refine ⟨hlt, ?_, by omega⟩
  rw [List.find?_eq_some_iff_getElem]
  refine ⟨?_, R.findIdx (hitF t n), hlt, (gdI hlt).symm, fun j hj => ?_⟩
  ·rw [gdI hlt]
   exact List.findIdx_getElem
  ·have := List.not_of_lt_findIdx hj
   simpa using this
 ·rw [if_neg ha] at h
  exact absurd (by decide) h
def getR0 : Option ByteArray → AV
 | some x => .tup [.s x, .i .i64 0]
 | none => .tup [.s noB, .i .i64 4]
set_option maxRecDepth 20000 in
set_option maxHeartbeats 4000000 in
theorem rget_fn (R : List Fl) (N : List Int) (hR : R.length ≤ 10000) (t n : Int) : Ctr Try.prog 122 [.rp (rfV R N), .i .i64 t, .i .i64 n] [] (getR0 (rGet R t n)) := by
 refine fn_of_exec tabOk Try.func122 (by kernel_rfl) rfl (N := Try.f122.ntmps) rfl (res := [.tmp 6, .tmp 7]) rfl rfl [] ?_
 repeat refine Or.inl ?_
 refine ⟨[], _, rat_fn R N hR t n, ?_⟩
 repeat refine Or.inl ?_
 refine ⟨fun h => ?_, fun h => ?_⟩
 ·have h : decide (rAt R t n < 0) = true := h
  rw [decide_eq_true_eq] at h
  have e : rGet R t n = none := by unfold rGet; rw [(at_neg h).1]; rfl
  rw [e]
  exact ⟨[], ⟨⟨⟨rfl, rfl, AVEq.refl _⟩, trivial⟩, trivial, rfl⟩, rfl, trivial⟩
 ·have h : decide (rAt R t n < 0) = false := h
  rw [decide_eq_false_iff_not] at h
  obtain ⟨h1, h2, h3⟩ := at_pos h
  have e : rGet R t n = some (R.getD (rAt R t n).toNat dFf).2.2 := by unfold rGet; rw [h2]; rfl
  rw [e]
  repeat refine Or.inl ?_
  refine ⟨⟨h3, by omega⟩, ?_⟩
  exact ⟨[], ⟨⟨⟨rfl, rfl, AVEq.refl _⟩, trivial⟩, trivial, rfl⟩, rfl, trivial⟩
structure Opn where
 d : Int
 t : Int
 n : Int
 x : ByteArray
def dOp : Opn := ⟨0, 0, 0, noB⟩
def Opn.av (o : Opn) : List AV := [.i .i64 o.d, .i .i64 o.t, .i .i64 o.n, .s o.x]
def rOp (l : List Opn) (k : Nat) : List AV := (l.getD k dOp).av
def fewL (l : List Opn) (m : Int) : Bool := decide ((l.length : Int) ≤ m) && l.all fun o => decide (o.x.size ≤ 200)
set_option maxRecDepth 20000 in
set_option maxHeartbeats 4000000 in
theorem few_fn (l : List Opn) (m : Int) (hl : l.length < 2 ^ 63) : Ctr Try.prog 54 [.rs 4 l.length (rOp l), .i .i64 m] [] (.b (fewL l m)) := by
 refine fn_of_exec tabOk Try.func54 (by kernel_rfl) rfl (N := Try.f54.ntmps) rfl (res := [.tmp 4]) rfl rfl [] ?_
 repeat refine Or.inl ?_
 refine ⟨[], Nat, fun k => k ≤ l.length ∧ ∀ j, j < k → (l.getD j dOp).x.size ≤ 200, fun k => [⟨5, [], .i .i64 k⟩], fun _ => [], fun k => l.length - k,
  ⟨0, [], ⟨Nat.zero_le _, fun j hj => absurd hj (Nat.not_lt_zero j)⟩, rfl, rfl, rfl, rfl, rfl, ⟨rfl, rfl⟩, trivial⟩, ?_⟩
 rintro k ⟨hk, hno⟩
 have hk : k ≤ l.length := hk
 refine .inl ⟨fun hc => ?_, fun hc => ?_⟩
 ·have hc : (decide ((k : Int) < (l.length : Int)) && decide ((k : Int) ≤ m)) = true := hc
  rw [Bool.and_eq_true, decide_eq_true_eq, decide_eq_true_eq] at hc
  obtain ⟨hc, hkm⟩ := hc
  have ek : ((k : Nat) : Int).toNat = k := Int.toNat_natCast _
  repeat refine Or.inl ?_
  refine ⟨⟨by omega, by omega⟩, ?_⟩
  refine ⟨fun h => ?_, fun h => ?_⟩
  ·have h : decide (((l.getD ((k : Nat) : Int).toNat dOp).x.size : Int) > 200) = true := h
   rw [ek, decide_eq_true_eq] at h
   refine RetIs.b ?_
   symm
   unfold fewL
   rw [Bool.and_eq_false_iff]
   right
   rw [List.all_eq_false]
   exact ⟨l.getD k dOp, getD_memD dOp (by omega), by rw [decide_eq_true_eq]; omega⟩
  ·have h : decide (((l.getD ((k : Nat) : Int).toNat dOp).x.size : Int) > 200) = false := h
   rw [ek, decide_eq_false_iff_not] at h
   refine ⟨k + 1, [], ⟨by omega, fun j hj => ?_⟩, by dsimp only; omega, rfl, rfl, rfl, rfl, rfl, ⟨rfl, wr (by omega) (by omega)⟩, trivial⟩
   by_cases hjk : j = k
   ·rw [hjk]; omega
   ·exact hno j (by omega)
 ·have hc : (decide ((k : Int) < (l.length : Int)) && decide ((k : Int) ≤ m)) = false := hc
  refine RetIs.b ?_
  unfold fewL
  by_cases hkl : k < l.length
  ·have hkm : ¬ (k : Int) ≤ m := by
    intro h
    simp [hkl, h] at hc
   have : ¬ (l.length : Int) ≤ m := by omega
   simp [this]
  ·have hall : l.all (fun o => decide (o.x.size ≤ 200)) = true := by
    rw [List.all_eq_true]
    intro o ho
    obtain ⟨j, hj, rfl⟩ := List.getElem_of_mem ho
    have := hno j (by omega)
    rw [gdI hj] at this
    simpa using this
   rw [hall, Bool.and_true]
end Go.Proofs.Ytnookbebiacaeaa
end
