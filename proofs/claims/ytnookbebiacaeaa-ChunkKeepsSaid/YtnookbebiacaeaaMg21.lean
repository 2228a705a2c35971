/-
  Several texts in one: Cke, Ckf, Ckg, Ckh, Cki, Ckj, Ckk, Ckl.
-/
import Derived.Test.YtnookbebiacaeaaMg20

section
namespace Go.Proofs.Ytnookbebiacaeaa
open Go.Eng Go.RowKit
set_option maxRecDepth 20000 in
set_option maxHeartbeats 8000000 in
theorem put_new (st : St) (B : Bn) (t m : Nat) (x : ByteArray) (h : t < 12) (hm : m ≤ 200) (hT : TOk (st.fs t) (st.nx t) m) (hx : x.size ≤ 200) (hB : BOk st B) (hU : UB st.us 100000) (hall : ∀ j, j < (st.fs t).length → ((st.fs t).getD j dFl).2 ≠ x) :
  CtrM Try.prog 69 true (storeO st B) [.p 0 0, .i .i64 t, .s x] (fun B' : Bn => BOk (putS st t x) B') (fun B' => storeO (putS st t x) B') (fun _ => []) (fun _ => .tup [.i .i64 (st.nx t), .i .i64 0]) := by
 refine fn_of_execM tabOk Try.func69 (by kernel_rfl) rfl (N := Try.f69.ntmps) rfl (res := [.tmp 6, .tmp 7]) rfl true false (storeO st B) _ _ _ _ rfl (fun h => by cases h) [] ?_
 have hso : sortI (mkeys (st.fs t)) = mkeys (st.fs t) := sortI_id hT.asc
 have hkF := keysFile (st.fs t)
 have hdx := div_len x
 have hnd := hT.nodup
 have hTl := hT.len
 have hBk := put_BOk hB x h
 have hBt := hB t h
 have hn0 := hT.n0
 have hnm := hT.nm
 have husd := usedL_bd hT.sz
 have hup := updOk_new (kf := fun n : Int => .i .i64 n) (vf := filV) (d := dFl) (born := B.fb t) (clock := B.fc t) i64I hT.fresh x
 rw [mset_new hT.fresh] at hup
 rcases cases12 h with rfl | rfl | rfl | rfl | rfl | rfl | rfl | rfl | rfl | rfl | rfl | rfl
 ·refine Or.inr (Or.inr ?_)
  refine ⟨true, [0, 1, 2, 3, 4, 5, 6, 7, 8, 9, 10, 11, 12, 13], rfl, Unit, _, _, _, _, of_fn st B 0 (by decide), fun _ _ => ?_⟩
  repeat refine Or.inl ?_
  refine ⟨fun hc => (by cases hc), fun _ => ?_⟩
  refine ⟨fun hc => (by have hc : decide ((x.size : Int) > 65536) = true := hc; rw [decide_eq_true_eq] at hc; omega), fun _ => ?_⟩
  refine Or.inl ⟨_, _, (divided_fn x (by omega)).frz, ?_⟩
  refine Or.inl (Or.inr (Or.inr ?_))
  refine ⟨true, [0, 1, 2, 3, 4, 5, 6, 7, 8, 9, 10, 11, 12, 13], rfl, Unit, _, _, _, _, names_fn st B 0 (by decide) (hT.wf (by omega)) (by have := hT.len; omega), fun _ _ => ?_⟩
  repeat refine Or.inl ?_
  refine ⟨[], Nat, fun k => k ≤ (st.fs 0).length ∧ (∀ j, j < k → ((st.fs 0).getD j dFl).2 ≠ x), fun k => [⟨34, [], .i .i64 k⟩], fun k => [], fun k => (st.fs 0).length - k,
   ⟨0, [], ⟨Nat.zero_le _, fun j hj => absurd hj (Nat.not_lt_zero j)⟩, rfl, rfl, rfl, rfl, rfl, ⟨rfl, rfl⟩, trivial⟩, ?_⟩
  rintro k ⟨hk, hno⟩
  have hk : k ≤ (st.fs 0).length := hk
  refine .inl ⟨fun hc => ?_, fun hc => ?_⟩
  ·have hc := dlt hc
   have hc : (k : Int) < (st.fs 0).length := hc
   have ek : ((k : Nat) : Int).toNat = k := Int.toNat_natCast _
   repeat refine Or.inl ?_
   refine ⟨⟨by omega, by omega⟩, ?_⟩
   have hl := lookF (st.fs 0) ((mkeys (st.fs 0)).getD ((k : Nat) : Int).toNat 0)
   rw [ek, mkeys_getD, mget_at hnd (by omega)] at hl
   have hgk : AV.i .i64 ((sortI (mkeys (st.fs 0))).getD ((k : Nat) : Int).toNat 0) = AV.i .i64 ((st.fs 0).getD k dFl).1 := by rw [hso, ek, mkeys_getD]
   rw [← hgk] at hl
   have hsk : ((st.fs 0).getD k dFl).2.size ≤ 200 := hT.sz _ (getD_memD dFl (by omega))
   have hdk := div_len ((st.fs 0).getD k dFl).2
   refine ⟨by omega, ?_⟩
   refine ⟨_, _, ⟨hkF, rfl, hl⟩, ?_⟩
   refine Or.inl ⟨_, _, equal_fn (divL ((st.fs 0).getD k dFl).2) (divL x) (by omega) (by omega), ?_⟩
   refine ⟨fun h2 => ?_, fun h2 => ?_⟩
   ·exfalso
    have h2 : decide (divL ((st.fs 0).getD k dFl).2 = divL x) = true := h2
    rw [bytes_dif, decide_eq_true_eq] at h2
    exact hall k (by omega) h2
   ·refine ⟨k + 1, [], ⟨by omega, fun j hj => hall j (by omega)⟩, by dsimp only; omega, rfl, rfl, rfl, rfl, rfl, ⟨rfl, wr (by omega) (by omega)⟩, trivial⟩
  ·refine Or.inl (Or.inr (Or.inr ?_))
   refine ⟨true, [0, 1, 2, 3, 4, 5, 6, 7, 8, 9, 10, 11, 12, 13], rfl, Unit, _, _, _, _, used_fn st B 0 (by decide) (by omega) (fun p hp => Nat.le_trans (hT.sz p hp) (by decide)) hBt, fun _ _ => ?_⟩
   have hub : usedL (st.fs 0) ≤ 40000 := Nat.le_trans husd (Nat.le_trans (Nat.mul_le_mul_left 200 (Nat.le_trans hTl hm)) (by decide))
   refine ⟨fun h3 => ?_, fun _ => ?_⟩
   ·exfalso
    have h3 : decide (IntKind.i64.wrap ((usedL (st.fs 0) : Int) + x.size) > 1048576) = true := h3
    rw [wr (by omega) (by omega), decide_eq_true_eq] at h3
    omega
   have ao0 : AOEq (mpB (fun c => .ag (ckA c)) (fun n => .i .i64 n) (dCk, 0) (incs st.us ((divL x).take 0)) B.ub B.uc) (usO st B) := AOEq.refl _
   repeat refine Or.inl ?_
   refine ⟨[], Nat × (Nat → Nat) × Nat, fun p => p.1 ≤ (divL x).length, fun p => [⟨57, [], .i .i64 p.1⟩], fun p => [⟨1, [], mpB (fun c => .ag (ckA c)) (fun n => .i .i64 n) (dCk, 0) (incs st.us ((divL x).take p.1)) p.2.1 p.2.2⟩], fun p => (divL x).length - p.1,
    ⟨(0, B.ub, B.uc), [], Nat.zero_le _, rfl, rfl, rfl, rfl, rfl, ⟨rfl, rfl⟩, ao0⟩, ?_⟩
   rintro ⟨q, ub, uc⟩ hql
   have hql : q ≤ (divL x).length := hql
   have hUq := hU.incs (divL x) q hql
   refine .inl ⟨fun hc => ?_, fun hc => ?_⟩
   ·have hc := dlt hc
    have hc : (q : Int) < (divL x).length := hc
    have eq : ((q : Nat) : Int).toNat = q := Int.toNat_natCast _
    have hcb := hUq.2 ((divL x).getD q dCk)
    have hds := incs_snoc (L := st.us) (l := divL x) (k := q) (by omega)
    have hlk := lookU (incs st.us ((divL x).take q)) ((divL x).getD q dCk)
    have hup2 := updU (incs st.us ((divL x).take q)) ub uc ((divL x).getD q dCk) (cntU (incs st.us ((divL x).take q)) ((divL x).getD q dCk) + 1)
    repeat refine Or.inl ?_
    refine ⟨⟨by omega, by omega⟩, ?_⟩
    have hbin : binI .add .i64 (cntU (incs st.us ((divL x).take q)) ((divL x).getD q dCk)) 1 = some (.i .i64 (cntU (incs st.us ((divL x).take q)) ((divL x).getD q dCk) + 1)) := by
     show some (AV.i .i64 (IntKind.i64.wrap _)) = _
     rw [wr (by omega) (by omega)]
    refine ⟨(mget (incs st.us ((divL x).take q)) ((divL x).getD q dCk)).isSome, cntU (incs st.us ((divL x).take q)) ((divL x).getD q dCk), cntU (incs st.us ((divL x).take q)) ((divL x).getD q dCk) + 1, _, _, _, _, _, ⟨keysU _, rfl, hlk, hbin, hup2⟩, ?_⟩
    have ao : AOEq (mpB (fun c => .ag (ckA c)) (fun n => .i .i64 n) (dCk, 0) (incs st.us ((divL x).take (q + 1))) (fun j => if j < (incs st.us ((divL x).take q)).length then ub j else uc) (if (mget (incs st.us ((divL x).take q)) ((divL x).getD q dCk)).isSome = true then uc else uc + 1)) (mpB (fun c => .ag (ckA c)) (fun n => .i .i64 n) (dCk, 0) (mset (incs st.us ((divL x).take q)) ((divL x).getD q dCk) (cntU (incs st.us ((divL x).take q)) ((divL x).getD q dCk) + 1)) (fun j => if j < (incs st.us ((divL x).take q)).length then ub j else uc) (if (mget (incs st.us ((divL x).take q)) ((divL x).getD q dCk)).isSome = true then uc else uc + 1)) := by
     rw [hds]
     exact AOEq.refl _
    refine ⟨(q + 1, _, _), [], (by show q + 1 ≤ (divL x).length; omega), by dsimp only; omega, rfl, rfl, rfl, rfl, rfl, ⟨rfl, wr (by omega) (by omega)⟩, ao⟩
   ·have hc := dnlt hc
    have hc : ((divL x).length : Int) ≤ (q : Nat) := hc
    have hte : (divL x).take q = divL x := List.take_of_length_le (by omega)
    repeat refine Or.inl ?_
    refine ⟨_, _, _, _, _, ⟨hkF, rfl, hup⟩, ?_⟩
    have aoU : AOEq (usO (putS st 0 x) (putB st B 0 ub uc)) (mpB (fun c => .ag (ckA c)) (fun n => .i .i64 n) (dCk, 0) (incs st.us ((divL x).take q)) ub uc) := by
     rw [hte]
     exact AOEq.refl _
    have w1 : IntKind.i64.wrap (st.nx 0 + 1) = st.nx 0 + 1 := wr (by omega) (by omega)
    have w2 : IntKind.i64.wrap (IntKind.i64.wrap (st.nx 0 + 1) - 1) = st.nx 0 := by
     rw [w1, wr (by omega) (by omega)]
     omega
    have aoC : AOEq (.cells 151 (stC (putS st 0 x))) (.cells 151 [.mo 1, .mo 2, .i .i64 (IntKind.i64.wrap (st.nx 0 + 1)), .mo 3, .i .i64 (st.nx 1), .mo 4, .i .i64 (st.nx 2), .mo 5, .i .i64 (st.nx 3), .mo 6, .i .i64 (st.nx 4), .mo 7, .i .i64 (st.nx 5), .mo 8, .i .i64 (st.nx 6), .mo 9, .i .i64 (st.nx 7), .mo 10, .i .i64 (st.nx 8), .mo 11, .i .i64 (st.nx 9), .mo 12, .i .i64 (st.nx 10), .mo 13, .i .i64 (st.nx 11)]) := by
     rw [w1]
     exact AOEq.refl _
    have hav : AVEq (.tup [.i .i64 (st.nx 0), .i .i64 0]) (.tup [.i .i64 (IntKind.i64.wrap (IntKind.i64.wrap (st.nx 0 + 1) - 1)), .i .i64 0]) := by
     rw [w2]
     exact AVEq.refl _
    exact ⟨putB st B 0 ub uc, [], hBk ub uc, ⟨⟨⟨rfl, rfl, hav⟩, trivial⟩, ⟨⟨rfl, rfl, rfl, aoC⟩, ⟨rfl, rfl, trivial, aoU⟩, ⟨rfl, rfl, trivial, AOEq.refl _⟩, ⟨rfl, rfl, trivial, AOEq.refl _⟩, ⟨rfl, rfl, trivial, AOEq.refl _⟩, ⟨rfl, rfl, trivial, AOEq.refl _⟩, ⟨rfl, rfl, trivial, AOEq.refl _⟩, ⟨rfl, rfl, trivial, AOEq.refl _⟩, ⟨rfl, rfl, trivial, AOEq.refl _⟩, ⟨rfl, rfl, trivial, AOEq.refl _⟩, ⟨rfl, rfl, trivial, AOEq.refl _⟩, ⟨rfl, rfl, trivial, AOEq.refl _⟩, ⟨rfl, rfl, trivial, AOEq.refl _⟩, ⟨rfl, rfl, trivial, AOEq.refl _⟩, trivial⟩, rfl⟩, rfl, fun h => by cases h⟩
 ·refine Or.inr (Or.inr ?_)
  refine ⟨true, [0, 1, 2, 3, 4, 5, 6, 7, 8, 9, 10, 11, 12, 13], rfl, Unit, _, _, _, _, of_fn st B 1 (by decide), fun _ _ => ?_⟩
  repeat refine Or.inl ?_
  refine ⟨fun hc => (by cases hc), fun _ => ?_⟩
  refine ⟨fun hc => (by have hc : decide ((x.size : Int) > 65536) = true := hc; rw [decide_eq_true_eq] at hc; omega), fun _ => ?_⟩
  refine Or.inl ⟨_, _, (divided_fn x (by omega)).frz, ?_⟩
  refine Or.inl (Or.inr (Or.inr ?_))
  refine ⟨true, [0, 1, 2, 3, 4, 5, 6, 7, 8, 9, 10, 11, 12, 13], rfl, Unit, _, _, _, _, names_fn st B 1 (by decide) (hT.wf (by omega)) (by have := hT.len; omega), fun _ _ => ?_⟩
  repeat refine Or.inl ?_
  refine ⟨[], Nat, fun k => k ≤ (st.fs 1).length ∧ (∀ j, j < k → ((st.fs 1).getD j dFl).2 ≠ x), fun k => [⟨34, [], .i .i64 k⟩], fun k => [], fun k => (st.fs 1).length - k,
   ⟨0, [], ⟨Nat.zero_le _, fun j hj => absurd hj (Nat.not_lt_zero j)⟩, rfl, rfl, rfl, rfl, rfl, ⟨rfl, rfl⟩, trivial⟩, ?_⟩
  rintro k ⟨hk, hno⟩
  have hk : k ≤ (st.fs 1).length := hk
  refine .inl ⟨fun hc => ?_, fun hc => ?_⟩
  ·have hc := dlt hc
   have hc : (k : Int) < (st.fs 1).length := hc
   have ek : ((k : Nat) : Int).toNat = k := Int.toNat_natCast _
   repeat refine Or.inl ?_
   refine ⟨⟨by omega, by omega⟩, ?_⟩
   have hl := lookF (st.fs 1) ((mkeys (st.fs 1)).getD ((k : Nat) : Int).toNat 0)
   rw [ek, mkeys_getD, mget_at hnd (by omega)] at hl
   have hgk : AV.i .i64 ((sortI (mkeys (st.fs 1))).getD ((k : Nat) : Int).toNat 0) = AV.i .i64 ((st.fs 1).getD k dFl).1 := by rw [hso, ek, mkeys_getD]
   rw [← hgk] at hl
   have hsk : ((st.fs 1).getD k dFl).2.size ≤ 200 := hT.sz _ (getD_memD dFl (by omega))
   have hdk := div_len ((st.fs 1).getD k dFl).2
   refine ⟨by omega, ?_⟩
   refine ⟨_, _, ⟨hkF, rfl, hl⟩, ?_⟩
   refine Or.inl ⟨_, _, equal_fn (divL ((st.fs 1).getD k dFl).2) (divL x) (by omega) (by omega), ?_⟩
   refine ⟨fun h2 => ?_, fun h2 => ?_⟩
   ·exfalso
    have h2 : decide (divL ((st.fs 1).getD k dFl).2 = divL x) = true := h2
    rw [bytes_dif, decide_eq_true_eq] at h2
    exact hall k (by omega) h2
   ·refine ⟨k + 1, [], ⟨by omega, fun j hj => hall j (by omega)⟩, by dsimp only; omega, rfl, rfl, rfl, rfl, rfl, ⟨rfl, wr (by omega) (by omega)⟩, trivial⟩
  ·refine Or.inl (Or.inr (Or.inr ?_))
   refine ⟨true, [0, 1, 2, 3, 4, 5, 6, 7, 8, 9, 10, 11, 12, 13], rfl, Unit, _, _, _, _, used_fn st B 1 (by decide) (by omega) (fun p hp => Nat.le_trans (hT.sz p hp) (by decide)) hBt, fun _ _ => ?_⟩
   have hub : usedL (st.fs 1) ≤ 40000 := Nat.le_trans husd (Nat.le_trans (Nat.mul_le_mul_left 200 (Nat.le_trans hTl hm)) (by decide))
   refine ⟨fun h3 => ?_, fun _ => ?_⟩
   ·exfalso
    have h3 : decide (IntKind.i64.wrap ((usedL (st.fs 1) : Int) + x.size) > 1048576) = true := h3
    rw [wr (by omega) (by omega), decide_eq_true_eq] at h3
    omega
   have ao0 : AOEq (mpB (fun c => .ag (ckA c)) (fun n => .i .i64 n) (dCk, 0) (incs st.us ((divL x).take 0)) B.ub B.uc) (usO st B) := AOEq.refl _
   repeat refine Or.inl ?_
   refine ⟨[], Nat × (Nat → Nat) × Nat, fun p => p.1 ≤ (divL x).length, fun p => [⟨57, [], .i .i64 p.1⟩], fun p => [⟨1, [], mpB (fun c => .ag (ckA c)) (fun n => .i .i64 n) (dCk, 0) (incs st.us ((divL x).take p.1)) p.2.1 p.2.2⟩], fun p => (divL x).length - p.1,
    ⟨(0, B.ub, B.uc), [], Nat.zero_le _, rfl, rfl, rfl, rfl, rfl, ⟨rfl, rfl⟩, ao0⟩, ?_⟩
   rintro ⟨q, ub, uc⟩ hql
   have hql : q ≤ (divL x).length := hql
   have hUq := hU.incs (divL x) q hql
   refine .inl ⟨fun hc => ?_, fun hc => ?_⟩
   ·have hc := dlt hc
    have hc : (q : Int) < (divL x).length := hc
    have eq : ((q : Nat) : Int).toNat = q := Int.toNat_natCast _
    have hcb := hUq.2 ((divL x).getD q dCk)
    have hds := incs_snoc (L := st.us) (l := divL x) (k := q) (by omega)
    have hlk := lookU (incs st.us ((divL x).take q)) ((divL x).getD q dCk)
    have hup2 := updU (incs st.us ((divL x).take q)) ub uc ((divL x).getD q dCk) (cntU (incs st.us ((divL x).take q)) ((divL x).getD q dCk) + 1)
    repeat refine Or.inl ?_
    refine ⟨⟨by omega, by omega⟩, ?_⟩
    have hbin : binI .add .i64 (cntU (incs st.us ((divL x).take q)) ((divL x).getD q dCk)) 1 = some (.i .i64 (cntU (incs st.us ((divL x).take q)) ((divL x).getD q dCk) + 1)) := by
     show some (AV.i .i64 (IntKind.i64.wrap _)) = _
     rw [wr (by omega) (by omega)]
    refine ⟨(mget (incs st.us ((divL x).take q)) ((divL x).getD q dCk)).isSome, cntU (incs st.us ((divL x).take q)) ((divL x).getD q dCk), cntU (incs st.us ((divL x).take q)) ((divL x).getD q dCk) + 1, _, _, _, _, _, ⟨keysU _, rfl, hlk, hbin, hup2⟩, ?_⟩
    have ao : AOEq (mpB (fun c => .ag (ckA c)) (fun n => .i .i64 n) (dCk, 0) (incs st.us ((divL x).take (q + 1))) (fun j => if j < (incs st.us ((divL x).take q)).length then ub j else uc) (if (mget (incs st.us ((divL x).take q)) ((divL x).getD q dCk)).isSome = true then uc else uc + 1)) (mpB (fun c => .ag (ckA c)) (fun n => .i .i64 n) (dCk, 0) (mset (incs st.us ((divL x).take q)) ((divL x).getD q dCk) (cntU (incs st.us ((divL x).take q)) ((divL x).getD q dCk) + 1)) (fun j => if j < (incs st.us ((divL x).take q)).length then ub j else uc) (if (mget (incs st.us ((divL x).take q)) ((divL x).getD q dCk)).isSome = true then uc else uc + 1)) := by
     rw [hds]
     exact AOEq.refl _
    refine ⟨(q + 1, _, _), [], (by show q + 1 ≤ (divL x).length; omega), by dsimp only; omega, rfl, rfl, rfl, rfl, rfl, ⟨rfl, wr (by omega) (by omega)⟩, ao⟩
   ·have hc := dnlt hc
    have hc : ((divL x).length : Int) ≤ (q : Nat) := hc
    have hte : (divL x).take q = divL x := List.take_of_length_le (by omega)
    repeat refine Or.inl ?_
    refine ⟨_, _, _, _, _, ⟨hkF, rfl, hup⟩, ?_⟩
    have aoU : AOEq (usO (putS st 1 x) (putB st B 1 ub uc)) (mpB (fun c => .ag (ckA c)) (fun n => .i .i64 n) (dCk, 0) (incs st.us ((divL x).take q)) ub uc) := by
     rw [hte]
     exact AOEq.refl _
    have w1 : IntKind.i64.wrap (st.nx 1 + 1) = st.nx 1 + 1 := wr (by omega) (by omega)
    have w2 : IntKind.i64.wrap (IntKind.i64.wrap (st.nx 1 + 1) - 1) = st.nx 1 := by
     rw [w1, wr (by omega) (by omega)]
     omega
    have aoC : AOEq (.cells 151 (stC (putS st 1 x))) (.cells 151 [.mo 1, .mo 2, .i .i64 (st.nx 0), .mo 3, .i .i64 (IntKind.i64.wrap (st.nx 1 + 1)), .mo 4, .i .i64 (st.nx 2), .mo 5, .i .i64 (st.nx 3), .mo 6, .i .i64 (st.nx 4), .mo 7, .i .i64 (st.nx 5), .mo 8, .i .i64 (st.nx 6), .mo 9, .i .i64 (st.nx 7), .mo 10, .i .i64 (st.nx 8), .mo 11, .i .i64 (st.nx 9), .mo 12, .i .i64 (st.nx 10), .mo 13, .i .i64 (st.nx 11)]) := by
     rw [w1]
     exact AOEq.refl _
    have hav : AVEq (.tup [.i .i64 (st.nx 1), .i .i64 0]) (.tup [.i .i64 (IntKind.i64.wrap (IntKind.i64.wrap (st.nx 1 + 1) - 1)), .i .i64 0]) := by
     rw [w2]
     exact AVEq.refl _
    exact ⟨putB st B 1 ub uc, [], hBk ub uc, ⟨⟨⟨rfl, rfl, hav⟩, trivial⟩, ⟨⟨rfl, rfl, rfl, aoC⟩, ⟨rfl, rfl, trivial, aoU⟩, ⟨rfl, rfl, trivial, AOEq.refl _⟩, ⟨rfl, rfl, trivial, AOEq.refl _⟩, ⟨rfl, rfl, trivial, AOEq.refl _⟩, ⟨rfl, rfl, trivial, AOEq.refl _⟩, ⟨rfl, rfl, trivial, AOEq.refl _⟩, ⟨rfl, rfl, trivial, AOEq.refl _⟩, ⟨rfl, rfl, trivial, AOEq.refl _⟩, ⟨rfl, rfl, trivial, AOEq.refl _⟩, ⟨rfl, rfl, trivial, AOEq.refl _⟩, ⟨rfl, rfl, trivial, AOEq.refl _⟩, ⟨rfl, rfl, trivial, AOEq.refl _⟩, ⟨rfl, rfl, trivial, AOEq.refl _⟩, trivial⟩, rfl⟩, rfl, fun h => by cases h⟩
 ·refine Or.inr (Or.inr ?_)
  refine ⟨true, [0, 1, 2, 3, 4, 5, 6, 7, 8, 9, 10, 11, 12, 13], rfl, Unit, _, _, _, _, of_fn st B 2 (by decide), fun _ _ => ?_⟩
  repeat refine Or.inl ?_
  refine ⟨fun hc => (by cases hc), fun _ => ?_⟩
  refine ⟨fun hc => (by have hc : decide ((x.size : Int) > 65536) = true := hc; rw [decide_eq_true_eq] at hc; omega), fun _ => ?_⟩
  refine Or.inl ⟨_, _, (divided_fn x (by omega)).frz, ?_⟩
  refine Or.inl (Or.inr (Or.inr ?_))
  refine ⟨true, [0, 1, 2, 3, 4, 5, 6, 7, 8, 9, 10, 11, 12, 13], rfl, Unit, _, _, _, _, names_fn st B 2 (by decide) (hT.wf (by omega)) (by have := hT.len; omega), fun _ _ => ?_⟩
  repeat refine Or.inl ?_
  refine ⟨[], Nat, fun k => k ≤ (st.fs 2).length ∧ (∀ j, j < k → ((st.fs 2).getD j dFl).2 ≠ x), fun k => [⟨34, [], .i .i64 k⟩], fun k => [], fun k => (st.fs 2).length - k,
   ⟨0, [], ⟨Nat.zero_le _, fun j hj => absurd hj (Nat.not_lt_zero j)⟩, rfl, rfl, rfl, rfl, rfl, ⟨rfl, rfl⟩, trivial⟩, ?_⟩
  rintro k ⟨hk, hno⟩
  have hk : k ≤ (st.fs 2).length := hk
  refine .inl ⟨fun hc => ?_, fun hc => ?_⟩
  ·have hc := dlt hc
   have hc : (k : Int) < (st.fs 2).length := hc
   have ek : ((k : Nat) : Int).toNat = k := Int.toNat_natCast _
   repeat refine Or.inl ?_
   refine ⟨⟨by omega, by omega⟩, ?_⟩
   have hl := lookF (st.fs 2) ((mkeys (st.fs 2)).getD ((k : Nat) : Int).toNat 0)
   rw [ek, mkeys_getD, mget_at hnd (by omega)] at hl
   have hgk : AV.i .i64 ((sortI (mkeys (st.fs 2))).getD ((k : Nat) : Int).toNat 0) = AV.i .i64 ((st.fs 2).getD k dFl).1 := by rw [hso, ek, mkeys_getD]
   rw [← hgk] at hl
   have hsk : ((st.fs 2).getD k dFl).2.size ≤ 200 := hT.sz _ (getD_memD dFl (by omega))
   have hdk := div_len ((st.fs 2).getD k dFl).2
   refine ⟨by omega, ?_⟩
   refine ⟨_, _, ⟨hkF, rfl, hl⟩, ?_⟩
   refine Or.inl ⟨_, _, equal_fn (divL ((st.fs 2).getD k dFl).2) (divL x) (by omega) (by omega), ?_⟩
   refine ⟨fun h2 => ?_, fun h2 => ?_⟩
   ·exfalso
    have h2 : decide (divL ((st.fs 2).getD k dFl).2 = divL x) = true := h2
    rw [bytes_dif, decide_eq_true_eq] at h2
    exact hall k (by omega) h2
   ·refine ⟨k + 1, [], ⟨by omega, fun j hj => hall j (by omega)⟩, by dsimp only; omega, rfl, rfl, rfl, rfl, rfl, ⟨rfl, wr (by omega) (by omega)⟩, trivial⟩
  ·refine Or.inl (Or.inr (Or.inr ?_))
   refine ⟨true, [0, 1, 2, 3, 4, 5, 6, 7, 8, 9, 10, 11, 12, 13], rfl, Unit, _, _, _, _, used_fn st B 2 (by decide) (by omega) (fun p hp => Nat.le_trans (hT.sz p hp) (by decide)) hBt, fun _ _ => ?_⟩
   have hub : usedL (st.fs 2) ≤ 40000 := Nat.le_trans husd (Nat.le_trans (Nat.mul_le_mul_left 200 (Nat.le_trans hTl hm)) (by decide))
   refine ⟨fun h3 => ?_, fun _ => ?_⟩
   ·exfalso
    have h3 : decide (IntKind.i64.wrap ((usedL (st.fs 2) : Int) + x.size) > 1048576) = true := h3
    rw [wr (by omega) (by omega), decide_eq_true_eq] at h3
    omega
   have ao0 : AOEq (mpB (fun c => .ag (ckA c)) (fun n => .i .i64 n) (dCk, 0) (incs st.us ((divL x).take 0)) B.ub B.uc) (usO st B) := AOEq.refl _
   repeat refine Or.inl ?_
   refine ⟨[], Nat × (Nat → Nat) × Nat, fun p => p.1 ≤ (divL x).length, fun p => [⟨57, [], .i .i64 p.1⟩], fun p => [⟨1, [], mpB (fun c => .ag (ckA c)) (fun n => .i .i64 n) (dCk, 0) (incs st.us ((divL x).take p.1)) p.2.1 p.2.2⟩], fun p => (divL x).length - p.1,
    ⟨(0, B.ub, B.uc), [], Nat.zero_le _, rfl, rfl, rfl, rfl, rfl, ⟨rfl, rfl⟩, ao0⟩, ?_⟩
   rintro ⟨q, ub, uc⟩ hql
   have hql : q ≤ (divL x).length := hql
   have hUq := hU.incs (divL x) q hql
   refine .inl ⟨fun hc => ?_, fun hc => ?_⟩
   ·have hc := dlt hc
    have hc : (q : Int) < (divL x).length := hc
    have eq : ((q : Nat) : Int).toNat = q := Int.toNat_natCast _
    have hcb := hUq.2 ((divL x).getD q dCk)
    have hds := incs_snoc (L := st.us) (l := divL x) (k := q) (by omega)
    have hlk := lookU (incs st.us ((divL x).take q)) ((divL x).getD q dCk)
    have hup2 := updU (incs st.us ((divL x).take q)) ub uc ((divL x).getD q dCk) (cntU (incs st.us ((divL x).take q)) ((divL x).getD q dCk) + 1)
    repeat refine Or.inl ?_
    refine ⟨⟨by omega, by omega⟩, ?_⟩
    have hbin : binI .add .i64 (cntU (incs st.us ((divL x).take q)) ((divL x).getD q dCk)) 1 = some (.i .i64 (cntU (incs st.us ((divL x).take q)) ((divL x).getD q dCk) + 1)) := by
     show some (AV.i .i64 (IntKind.i64.wrap _)) = _
     rw [wr (by omega) (by omega)]
    refine ⟨(mget (incs st.us ((divL x).take q)) ((divL x).getD q dCk)).isSome, cntU (incs st.us ((divL x).take q)) ((divL x).getD q dCk), cntU (incs st.us ((divL x).take q)) ((divL x).getD q dCk) + 1, _, _, _, _, _, ⟨keysU _, rfl, hlk, hbin, hup2⟩, ?_⟩
    have ao : AOEq (mpB (fun c => .ag (ckA c)) (fun n => .i .i64 n) (dCk, 0) (incs st.us ((divL x).take (q + 1))) (fun j => if j < (incs st.us ((divL x).take q)).length then ub j else uc) (if (mget (incs st.us ((divL x).take q)) ((divL x).getD q dCk)).isSome = true then uc else uc + 1)) (mpB (fun c => .ag (ckA c)) (fun n => .i .i64 n) (dCk, 0) (mset (incs st.us ((divL x).take q)) ((divL x).getD q dCk) (cntU (incs st.us ((divL x).take q)) ((divL x).getD q dCk) + 1)) (fun j => if j < (incs st.us ((divL x).take q)).length then ub j else uc) (if (mget (incs st.us ((divL x).take q)) ((divL x).getD q dCk)).isSome = true then uc else uc + 1)) := by
     rw [hds]
     exact AOEq.refl _
    refine ⟨(q + 1, _, _), [], (by show q + 1 ≤ (divL x).length; omega), by dsimp only; omega, rfl, rfl, rfl, rfl, rfl, ⟨rfl, wr (by omega) (by omega)⟩, ao⟩
   ·have hc := dnlt hc
    have hc : ((divL x).length : Int) ≤ (q : Nat) := hc
    have hte : (divL x).take q = divL x := List.take_of_length_le (by omega)
    repeat refine Or.inl ?_
    refine ⟨_, _, _, _, _, ⟨hkF, rfl, hup⟩, ?_⟩
    have aoU : AOEq (usO (putS st 2 x) (putB st B 2 ub uc)) (mpB (fun c => .ag (ckA c)) (fun n => .i .i64 n) (dCk, 0) (incs st.us ((divL x).take q)) ub uc) := by
     rw [hte]
     exact AOEq.refl _
    have w1 : IntKind.i64.wrap (st.nx 2 + 1) = st.nx 2 + 1 := wr (by omega) (by omega)
    have w2 : IntKind.i64.wrap (IntKind.i64.wrap (st.nx 2 + 1) - 1) = st.nx 2 := by
     rw [w1, wr (by omega) (by omega)]
     omega
    have aoC : AOEq (.cells 151 (stC (putS st 2 x))) (.cells 151 [.mo 1, .mo 2, .i .i64 (st.nx 0), .mo 3, .i .i64 (st.nx 1), .mo 4, .i .i64 (IntKind.i64.wrap (st.nx 2 + 1)), .mo 5, .i .i64 (st.nx 3), .mo 6, .i .i64 (st.nx 4), .mo 7, .i .i64 (st.nx 5), .mo 8, .i .i64 (st.nx 6), .mo 9, .i .i64 (st.nx 7), .mo 10, .i .i64 (st.nx 8), .mo 11, .i .i64 (st.nx 9), .mo 12, .i .i64 (st.nx 10), .mo 13, .i .i64 (st.nx 11)]) := by
     rw [w1]
     exact AOEq.refl _
    have hav : AVEq (.tup [.i .i64 (st.nx 2), .i .i64 0]) (.tup [.i .i64 (IntKind.i64.wrap (IntKind.i64.wrap (st.nx 2 + 1) - 1)), .i .i64 0]) := by
     rw [w2]
     exact AVEq.refl _
    exact ⟨putB st B 2 ub uc, [], hBk ub uc, ⟨⟨⟨rfl, rfl, hav⟩, trivial⟩, ⟨⟨rfl, rfl, rfl, aoC⟩, ⟨rfl, rfl, trivial, aoU⟩, ⟨rfl, rfl, trivial, AOEq.refl _⟩, ⟨rfl, rfl, trivial, AOEq.refl _⟩, ⟨rfl, rfl, trivial, AOEq.refl _⟩, ⟨rfl, rfl, trivial, AOEq.refl _⟩, ⟨rfl, rfl, trivial, AOEq.refl _⟩, ⟨rfl, rfl, trivial, AOEq.refl _⟩, ⟨rfl, rfl, trivial, AOEq.refl _⟩, ⟨rfl, rfl, trivial, AOEq.refl _⟩, ⟨rfl, rfl, trivial, AOEq.refl _⟩, ⟨rfl, rfl, trivial, AOEq.refl _⟩, ⟨rfl, rfl, trivial, AOEq.refl _⟩, ⟨rfl, rfl, trivial, AOEq.refl _⟩, trivial⟩, rfl⟩, rfl, fun h => by cases h⟩
 ·refine Or.inr (Or.inr ?_)
  refine ⟨true, [0, 1, 2, 3, 4, 5, 6, 7, 8, 9, 10, 11, 12, 13], rfl, Unit, _, _, _, _, of_fn st B 3 (by decide), fun _ _ => ?_⟩
  repeat refine Or.inl ?_
  refine ⟨fun hc => (by cases hc), fun _ => ?_⟩
  refine ⟨fun hc => (by have hc : decide ((x.size : Int) > 65536) = true := hc; rw [decide_eq_true_eq] at hc; omega), fun _ => ?_⟩
  refine Or.inl ⟨_, _, (divided_fn x (by omega)).frz, ?_⟩
  refine Or.inl (Or.inr (Or.inr ?_))
  refine ⟨true, [0, 1, 2, 3, 4, 5, 6, 7, 8, 9, 10, 11, 12, 13], rfl, Unit, _, _, _, _, names_fn st B 3 (by decide) (hT.wf (by omega)) (by have := hT.len; omega), fun _ _ => ?_⟩
  repeat refine Or.inl ?_
  refine ⟨[], Nat, fun k => k ≤ (st.fs 3).length ∧ (∀ j, j < k → ((st.fs 3).getD j dFl).2 ≠ x), fun k => [⟨34, [], .i .i64 k⟩], fun k => [], fun k => (st.fs 3).length - k,
   ⟨0, [], ⟨Nat.zero_le _, fun j hj => absurd hj (Nat.not_lt_zero j)⟩, rfl, rfl, rfl, rfl, rfl, ⟨rfl, rfl⟩, trivial⟩, ?_⟩
  rintro k ⟨hk, hno⟩
  have hk : k ≤ (st.fs 3).length := hk
  refine .inl ⟨fun hc => ?_, fun hc => ?_⟩
  ·have hc := dlt hc
   have hc : (k : Int) < (st.fs 3).length := hc
   have ek : ((k : Nat) : Int).toNat = k := Int.toNat_natCast _
   repeat refine Or.inl ?_
   refine ⟨⟨by omega, by omega⟩, ?_⟩
   have hl := lookF (st.fs 3) ((mkeys (st.fs 3)).getD ((k : Nat) : Int).toNat 0)
   rw [ek, mkeys_getD, mget_at hnd (by omega)] at hl
   have hgk : AV.i .i64 ((sortI (mkeys (st.fs 3))).getD ((k : Nat) : Int).toNat 0) = AV.i .i64 ((st.fs 3).getD k dFl).1 := by rw [hso, ek, mkeys_getD]
   rw [← hgk] at hl
   have hsk : ((st.fs 3).getD k dFl).2.size ≤ 200 := hT.sz _ (getD_memD dFl (by omega))
   have hdk := div_len ((st.fs 3).getD k dFl).2
   refine ⟨by omega, ?_⟩
   refine ⟨_, _, ⟨hkF, rfl, hl⟩, ?_⟩
   refine Or.inl ⟨_, _, equal_fn (divL ((st.fs 3).getD k dFl).2) (divL x) (by omega) (by omega), ?_⟩
   refine ⟨fun h2 => ?_, fun h2 => ?_⟩
   ·exfalso
    have h2 : decide (divL ((st.fs 3).getD k dFl).2 = divL x) = true := h2
    rw [bytes_dif, decide_eq_true_eq] at h2
    exact hall k (by omega) h2
   ·refine ⟨k + 1, [], ⟨by omega, fun j hj => hall j (by omega)⟩, by dsimp only; omega, rfl, rfl, rfl, rfl, rfl, ⟨rfl, wr (by omega) (by omega)⟩, trivial⟩
  ·refine Or.inl (Or.inr (Or.inr ?_))
   refine ⟨true, [0, 1, 2, 3, 4, 5, 6, 7, 8, 9, 10, 11, 12, 13], rfl, Unit, _, _, _, _, used_fn st B 3 (by decide) (by omega) (fun p hp => Nat.le_trans (hT.sz p hp) (by decide)) hBt, fun _ _ => ?_⟩
   have hub : usedL (st.fs 3) ≤ 40000 := Nat.le_trans husd (Nat.le_trans (Nat.mul_le_mul_left 200 (Nat.le_trans hTl hm)) (by decide))
   refine ⟨fun h3 => ?_, fun _ => ?_⟩
   ·exfalso
    have h3 : decide (IntKind.i64.wrap ((usedL (st.fs 3) : Int) + x.size) > 1048576) = true := h3
    rw [wr (by omega) (by omega), decide_eq_true_eq] at h3
    omega
   have ao0 : AOEq (mpB (fun c => .ag (ckA c)) (fun n => .i .i64 n) (dCk, 0) (incs st.us ((divL x).take 0)) B.ub B.uc) (usO st B) := AOEq.refl _
   repeat refine Or.inl ?_
   refine ⟨[], Nat × (Nat → Nat) × Nat, fun p => p.1 ≤ (divL x).length, fun p => [⟨57, [], .i .i64 p.1⟩], fun p => [⟨1, [], mpB (fun c => .ag (ckA c)) (fun n => .i .i64 n) (dCk, 0) (incs st.us ((divL x).take p.1)) p.2.1 p.2.2⟩], fun p => (divL x).length - p.1,
    ⟨(0, B.ub, B.uc), [], Nat.zero_le _, rfl, rfl, rfl, rfl, rfl, ⟨rfl, rfl⟩, ao0⟩, ?_⟩
   rintro ⟨q, ub, uc⟩ hql
   have hql : q ≤ (divL x).length := hql
   have hUq := hU.incs (divL x) q hql
   refine .inl ⟨fun hc => ?_, fun hc => ?_⟩
   ·have hc := dlt hc
    have hc : (q : Int) < (divL x).length := hc
    have eq : ((q : Nat) : Int).toNat = q := Int.toNat_natCast _
    have hcb := hUq.2 ((divL x).getD q dCk)
    have hds := incs_snoc (L := st.us) (l := divL x) (k := q) (by omega)
    have hlk := lookU (incs st.us ((divL x).take q)) ((divL x).getD q dCk)
    have hup2 := updU (incs st.us ((divL x).take q)) ub uc ((divL x).getD q dCk) (cntU (incs st.us ((divL x).take q)) ((divL x).getD q dCk) + 1)
    repeat refine Or.inl ?_
    refine ⟨⟨by omega, by omega⟩, ?_⟩
    have hbin : binI .add .i64 (cntU (incs st.us ((divL x).take q)) ((divL x).getD q dCk)) 1 = some (.i .i64 (cntU (incs st.us ((divL x).take q)) ((divL x).getD q dCk) + 1)) := by
     show some (AV.i .i64 (IntKind.i64.wrap _)) = _
     rw [wr (by omega) (by omega)]
    refine ⟨(mget (incs st.us ((divL x).take q)) ((divL x).getD q dCk)).isSome, cntU (incs st.us ((divL x).take q)) ((divL x).getD q dCk), cntU (incs st.us ((divL x).take q)) ((divL x).getD q dCk) + 1, _, _, _, _, _, ⟨keysU _, rfl, hlk, hbin, hup2⟩, ?_⟩
    have ao : AOEq (mpB (fun c => .ag (ckA c)) (fun n => .i .i64 n) (dCk, 0) (incs st.us ((divL x).take (q + 1))) (fun j => if j < (incs st.us ((divL x).take q)).length then ub j else uc) (if (mget (incs st.us ((divL x).take q)) ((divL x).getD q dCk)).isSome = true then uc else uc + 1)) (mpB (fun c => .ag (ckA c)) (fun n => .i .i64 n) (dCk, 0) (mset (incs st.us ((divL x).take q)) ((divL x).getD q dCk) (cntU (incs st.us ((divL x).take q)) ((divL x).getD q dCk) + 1)) (fun j => if j < (incs st.us ((divL x).take q)).length then ub j else uc) (if (mget (incs st.us ((divL x).take q)) ((divL x).getD q dCk)).isSome = true then uc else uc + 1)) := by
     rw [hds]
     exact AOEq.refl _
    refine ⟨(q + 1, _, _), [], (by show q + 1 ≤ (divL x).length; omega), by dsimp only; omega, rfl, rfl, rfl, rfl, rfl, ⟨rfl, wr (by omega) (by omega)⟩, ao⟩
   ·have hc := dnlt hc
    have hc : ((divL x).length : Int) ≤ (q : Nat) := hc
    have hte : (divL x).take q = divL x := List.take_of_length_le (by omega)
    repeat refine Or.inl ?_
    refine ⟨_, _, _, _, _, ⟨hkF, rfl, hup⟩, ?_⟩
    have aoU : AOEq (usO (putS st 3 x) (putB st B 3 ub uc)) (mpB (fun c => .ag (ckA c)) (fun n => .i .i64 n) (dCk, 0) (incs st.us ((divL x).take q)) ub uc) := by
     rw [hte]
     exact AOEq.refl _
    have w1 : IntKind.i64.wrap (st.nx 3 + 1) = st.nx 3 + 1 := wr (by omega) (by omega)
    have w2 : IntKind.i64.wrap (IntKind.i64.wrap (st.nx 3 + 1) - 1) = st.nx 3 := by
     rw [w1, wr (by omega) (by omega)]
     omega
    have aoC : AOEq (.cells 151 (stC (putS st 3 x))) (.cells 151 [.mo 1, .mo 2, .i .i64 (st.nx 0), .mo 3, .i .i64 (st.nx 1), .mo 4, .i .i64 (st.nx 2), .mo 5, .i .i64 (IntKind.i64.wrap (st.nx 3 + 1)), .mo 6, .i .i64 (st.nx 4), .mo 7, .i .i64 (st.nx 5), .mo 8, .i .i64 (st.nx 6), .mo 9, .i .i64 (st.nx 7), .mo 10, .i .i64 (st.nx 8), .mo 11, .i .i64 (st.nx 9), .mo 12, .i .i64 (st.nx 10), .mo 13, .i .i64 (st.nx 11)]) := by
     rw [w1]
     exact AOEq.refl _
    have hav : AVEq (.tup [.i .i64 (st.nx 3), .i .i64 0]) (.tup [.i .i64 (IntKind.i64.wrap (IntKind.i64.wrap (st.nx 3 + 1) - 1)), .i .i64 0]) := by
     rw [w2]
     exact AVEq.refl _
    exact ⟨putB st B 3 ub uc, [], hBk ub uc, ⟨⟨⟨rfl, rfl, hav⟩, trivial⟩, ⟨⟨rfl, rfl, rfl, aoC⟩, ⟨rfl, rfl, trivial, aoU⟩, ⟨rfl, rfl, trivial, AOEq.refl _⟩, ⟨rfl, rfl, trivial, AOEq.refl _⟩, ⟨rfl, rfl, trivial, AOEq.refl _⟩, ⟨rfl, rfl, trivial, AOEq.refl _⟩, ⟨rfl, rfl, trivial, AOEq.refl _⟩, ⟨rfl, rfl, trivial, AOEq.refl _⟩, ⟨rfl, rfl, trivial, AOEq.refl _⟩, ⟨rfl, rfl, trivial, AOEq.refl _⟩, ⟨rfl, rfl, trivial, AOEq.refl _⟩, ⟨rfl, rfl, trivial, AOEq.refl _⟩, ⟨rfl, rfl, trivial, AOEq.refl _⟩, ⟨rfl, rfl, trivial, AOEq.refl _⟩, trivial⟩, rfl⟩, rfl, fun h => by cases h⟩
 ·refine Or.inr (Or.inr ?_)
  refine ⟨true, [0, 1, 2, 3, 4, 5, 6, 7, 8, 9, 10, 11, 12, 13], rfl, Unit, _, _, _, _, of_fn st B 4 (by decide), fun _ _ => ?_⟩
  repeat refine Or.inl ?_
  refine ⟨fun hc => (by cases hc), fun _ => ?_⟩
  refine ⟨fun hc => (by have hc : decide ((x.size : Int) > 65536) = true := hc; rw [decide_eq_true_eq] at hc; omega), fun _ => ?_⟩
  refine Or.inl ⟨_, _, (divided_fn x (by omega)).frz, ?_⟩
  refine Or.inl (Or.inr (Or.inr ?_))
  refine ⟨true, [0, 1, 2, 3, 4, 5, 6, 7, 8, 9, 10, 11, 12, 13], rfl, Unit, _, _, _, _, names_fn st B 4 (by decide) (hT.wf (by omega)) (by have := hT.len; omega), fun _ _ => ?_⟩
  repeat refine Or.inl ?_
  refine ⟨[], Nat, fun k => k ≤ (st.fs 4).length ∧ (∀ j, j < k → ((st.fs 4).getD j dFl).2 ≠ x), fun k => [⟨34, [], .i .i64 k⟩], fun k => [], fun k => (st.fs 4).length - k,
   ⟨0, [], ⟨Nat.zero_le _, fun j hj => absurd hj (Nat.not_lt_zero j)⟩, rfl, rfl, rfl, rfl, rfl, ⟨rfl, rfl⟩, trivial⟩, ?_⟩
  rintro k ⟨hk, hno⟩
  have hk : k ≤ (st.fs 4).length := hk
  refine .inl ⟨fun hc => ?_, fun hc => ?_⟩
  ·have hc := dlt hc
   have hc : (k : Int) < (st.fs 4).length := hc
   have ek : ((k : Nat) : Int).toNat = k := Int.toNat_natCast _
   repeat refine Or.inl ?_
   refine ⟨⟨by omega, by omega⟩, ?_⟩
   have hl := lookF (st.fs 4) ((mkeys (st.fs 4)).getD ((k : Nat) : Int).toNat 0)
   rw [ek, mkeys_getD, mget_at hnd (by omega)] at hl
   have hgk : AV.i .i64 ((sortI (mkeys (st.fs 4))).getD ((k : Nat) : Int).toNat 0) = AV.i .i64 ((st.fs 4).getD k dFl).1 := by rw [hso, ek, mkeys_getD]
   rw [← hgk] at hl
   have hsk : ((st.fs 4).getD k dFl).2.size ≤ 200 := hT.sz _ (getD_memD dFl (by omega))
   have hdk := div_len ((st.fs 4).getD k dFl).2
   refine ⟨by omega, ?_⟩
   refine ⟨_, _, ⟨hkF, rfl, hl⟩, ?_⟩
   refine Or.inl ⟨_, _, equal_fn (divL ((st.fs 4).getD k dFl).2) (divL x) (by omega) (by omega), ?_⟩
   refine ⟨fun h2 => ?_, fun h2 => ?_⟩
   ·exfalso
    have h2 : decide (divL ((st.fs 4).getD k dFl).2 = divL x) = true := h2
    rw [bytes_dif, decide_eq_true_eq] at h2
    exact hall k (by omega) h2
   ·refine ⟨k + 1, [], ⟨by omega, fun j hj => hall j (by omega)⟩, by dsimp only; omega, rfl, rfl, rfl, rfl, rfl, ⟨rfl, wr (by omega) (by omega)⟩, trivial⟩
  ·refine Or.inl (Or.inr (Or.inr ?_))
   refine ⟨true, [0, 1, 2, 3, 4, 5, 6, 7, 8, 9, 10, 11, 12, 13], rfl, Unit, _, _, _, _, used_fn st B 4 (by decide) (by omega) (fun p hp => Nat.le_trans (hT.sz p hp) (by decide)) hBt, fun _ _ => ?_⟩
   have hub : usedL (st.fs 4) ≤ 40000 := Nat.le_trans husd (Nat.le_trans (Nat.mul_le_mul_left 200 (Nat.le_trans hTl hm)) (by decide))
   refine ⟨fun h3 => ?_, fun _ => ?_⟩
   ·exfalso
    have h3 : decide (IntKind.i64.wrap ((usedL (st.fs 4) : Int) + x.size) > 1048576) = true := h3
    rw [wr (by omega) (by omega), decide_eq_true_eq] at h3
    omega
   have ao0 : AOEq (mpB (fun c => .ag (ckA c)) (fun n => .i .i64 n) (dCk, 0) (incs st.us ((divL x).take 0)) B.ub B.uc) (usO st B) := AOEq.refl _
   repeat refine Or.inl ?_
   refine ⟨[], Nat × (Nat → Nat) × Nat, fun p => p.1 ≤ (divL x).length, fun p => [⟨57, [], .i .i64 p.1⟩], fun p => [⟨1, [], mpB (fun c => .ag (ckA c)) (fun n => .i .i64 n) (dCk, 0) (incs st.us ((divL x).take p.1)) p.2.1 p.2.2⟩], fun p => (divL x).length - p.1,
    ⟨(0, B.ub, B.uc), [], Nat.zero_le _, rfl, rfl, rfl, rfl, rfl, ⟨rfl, rfl⟩, ao0⟩, ?_⟩
   rintro ⟨q, ub, uc⟩ hql
   have hql : q ≤ (divL x).length := hql
   have hUq := hU.incs (divL x) q hql
   refine .inl ⟨fun hc => ?_, fun hc => ?_⟩
   ·have hc := dlt hc
    have hc : (q : Int) < (divL x).length := hc
    have eq : ((q : Nat) : Int).toNat = q := Int.toNat_natCast _
    have hcb := hUq.2 ((divL x).getD q dCk)
    have hds := incs_snoc (L := st.us) (l := divL x) (k := q) (by omega)
    have hlk := lookU (incs st.us ((divL x).take q)) ((divL x).getD q dCk)
    have hup2 := updU (incs st.us ((divL x).take q)) ub uc ((divL x).getD q dCk) (cntU (incs st.us ((divL x).take q)) ((divL x).getD q dCk) + 1)
    repeat refine Or.inl ?_
    refine ⟨⟨by omega, by omega⟩, ?_⟩
    have hbin : binI .add .i64 (cntU (incs st.us ((divL x).take q)) ((divL x).getD q dCk)) 1 = some (.i .i64 (cntU (incs st.us ((divL x).take q)) ((divL x).getD q dCk) + 1)) := by
     show some (AV.i .i64 (IntKind.i64.wrap _)) = _
     rw [wr (by omega) (by omega)]
    refine ⟨(mget (incs st.us ((divL x).take q)) ((divL x).getD q dCk)).isSome, cntU (incs st.us ((divL x).take q)) ((divL x).getD q dCk), cntU (incs st.us ((divL x).take q)) ((divL x).getD q dCk) + 1, _, _, _, _, _, ⟨keysU _, rfl, hlk, hbin, hup2⟩, ?_⟩
    have ao : AOEq (mpB (fun c => .ag (ckA c)) (fun n => .i .i64 n) (dCk, 0) (incs st.us ((divL x).take (q + 1))) (fun j => if j < (incs st.us ((divL x).take q)).length then ub j else uc) (if (mget (incs st.us ((divL x).take q)) ((divL x).getD q dCk)).isSome = true then uc else uc + 1)) (mpB (fun c => .ag (ckA c)) (fun n => .i .i64 n) (dCk, 0) (mset (incs st.us ((divL x).take q)) ((divL x).getD q dCk) (cntU (incs st.us ((divL x).take q)) ((divL x).getD q dCk) + 1)) (fun j => if j < (incs st.us ((divL x).take q)).length then ub j else uc) (if (mget (incs st.us ((divL x).take q)) ((divL x).getD q dCk)).isSome = true then uc else uc + 1)) := by
     rw [hds]
     exact AOEq.refl _
    refine ⟨(q + 1, _, _), [], (by show q + 1 ≤ (divL x).length; omega), by dsimp only; omega, rfl, rfl, rfl, rfl, rfl, ⟨rfl, wr (by omega) (by omega)⟩, ao⟩
   ·have hc := dnlt hc
    have hc : ((divL x).length : Int) ≤ (q : Nat) := hc
    have hte : (divL x).take q = divL x := List.take_of_length_le (by omega)
    repeat refine Or.inl ?_
    refine ⟨_, _, _, _, _, ⟨hkF, rfl, hup⟩, ?_⟩
    have aoU : AOEq (usO (putS st 4 x) (putB st B 4 ub uc)) (mpB (fun c => .ag (ckA c)) (fun n => .i .i64 n) (dCk, 0) (incs st.us ((divL x).take q)) ub uc) := by
     rw [hte]
     exact AOEq.refl _
    have w1 : IntKind.i64.wrap (st.nx 4 + 1) = st.nx 4 + 1 := wr (by omega) (by omega)
    have w2 : IntKind.i64.wrap (IntKind.i64.wrap (st.nx 4 + 1) - 1) = st.nx 4 := by
     rw [w1, wr (by omega) (by omega)]
     omega
    have aoC : AOEq (.cells 151 (stC (putS st 4 x))) (.cells 151 [.mo 1, .mo 2, .i .i64 (st.nx 0), .mo 3, .i .i64 (st.nx 1), .mo 4, .i .i64 (st.nx 2), .mo 5, .i .i64 (st.nx 3), .mo 6, .i .i64 (IntKind.i64.wrap (st.nx 4 + 1)), .mo 7, .i .i64 (st.nx 5), .mo 8, .i .i64 (st.nx 6), .mo 9, .i .i64 (st.nx 7), .mo 10, .i .i64 (st.nx 8), .mo 11, .i .i64 (st.nx 9), .mo 12, .i .i64 (st.nx 10), .mo 13, .i .i64 (st.nx 11)]) := by
     rw [w1]
     exact AOEq.refl _
    have hav : AVEq (.tup [.i .i64 (st.nx 4), .i .i64 0]) (.tup [.i .i64 (IntKind.i64.wrap (IntKind.i64.wrap (st.nx 4 + 1) - 1)), .i .i64 0]) := by
     rw [w2]
     exact AVEq.refl _
    exact ⟨putB st B 4 ub uc, [], hBk ub uc, ⟨⟨⟨rfl, rfl, hav⟩, trivial⟩, ⟨⟨rfl, rfl, rfl, aoC⟩, ⟨rfl, rfl, trivial, aoU⟩, ⟨rfl, rfl, trivial, AOEq.refl _⟩, ⟨rfl, rfl, trivial, AOEq.refl _⟩, ⟨rfl, rfl, trivial, AOEq.refl _⟩, ⟨rfl, rfl, trivial, AOEq.refl _⟩, ⟨rfl, rfl, trivial, AOEq.refl _⟩, ⟨rfl, rfl, trivial, AOEq.refl _⟩, ⟨rfl, rfl, trivial, AOEq.refl _⟩, ⟨rfl, rfl, trivial, AOEq.refl _⟩, ⟨rfl, rfl, trivial, AOEq.refl _⟩, ⟨rfl, rfl, trivial, AOEq.refl _⟩, ⟨rfl, rfl, trivial, AOEq.refl _⟩, ⟨rfl, rfl, trivial, AOEq.refl _⟩, trivial⟩, rfl⟩, rfl, fun h => by cases h⟩
 ·refine Or.inr (Or.inr ?_)
  refine ⟨true, [0, 1, 2, 3, 4, 5, 6, 7, 8, 9, 10, 11, 12, 13], rfl, Unit, _, _, _, _, of_fn st B 5 (by decide), fun _ _ => ?_⟩
  repeat refine Or.inl ?_
  refine ⟨fun hc => (by cases hc), fun _ => ?_⟩
  refine ⟨fun hc => (by have hc : decide ((x.size : Int) > 65536) = true := hc; rw [decide_eq_true_eq] at hc; omega), fun _ => ?_⟩
  refine Or.inl ⟨_, _, (divided_fn x (by omega)).frz, ?_⟩
  refine Or.inl (Or.inr (Or.inr ?_))
  refine ⟨true, [0, 1, 2, 3, 4, 5, 6, 7, 8, 9, 10, 11, 12, 13], rfl, Unit, _, _, _, _, names_fn st B 5 (by decide) (hT.wf (by omega)) (by have := hT.len; omega), fun _ _ => ?_⟩
  repeat refine Or.inl ?_
  refine ⟨[], Nat, fun k => k ≤ (st.fs 5).length ∧ (∀ j, j < k → ((st.fs 5).getD j dFl).2 ≠ x), fun k => [⟨34, [], .i .i64 k⟩], fun k => [], fun k => (st.fs 5).length - k,
   ⟨0, [], ⟨Nat.zero_le _, fun j hj => absurd hj (Nat.not_lt_zero j)⟩, rfl, rfl, rfl, rfl, rfl, ⟨rfl, rfl⟩, trivial⟩, ?_⟩
  rintro k ⟨hk, hno⟩
  have hk : k ≤ (st.fs 5).length := hk
  refine .inl ⟨fun hc => ?_, fun hc => ?_⟩
  ·have hc := dlt hc
   have hc : (k : Int) < (st.fs 5).length := hc
   have ek : ((k : Nat) : Int).toNat = k := Int.toNat_natCast _
   repeat refine Or.inl ?_
   refine ⟨⟨by omega, by omega⟩, ?_⟩
   have hl := lookF (st.fs 5) ((mkeys (st.fs 5)).getD ((k : Nat) : Int).toNat 0)
   rw [ek, mkeys_getD, mget_at hnd (by omega)] at hl
   have hgk : AV.i .i64 ((sortI (mkeys (st.fs 5))).getD ((k : Nat) : Int).toNat 0) = AV.i .i64 ((st.fs 5).getD k dFl).1 := by rw [hso, ek, mkeys_getD]
   rw [← hgk] at hl
   have hsk : ((st.fs 5).getD k dFl).2.size ≤ 200 := hT.sz _ (getD_memD dFl (by omega))
   have hdk := div_len ((st.fs 5).getD k dFl).2
   refine ⟨by omega, ?_⟩
   refine ⟨_, _, ⟨hkF, rfl, hl⟩, ?_⟩
   refine Or.inl ⟨_, _, equal_fn (divL ((st.fs 5).getD k dFl).2) (divL x) (by omega) (by omega), ?_⟩
   refine ⟨fun h2 => ?_, fun h2 => ?_⟩
   ·exfalso
    have h2 : decide (divL ((st.fs 5).getD k dFl).2 = divL x) = true := h2
    rw [bytes_dif, decide_eq_true_eq] at h2
    exact hall k (by omega) h2
   ·refine ⟨k + 1, [], ⟨by omega, fun j hj => hall j (by omega)⟩, by dsimp only; omega, rfl, rfl, rfl, rfl, rfl, ⟨rfl, wr (by omega) (by omega)⟩, trivial⟩
  ·refine Or.inl (Or.inr (Or.inr ?_))
   refine ⟨true, [0, 1, 2, 3, 4, 5, 6, 7, 8, 9, 10, 11, 12, 13], rfl, Unit, _, _, _, _, used_fn st B 5 (by decide) (by omega) (fun p hp => Nat.le_trans (hT.sz p hp) (by decide)) hBt, fun _ _ => ?_⟩
   have hub : usedL (st.fs 5) ≤ 40000 := Nat.le_trans husd (Nat.le_trans (Nat.mul_le_mul_left 200 (Nat.le_trans hTl hm)) (by decide))
   refine ⟨fun h3 => ?_, fun _ => ?_⟩
   ·exfalso
    have h3 : decide (IntKind.i64.wrap ((usedL (st.fs 5) : Int) + x.size) > 1048576) = true := h3
    rw [wr (by omega) (by omega), decide_eq_true_eq] at h3
    omega
   have ao0 : AOEq (mpB (fun c => .ag (ckA c)) (fun n => .i .i64 n) (dCk, 0) (incs st.us ((divL x).take 0)) B.ub B.uc) (usO st B) := AOEq.refl _
   repeat refine Or.inl ?_
   refine ⟨[], Nat × (Nat → Nat) × Nat, fun p => p.1 ≤ (divL x).length, fun p => [⟨57, [], .i .i64 p.1⟩], fun p => [⟨1, [], mpB (fun c => .ag (ckA c)) (fun n => .i .i64 n) (dCk, 0) (incs st.us ((divL x).take p.1)) p.2.1 p.2.2⟩], fun p => (divL x).length - p.1,
    ⟨(0, B.ub, B.uc), [], Nat.zero_le _, rfl, rfl, rfl, rfl, rfl, ⟨rfl, rfl⟩, ao0⟩, ?_⟩
   rintro ⟨q, ub, uc⟩ hql
   have hql : q ≤ (divL x).length := hql
   have hUq := hU.incs (divL x) q hql
   refine .inl ⟨fun hc => ?_, fun hc => ?_⟩
   ·have hc := dlt hc
    have hc : (q : Int) < (divL x).length := hc
    have eq : ((q : Nat) : Int).toNat = q := Int.toNat_natCast _
    have hcb := hUq.2 ((divL x).getD q dCk)
    have hds := incs_snoc (L := st.us) (l := divL x) (k := q) (by omega)
    have hlk := lookU (incs st.us ((divL x).take q)) ((divL x).getD q dCk)
    have hup2 := updU (incs st.us ((divL x).take q)) ub uc ((divL x).getD q dCk) (cntU (incs st.us ((divL x).take q)) ((divL x).getD q dCk) + 1)
    repeat refine Or.inl ?_
    refine ⟨⟨by omega, by omega⟩, ?_⟩
    have hbin : binI .add .i64 (cntU (incs st.us ((divL x).take q)) ((divL x).getD q dCk)) 1 = some (.i .i64 (cntU (incs st.us ((divL x).take q)) ((divL x).getD q dCk) + 1)) := by
     show some (AV.i .i64 (IntKind.i64.wrap _)) = _
     rw [wr (by omega) (by omega)]
    refine ⟨(mget (incs st.us ((divL x).take q)) ((divL x).getD q dCk)).isSome, cntU (incs st.us ((divL x).take q)) ((divL x).getD q dCk), cntU (incs st.us ((divL x).take q)) ((divL x).getD q dCk) + 1, _, _, _, _, _, ⟨keysU _, rfl, hlk, hbin, hup2⟩, ?_⟩
    have ao : AOEq (mpB (fun c => .ag (ckA c)) (fun n => .i .i64 n) (dCk, 0) (incs st.us ((divL x).take (q + 1))) (fun j => if j < (incs st.us ((divL x).take q)).length then ub j else uc) (if (mget (incs st.us ((divL x).take q)) ((divL x).getD q dCk)).isSome = true then uc else uc + 1)) (mpB (fun c => .ag (ckA c)) (fun n => .i .i64 n) (dCk, 0) (mset (incs st.us ((divL x).take q)) ((divL x).getD q dCk) (cntU (incs st.us ((divL x).take q)) ((divL x).getD q dCk) + 1)) (fun j => if j < (incs st.us ((divL x).take q)).length then ub j else uc) (if (mget (incs st.us ((divL x).take q)) ((divL x).getD q dCk)).isSome = true then uc else uc + 1)) := by
     rw [hds]
     exact AOEq.refl _
    refine ⟨(q + 1, _, _), [], (by show q + 1 ≤ (divL x).length; omega), by dsimp only; omega, rfl, rfl, rfl, rfl, rfl, ⟨rfl, wr (by omega) (by omega)⟩, ao⟩
   ·have hc := dnlt hc
    have hc : ((divL x).length : Int) ≤ (q : Nat) := hc
    have hte : (divL x).take q = divL x := List.take_of_length_le (by omega)
    repeat refine Or.inl ?_
    refine ⟨_, _, _, _, _, ⟨hkF, rfl, hup⟩, ?_⟩
    have aoU : AOEq (usO (putS st 5 x) (putB st B 5 ub uc)) (mpB (fun c => .ag (ckA c)) (fun n => .i .i64 n) (dCk, 0) (incs st.us ((divL x).take q)) ub uc) := by
     rw [hte]
     exact AOEq.refl _
    have w1 : IntKind.i64.wrap (st.nx 5 + 1) = st.nx 5 + 1 := wr (by omega) (by omega)
    have w2 : IntKind.i64.wrap (IntKind.i64.wrap (st.nx 5 + 1) - 1) = st.nx 5 := by
     rw [w1, wr (by omega) (by omega)]
     omega
    have aoC : AOEq (.cells 151 (stC (putS st 5 x))) (.cells 151 [.mo 1, .mo 2, .i .i64 (st.nx 0), .mo 3, .i .i64 (st.nx 1), .mo 4, .i .i64 (st.nx 2), .mo 5, .i .i64 (st.nx 3), .mo 6, .i .i64 (st.nx 4), .mo 7, .i .i64 (IntKind.i64.wrap (st.nx 5 + 1)), .mo 8, .i .i64 (st.nx 6), .mo 9, .i .i64 (st.nx 7), .mo 10, .i .i64 (st.nx 8), .mo 11, .i .i64 (st.nx 9), .mo 12, .i .i64 (st.nx 10), .mo 13, .i .i64 (st.nx 11)]) := by
     rw [w1]
     exact AOEq.refl _
    have hav : AVEq (.tup [.i .i64 (st.nx 5), .i .i64 0]) (.tup [.i .i64 (IntKind.i64.wrap (IntKind.i64.wrap (st.nx 5 + 1) - 1)), .i .i64 0]) := by
     rw [w2]
     exact AVEq.refl _
    exact ⟨putB st B 5 ub uc, [], hBk ub uc, ⟨⟨⟨rfl, rfl, hav⟩, trivial⟩, ⟨⟨rfl, rfl, rfl, aoC⟩, ⟨rfl, rfl, trivial, aoU⟩, ⟨rfl, rfl, trivial, AOEq.refl _⟩, ⟨rfl, rfl, trivial, AOEq.refl _⟩, ⟨rfl, rfl, trivial, AOEq.refl _⟩, ⟨rfl, rfl, trivial, AOEq.refl _⟩, ⟨rfl, rfl, trivial, AOEq.refl _⟩, ⟨rfl, rfl, trivial, AOEq.refl _⟩, ⟨rfl, rfl, trivial, AOEq.refl _⟩, ⟨rfl, rfl, trivial, AOEq.refl _⟩, ⟨rfl, rfl, trivial, AOEq.refl _⟩, ⟨rfl, rfl, trivial, AOEq.refl _⟩, ⟨rfl, rfl, trivial, AOEq.refl _⟩, ⟨rfl, rfl, trivial, AOEq.refl _⟩, trivial⟩, rfl⟩, rfl, fun h => by cases h⟩
 ·refine Or.inr (Or.inr ?_)
  refine ⟨true, [0, 1, 2, 3, 4, 5, 6, 7, 8, 9, 10, 11, 12, 13], rfl, Unit, _, _, _, _, of_fn st B 6 (by decide), fun _ _ => ?_⟩
  repeat refine Or.inl ?_
  refine ⟨fun hc => (by cases hc), fun _ => ?_⟩
  refine ⟨fun hc => (by have hc : decide ((x.size : Int) > 65536) = true := hc; rw [decide_eq_true_eq] at hc; omega), fun _ => ?_⟩
  refine Or.inl ⟨_, _, (divided_fn x (by omega)).frz, ?_⟩
  refine Or.inl (Or.inr (Or.inr ?_))
  refine ⟨true, [0, 1, 2, 3, 4, 5, 6, 7, 8, 9, 10, 11, 12, 13], rfl, Unit, _, _, _, _, names_fn st B 6 (by decide) (hT.wf (by omega)) (by have := hT.len; omega), fun _ _ => ?_⟩
  repeat refine Or.inl ?_
  refine ⟨[], Nat, fun k => k ≤ (st.fs 6).length ∧ (∀ j, j < k → ((st.fs 6).getD j dFl).2 ≠ x), fun k => [⟨34, [], .i .i64 k⟩], fun k => [], fun k => (st.fs 6).length - k,
   ⟨0, [], ⟨Nat.zero_le _, fun j hj => absurd hj (Nat.not_lt_zero j)⟩, rfl, rfl, rfl, rfl, rfl, ⟨rfl, rfl⟩, trivial⟩, ?_⟩
  rintro k ⟨hk, hno⟩
  have hk : k ≤ (st.fs 6).length := hk
  refine .inl ⟨fun hc => ?_, fun hc => ?_⟩
  ·have hc := dlt hc
   have hc : (k : Int) < (st.fs 6).length := hc
   have ek : ((k : Nat) : Int).toNat = k := Int.toNat_natCast _
   repeat refine Or.inl ?_
   refine ⟨⟨by omega, by omega⟩, ?_⟩
   have hl := lookF (st.fs 6) ((mkeys (st.fs 6)).getD ((k : Nat) : Int).toNat 0)
   rw [ek, mkeys_getD, mget_at hnd (by omega)] at hl
   have hgk : AV.i .i64 ((sortI (mkeys (st.fs 6))).getD ((k : Nat) : Int).toNat 0) = AV.i .i64 ((st.fs 6).getD k dFl).1 := by rw [hso, ek, mkeys_getD]
   rw [← hgk] at hl
   have hsk : ((st.fs 6).getD k dFl).2.size ≤ 200 := hT.sz _ (getD_memD dFl (by omega))
   have hdk := div_len ((st.fs 6).getD k dFl).2
   refine ⟨by omega, ?_⟩
   refine ⟨_, _, ⟨hkF, rfl, hl⟩, ?_⟩
   refine Or.inl ⟨_, _, equal_fn (divL ((st.fs 6).getD k dFl).2) (divL x) (by omega) (by omega), ?_⟩
   refine ⟨fun h2 => ?_, fun h2 => ?_⟩
   ·exfalso
    have h2 : decide (divL ((st.fs 6).getD k dFl).2 = divL x) = true := h2
    rw [bytes_dif, decide_eq_true_eq] at h2
    exact hall k (by omega) h2
   ·refine ⟨k + 1, [], ⟨by omega, fun j hj => hall j (by omega)⟩, by dsimp only; omega, rfl, rfl, rfl, rfl, rfl, ⟨rfl, wr (by omega) (by omega)⟩, trivial⟩
  ·refine Or.inl (Or.inr (Or.inr ?_))
   refine ⟨true, [0, 1, 2, 3, 4, 5, 6, 7, 8, 9, 10, 11, 12, 13], rfl, Unit, _, _, _, _, used_fn st B 6 (by decide) (by omega) (fun p hp => Nat.le_trans (hT.sz p hp) (by decide)) hBt, fun _ _ => ?_⟩
   have hub : usedL (st.fs 6) ≤ 40000 := Nat.le_trans husd (Nat.le_trans (Nat.mul_le_mul_left 200 (Nat.le_trans hTl hm)) (by decide))
   refine ⟨fun h3 => ?_, fun _ => ?_⟩
   ·exfalso
    have h3 : decide (IntKind.i64.wrap ((usedL (st.fs 6) : Int) + x.size) > 1048576) = true := h3
    rw [wr (by omega) (by omega), decide_eq_true_eq] at h3
    omega
   have ao0 : AOEq (mpB (fun c => .ag (ckA c)) (fun n => .i .i64 n) (dCk, 0) (incs st.us ((divL x).take 0)) B.ub B.uc) (usO st B) := AOEq.refl _
   repeat refine Or.inl ?_
   refine ⟨[], Nat × (Nat → Nat) × Nat, fun p => p.1 ≤ (divL x).length, fun p => [⟨57, [], .i .i64 p.1⟩], fun p => [⟨1, [], mpB (fun c => .ag (ckA c)) (fun n => .i .i64 n) (dCk, 0) (incs st.us ((divL x).take p.1)) p.2.1 p.2.2⟩], fun p => (divL x).length - p.1,
    ⟨(0, B.ub, B.uc), [], Nat.zero_le _, rfl, rfl, rfl, rfl, rfl, ⟨rfl, rfl⟩, ao0⟩, ?_⟩
   rintro ⟨q, ub, uc⟩ hql
   have hql : q ≤ (divL x).length := hql
   have hUq := hU.incs (divL x) q hql
   refine .inl ⟨fun hc => ?_, fun hc => ?_⟩
   ·have hc := dlt hc
    have hc : (q : Int) < (divL x).length := hc
    have eq : ((q : Nat) : Int).toNat = q := Int.toNat_natCast _
    have hcb := hUq.2 ((divL x).getD q dCk)
    have hds := incs_snoc (L := st.us) (l := divL x) (k := q) (by omega)
    have hlk := lookU (incs st.us ((divL x).take q)) ((divL x).getD q dCk)
    have hup2 := updU (incs st.us ((divL x).take q)) ub uc ((divL x).getD q dCk) (cntU (incs st.us ((divL x).take q)) ((divL x).getD q dCk) + 1)
    repeat refine Or.inl ?_
    refine ⟨⟨by omega, by omega⟩, ?_⟩
    have hbin : binI .add .i64 (cntU (incs st.us ((divL x).take q)) ((divL x).getD q dCk)) 1 = some (.i .i64 (cntU (incs st.us ((divL x).take q)) ((divL x).getD q dCk) + 1)) := by
     show some (AV.i .i64 (IntKind.i64.wrap _)) = _
     rw [wr (by omega) (by omega)]
    refine ⟨(mget (incs st.us ((divL x).take q)) ((divL x).getD q dCk)).isSome, cntU (incs st.us ((divL x).take q)) ((divL x).getD q dCk), cntU (incs st.us ((divL x).take q)) ((divL x).getD q dCk) + 1, _, _, _, _, _, ⟨keysU _, rfl, hlk, hbin, hup2⟩, ?_⟩
    have ao : AOEq (mpB (fun c => .ag (ckA c)) (fun n => .i .i64 n) (dCk, 0) (incs st.us ((divL x).take (q + 1))) (fun j => if j < (incs st.us ((divL x).take q)).length then ub j else uc) (if (mget (incs st.us ((divL x).take q)) ((divL x).getD q dCk)).isSome = true then uc else uc + 1)) (mpB (fun c => .ag (ckA c)) (fun n => .i .i64 n) (dCk, 0) (mset (incs st.us ((divL x).take q)) ((divL x).getD q dCk) (cntU (incs st.us ((divL x).take q)) ((divL x).getD q dCk) + 1)) (fun j => if j < (incs st.us ((divL x).take q)).length then ub j else uc) (if (mget (incs st.us ((divL x).take q)) ((divL x).getD q dCk)).isSome = true then uc else uc + 1)) := by
     rw [hds]
     exact AOEq.refl _
    refine ⟨(q + 1, _, _), [], (by show q + 1 ≤ (divL x).length; omega), by dsimp only; omega, rfl, rfl, rfl, rfl, rfl, ⟨rfl, wr (by omega) (by omega)⟩, ao⟩
   ·have hc := dnlt hc
    have hc : ((divL x).length : Int) ≤ (q : Nat) := hc
    have hte : (divL x).take q = divL x := List.take_of_length_le (by omega)
    repeat refine Or.inl ?_
    refine ⟨_, _, _, _, _, ⟨hkF, rfl, hup⟩, ?_⟩
    have aoU : AOEq (usO (putS st 6 x) (putB st B 6 ub uc)) (mpB (fun c => .ag (ckA c)) (fun n => .i .i64 n) (dCk, 0) (incs st.us ((divL x).take q)) ub uc) := by
     rw [hte]
     exact AOEq.refl _
    have w1 : IntKind.i64.wrap (st.nx 6 + 1) = st.nx 6 + 1 := wr (by omega) (by omega)
    have w2 : IntKind.i64.wrap (IntKind.i64.wrap (st.nx 6 + 1) - 1) = st.nx 6 := by
     rw [w1, wr (by omega) (by omega)]
     omega
    have aoC : AOEq (.cells 151 (stC (putS st 6 x))) (.cells 151 [.mo 1, .mo 2, .i .i64 (st.nx 0), .mo 3, .i .i64 (st.nx 1), .mo 4, .i .i64 (st.nx 2), .mo 5, .i .i64 (st.nx 3), .mo 6, .i .i64 (st.nx 4), .mo 7, .i .i64 (st.nx 5), .mo 8, .i .i64 (IntKind.i64.wrap (st.nx 6 + 1)), .mo 9, .i .i64 (st.nx 7), .mo 10, .i .i64 (st.nx 8), .mo 11, .i .i64 (st.nx 9), .mo 12, .i .i64 (st.nx 10), .mo 13, .i .i64 (st.nx 11)]) := by
     rw [w1]
     exact AOEq.refl _
    have hav : AVEq (.tup [.i .i64 (st.nx 6), .i .i64 0]) (.tup [.i .i64 (IntKind.i64.wrap (IntKind.i64.wrap (st.nx 6 + 1) - 1)), .i .i64 0]) := by
     rw [w2]
     exact AVEq.refl _
    exact ⟨putB st B 6 ub uc, [], hBk ub uc, ⟨⟨⟨rfl, rfl, hav⟩, trivial⟩, ⟨⟨rfl, rfl, rfl, aoC⟩, ⟨rfl, rfl, trivial, aoU⟩, ⟨rfl, rfl, trivial, AOEq.refl _⟩, ⟨rfl, rfl, trivial, AOEq.refl _⟩, ⟨rfl, rfl, trivial, AOEq.refl _⟩, ⟨rfl, rfl, trivial, AOEq.refl _⟩, ⟨rfl, rfl, trivial, AOEq.refl _⟩, ⟨rfl, rfl, trivial, AOEq.refl _⟩, ⟨rfl, rfl, trivial, AOEq.refl _⟩, ⟨rfl, rfl, trivial, AOEq.refl _⟩, ⟨rfl, rfl, trivial, AOEq.refl _⟩, ⟨rfl, rfl, trivial, AOEq.refl _⟩, ⟨rfl, rfl, trivial, AOEq.refl _⟩, ⟨rfl, rfl, trivial, AOEq.refl _⟩, trivial⟩, rfl⟩, rfl, fun h => by cases h⟩
 ·refine Or.inr (Or.inr ?_)
  refine ⟨true, [0, 1, 2, 3, 4, 5, 6, 7, 8, 9, 10, 11, 12, 13], rfl, Unit, _, _, _, _, of_fn st B 7 (by decide), fun _ _ => ?_⟩
  repeat refine Or.inl ?_
  refine ⟨fun hc => (by cases hc), fun _ => ?_⟩
  refine ⟨fun hc => (by have hc : decide ((x.size : Int) > 65536) = true := hc; rw [decide_eq_true_eq] at hc; omega), fun _ => ?_⟩
  refine Or.inl ⟨_, _, (divided_fn x (by omega)).frz, ?_⟩
  refine Or.inl (Or.inr (Or.inr ?_))
  refine ⟨true, [0, 1, 2, 3, 4, 5, 6, 7, 8, 9, 10, 11, 12, 13], rfl, Unit, _, _, _, _, names_fn st B 7 (by decide) (hT.wf (by omega)) (by have := hT.len; omega), fun _ _ => ?_⟩
  repeat refine Or.inl ?_
  refine ⟨[], Nat, fun k => k ≤ (st.fs 7).length ∧ (∀ j, j < k → ((st.fs 7).getD j dFl).2 ≠ x), fun k => [⟨34, [], .i .i64 k⟩], fun k => [], fun k => (st.fs 7).length - k,
   ⟨0, [], ⟨Nat.zero_le _, fun j hj => absurd hj (Nat.not_lt_zero j)⟩, rfl, rfl, rfl, rfl, rfl, ⟨rfl, rfl⟩, trivial⟩, ?_⟩
  rintro k ⟨hk, hno⟩
  have hk : k ≤ (st.fs 7).length := hk
  refine .inl ⟨fun hc => ?_, fun hc => ?_⟩
  ·have hc := dlt hc
   have hc : (k : Int) < (st.fs 7).length := hc
   have ek : ((k : Nat) : Int).toNat = k := Int.toNat_natCast _
   repeat refine Or.inl ?_
   refine ⟨⟨by omega, by omega⟩, ?_⟩
   have hl := lookF (st.fs 7) ((mkeys (st.fs 7)).getD ((k : Nat) : Int).toNat 0)
   rw [ek, mkeys_getD, mget_at hnd (by omega)] at hl
   have hgk : AV.i .i64 ((sortI (mkeys (st.fs 7))).getD ((k : Nat) : Int).toNat 0) = AV.i .i64 ((st.fs 7).getD k dFl).1 := by rw [hso, ek, mkeys_getD]
   rw [← hgk] at hl
   have hsk : ((st.fs 7).getD k dFl).2.size ≤ 200 := hT.sz _ (getD_memD dFl (by omega))
   have hdk := div_len ((st.fs 7).getD k dFl).2
   refine ⟨by omega, ?_⟩
   refine ⟨_, _, ⟨hkF, rfl, hl⟩, ?_⟩
   refine Or.inl ⟨_, _, equal_fn (divL ((st.fs 7).getD k dFl).2) (divL x) (by omega) (by omega), ?_⟩
   refine ⟨fun h2 => ?_, fun h2 => ?_⟩
   ·exfalso
    have h2 : decide (divL ((st.fs 7).getD k dFl).2 = divL x) = true := h2
    rw [bytes_dif, decide_eq_true_eq] at h2
    exact hall k (by omega) h2
   ·refine ⟨k + 1, [], ⟨by omega, fun j hj => hall j (by omega)⟩, by dsimp only; omega, rfl, rfl, rfl, rfl, rfl, ⟨rfl, wr (by omega) (by omega)⟩, trivial⟩
  ·refine Or.inl (Or.inr (Or.inr ?_))
   refine ⟨true, [0, 1, 2, 3, 4, 5, 6, 7, 8, 9, 10, 11, 12, 13], rfl, Unit, _, _, _, _, used_fn st B 7 (by decide) (by omega) (fun p hp => Nat.le_trans (hT.sz p hp) (by decide)) hBt, fun _ _ => ?_⟩
   have hub : usedL (st.fs 7) ≤ 40000 := Nat.le_trans husd (Nat.le_trans (Nat.mul_le_mul_left 200 (Nat.le_trans hTl hm)) (by decide))
   refine ⟨fun h3 => ?_, fun _ => ?_⟩
   ·exfalso
    have h3 : decide (IntKind.i64.wrap ((usedL (st.fs 7) : Int) + x.size) > 1048576) = true := h3
    rw [wr (by omega) (by omega), decide_eq_true_eq] at h3
    omega
   have ao0 : AOEq (mpB (fun c => .ag (ckA c)) (fun n => .i .i64 n) (dCk, 0) (incs st.us ((divL x).take 0)) B.ub B.uc) (usO st B) := AOEq.refl _
   repeat refine Or.inl ?_
   refine ⟨[], Nat × (Nat → Nat) × Nat, fun p => p.1 ≤ (divL x).length, fun p => [⟨57, [], .i .i64 p.1⟩], fun p => [⟨1, [], mpB (fun c => .ag (ckA c)) (fun n => .i .i64 n) (dCk, 0) (incs st.us ((divL x).take p.1)) p.2.1 p.2.2⟩], fun p => (divL x).length - p.1,
    ⟨(0, B.ub, B.uc), [], Nat.zero_le _, rfl, rfl, rfl, rfl, rfl, ⟨rfl, rfl⟩, ao0⟩, ?_⟩
   rintro ⟨q, ub, uc⟩ hql
   have hql : q ≤ (divL x).length := hql
   have hUq := hU.incs (divL x) q hql
   refine .inl ⟨fun hc => ?_, fun hc => ?_⟩
   ·have hc := dlt hc
    have hc : (q : Int) < (divL x).length := hc
    have eq : ((q : Nat) : Int).toNat = q := Int.toNat_natCast _
    have hcb := hUq.2 ((divL x).getD q dCk)
    have hds := incs_snoc (L := st.us) (l := divL x) (k := q) (by omega)
    have hlk := lookU (incs st.us ((divL x).take q)) ((divL x).getD q dCk)
    have hup2 := updU (incs st.us ((divL x).take q)) ub uc ((divL x).getD q dCk) (cntU (incs st.us ((divL x).take q)) ((divL x).getD q dCk) + 1)
    repeat refine Or.inl ?_
    refine ⟨⟨by omega, by omega⟩, ?_⟩
    have hbin : binI .add .i64 (cntU (incs st.us ((divL x).take q)) ((divL x).getD q dCk)) 1 = some (.i .i64 (cntU (incs st.us ((divL x).take q)) ((divL x).getD q dCk) + 1)) := by
     show some (AV.i .i64 (IntKind.i64.wrap _)) = _
     rw [wr (by omega) (by omega)]
    refine ⟨(mget (incs st.us ((divL x).take q)) ((divL x).getD q dCk)).isSome, cntU (incs st.us ((divL x).take q)) ((divL x).getD q dCk), cntU (incs st.us ((divL x).take q)) ((divL x).getD q dCk) + 1, _, _, _, _, _, ⟨keysU _, rfl, hlk, hbin, hup2⟩, ?_⟩
    have ao : AOEq (mpB (fun c => .ag (ckA c)) (fun n => .i .i64 n) (dCk, 0) (incs st.us ((divL x).take (q + 1))) (fun j => if j < (incs st.us ((divL x).take q)).length then ub j else uc) (if (mget (incs st.us ((divL x).take q)) ((divL x).getD q dCk)).isSome = true then uc else uc + 1)) (mpB (fun c => .ag (ckA c)) (fun n => .i .i64 n) (dCk, 0) (mset (incs st.us ((divL x).take q)) ((divL x).getD q dCk) (cntU (incs st.us ((divL x).take q)) ((divL x).getD q dCk) + 1)) (fun j => if j < (incs st.us ((divL x).take q)).length then ub j else uc) (if (mget (incs st.us ((divL x).take q)) ((divL x).getD q dCk)).isSome = true then uc else uc + 1)) := by
     rw [hds]
     exact AOEq.refl _
    refine ⟨(q + 1, _, _), [], (by show q + 1 ≤ (divL x).length; omega), by dsimp only; omega, rfl, rfl, rfl, rfl, rfl, ⟨rfl, wr (by omega) (by omega)⟩, ao⟩
   ·have hc := dnlt hc
    have hc : ((divL x).length : Int) ≤ (q : Nat) := hc
    have hte : (divL x).take q = divL x := List.take_of_length_le (by omega)
    repeat refine Or.inl ?_
    refine ⟨_, _, _, _, _, ⟨hkF, rfl, hup⟩, ?_⟩
    have aoU : AOEq (usO (putS st 7 x) (putB st B 7 ub uc)) (mpB (fun c => .ag (ckA c)) (fun n => .i .i64 n) (dCk, 0) (incs st.us ((divL x).take q)) ub uc) := by
     rw [hte]
     exact AOEq.refl _
    have w1 : IntKind.i64.wrap (st.nx 7 + 1) = st.nx 7 + 1 := wr (by omega) (by omega)
    have w2 : IntKind.i64.wrap (IntKind.i64.wrap (st.nx 7 + 1) - 1) = st.nx 7 := by
     rw [w1, wr (by omega) (by omega)]
     omega
    have aoC : AOEq (.cells 151 (stC (putS st 7 x))) (.cells 151 [.mo 1, .mo 2, .i .i64 (st.nx 0), .mo 3, .i .i64 (st.nx 1), .mo 4, .i .i64 (st.nx 2), .mo 5, .i .i64 (st.nx 3), .mo 6, .i .i64 (st.nx 4), .mo 7, .i .i64 (st.nx 5), .mo 8, .i .i64 (st.nx 6), .mo 9, .i .i64 (IntKind.i64.wrap (st.nx 7 + 1)), .mo 10, .i .i64 (st.nx 8), .mo 11, .i .i64 (st.nx 9), .mo 12, .i .i64 (st.nx 10), .mo 13, .i .i64 (st.nx 11)]) := by
     rw [w1]
     exact AOEq.refl _
    have hav : AVEq (.tup [.i .i64 (st.nx 7), .i .i64 0]) (.tup [.i .i64 (IntKind.i64.wrap (IntKind.i64.wrap (st.nx 7 + 1) - 1)), .i .i64 0]) := by
     rw [w2]
     exact AVEq.refl _
    exact ⟨putB st B 7 ub uc, [], hBk ub uc, ⟨⟨⟨rfl, rfl, hav⟩, trivial⟩, ⟨⟨rfl, rfl, rfl, aoC⟩, ⟨rfl, rfl, trivial, aoU⟩, ⟨rfl, rfl, trivial, AOEq.refl _⟩, ⟨rfl, rfl, trivial, AOEq.refl _⟩, ⟨rfl, rfl, trivial, AOEq.refl _⟩, ⟨rfl, rfl, trivial, AOEq.refl _⟩, ⟨rfl, rfl, trivial, AOEq.refl _⟩, ⟨rfl, rfl, trivial, AOEq.refl _⟩, ⟨rfl, rfl, trivial, AOEq.refl _⟩, ⟨rfl, rfl, trivial, AOEq.refl _⟩, ⟨rfl, rfl, trivial, AOEq.refl _⟩, ⟨rfl, rfl, trivial, AOEq.refl _⟩, ⟨rfl, rfl, trivial, AOEq.refl _⟩, ⟨rfl, rfl, trivial, AOEq.refl _⟩, trivial⟩, rfl⟩, rfl, fun h => by cases h⟩
 ·refine Or.inr (Or.inr ?_)
  refine ⟨true, [0, 1, 2, 3, 4, 5, 6, 7, 8, 9, 10, 11, 12, 13], rfl, Unit, _, _, _, _, of_fn st B 8 (by decide), fun _ _ => ?_⟩
  repeat refine Or.inl ?_
  refine ⟨fun hc => (by cases hc), fun _ => ?_⟩
  refine ⟨fun hc => (by have hc : decide ((x.size : Int) > 65536) = true := hc; rw [decide_eq_true_eq] at hc; omega), fun _ => ?_⟩
  refine Or.inl ⟨_, _, (divided_fn x (by omega)).frz, ?_⟩
  refine Or.inl (Or.inr (Or.inr ?_))
  refine ⟨true, [0, 1, 2, 3, 4, 5, 6, 7, 8, 9, 10, 11, 12, 13], rfl, Unit, _, _, _, _, names_fn st B 8 (by decide) (hT.wf (by omega)) (by have := hT.len; omega), fun _ _ => ?_⟩
  repeat refine Or.inl ?_
  refine ⟨[], Nat, fun k => k ≤ (st.fs 8).length ∧ (∀ j, j < k → ((st.fs 8).getD j dFl).2 ≠ x), fun k => [⟨34, [], .i .i64 k⟩], fun k => [], fun k => (st.fs 8).length - k,
   ⟨0, [], ⟨Nat.zero_le _, fun j hj => absurd hj (Nat.not_lt_zero j)⟩, rfl, rfl, rfl, rfl, rfl, ⟨rfl, rfl⟩, trivial⟩, ?_⟩
  rintro k ⟨hk, hno⟩
  have hk : k ≤ (st.fs 8).length := hk
  refine .inl ⟨fun hc => ?_, fun hc => ?_⟩
  ·have hc := dlt hc
   have hc : (k : Int) < (st.fs 8).length := hc
   have ek : ((k : Nat) : Int).toNat = k := Int.toNat_natCast _
   repeat refine Or.inl ?_
   refine ⟨⟨by omega, by omega⟩, ?_⟩
   have hl := lookF (st.fs 8) ((mkeys (st.fs 8)).getD ((k : Nat) : Int).toNat 0)
   rw [ek, mkeys_getD, mget_at hnd (by omega)] at hl
   have hgk : AV.i .i64 ((sortI (mkeys (st.fs 8))).getD ((k : Nat) : Int).toNat 0) = AV.i .i64 ((st.fs 8).getD k dFl).1 := by rw [hso, ek, mkeys_getD]
   rw [← hgk] at hl
   have hsk : ((st.fs 8).getD k dFl).2.size ≤ 200 := hT.sz _ (getD_memD dFl (by omega))
   have hdk := div_len ((st.fs 8).getD k dFl).2
   refine ⟨by omega, ?_⟩
   refine ⟨_, _, ⟨hkF, rfl, hl⟩, ?_⟩
   refine Or.inl ⟨_, _, equal_fn (divL ((st.fs 8).getD k dFl).2) (divL x) (by omega) (by omega), ?_⟩
   refine ⟨fun h2 => ?_, fun h2 => ?_⟩
   ·exfalso
    have h2 : decide (divL ((st.fs 8).getD k dFl).2 = divL x) = true := h2
    rw [bytes_dif, decide_eq_true_eq] at h2
    exact hall k (by omega) h2
   ·refine ⟨k + 1, [], ⟨by omega, fun j hj => hall j (by omega)⟩, by dsimp only; omega, rfl, rfl, rfl, rfl, rfl, ⟨rfl, wr (by omega) (by omega)⟩, trivial⟩
  ·refine Or.inl (Or.inr (Or.inr ?_))
   refine ⟨true, [0, 1, 2, 3, 4, 5, 6, 7, 8, 9, 10, 11, 12, 13], rfl, Unit, _, _, _, _, used_fn st B 8 (by decide) (by omega) (fun p hp => Nat.le_trans (hT.sz p hp) (by decide)) hBt, fun _ _ => ?_⟩
   have hub : usedL (st.fs 8) ≤ 40000 := Nat.le_trans husd (Nat.le_trans (Nat.mul_le_mul_left 200 (Nat.le_trans hTl hm)) (by decide))
   refine ⟨fun h3 => ?_, fun _ => ?_⟩
   ·exfalso
    have h3 : decide (IntKind.i64.wrap ((usedL (st.fs 8) : Int) + x.size) > 1048576) = true := h3
    rw [wr (by omega) (by omega), decide_eq_true_eq] at h3
    omega
   have ao0 : AOEq (mpB (fun c => .ag (ckA c)) (fun n => .i .i64 n) (dCk, 0) (incs st.us ((divL x).take 0)) B.ub B.uc) (usO st B) := AOEq.refl _
   repeat refine Or.inl ?_
   refine ⟨[], Nat × (Nat → Nat) × Nat, fun p => p.1 ≤ (divL x).length, fun p => [⟨57, [], .i .i64 p.1⟩], fun p => [⟨1, [], mpB (fun c => .ag (ckA c)) (fun n => .i .i64 n) (dCk, 0) (incs st.us ((divL x).take p.1)) p.2.1 p.2.2⟩], fun p => (divL x).length - p.1,
    ⟨(0, B.ub, B.uc), [], Nat.zero_le _, rfl, rfl, rfl, rfl, rfl, ⟨rfl, rfl⟩, ao0⟩, ?_⟩
   rintro ⟨q, ub, uc⟩ hql
   have hql : q ≤ (divL x).length := hql
   have hUq := hU.incs (divL x) q hql
   refine .inl ⟨fun hc => ?_, fun hc => ?_⟩
   ·have hc := dlt hc
    have hc : (q : Int) < (divL x).length := hc
    have eq : ((q : Nat) : Int).toNat = q := Int.toNat_natCast _
    have hcb := hUq.2 ((divL x).getD q dCk)
    have hds := incs_snoc (L := st.us) (l := divL x) (k := q) (by omega)
    have hlk := lookU (incs st.us ((divL x).take q)) ((divL x).getD q dCk)
    have hup2 := updU (incs st.us ((divL x).take q)) ub uc ((divL x).getD q dCk) (cntU (incs st.us ((divL x).take q)) ((divL x).getD q dCk) + 1)
    repeat refine Or.inl ?_
    refine ⟨⟨by omega, by omega⟩, ?_⟩
    have hbin : binI .add .i64 (cntU (incs st.us ((divL x).take q)) ((divL x).getD q dCk)) 1 = some (.i .i64 (cntU (incs st.us ((divL x).take q)) ((divL x).getD q dCk) + 1)) := by
     show some (AV.i .i64 (IntKind.i64.wrap _)) = _
     rw [wr (by omega) (by omega)]
    refine ⟨(mget (incs st.us ((divL x).take q)) ((divL x).getD q dCk)).isSome, cntU (incs st.us ((divL x).take q)) ((divL x).getD q dCk), cntU (incs st.us ((divL x).take q)) ((divL x).getD q dCk) + 1, _, _, _, _, _, ⟨keysU _, rfl, hlk, hbin, hup2⟩, ?_⟩
    have ao : AOEq (mpB (fun c => .ag (ckA c)) (fun n => .i .i64 n) (dCk, 0) (incs st.us ((divL x).take (q + 1))) (fun j => if j < (incs st.us ((divL x).take q)).length then ub j else uc) (if (mget (incs st.us ((divL x).take q)) ((divL x).getD q dCk)).isSome = true then uc else uc + 1)) (mpB (fun c => .ag (ckA c)) (fun n => .i .i64 n) (dCk, 0) (mset (incs st.us ((divL x).take q)) ((divL x).getD q dCk) (cntU (incs st.us ((divL x).take q)) ((divL x).getD q dCk) + 1)) (fun j => if j < (incs st.us ((divL x).take q)).length then ub j else uc) (if (mget (incs st.us ((divL x).take q)) ((divL x).getD q dCk)).isSome = true then uc else uc + 1)) := by
     rw [hds]
     exact AOEq.refl _
    refine ⟨(q + 1, _, _), [], (by show q + 1 ≤ (divL x).length; omega), by dsimp only; omega, rfl, rfl, rfl, rfl, rfl, ⟨rfl, wr (by omega) (by omega)⟩, ao⟩
   ·have hc := dnlt hc
    have hc : ((divL x).length : Int) ≤ (q : Nat) := hc
    have hte : (divL x).take q = divL x := List.take_of_length_le (by omega)
    repeat refine Or.inl ?_
    refine ⟨_, _, _, _, _, ⟨hkF, rfl, hup⟩, ?_⟩
    have aoU : AOEq (usO (putS st 8 x) (putB st B 8 ub uc)) (mpB (fun c => .ag (ckA c)) (fun n => .i .i64 n) (dCk, 0) (incs st.us ((divL x).take q)) ub uc) := by
     rw [hte]
     exact AOEq.refl _
    have w1 : IntKind.i64.wrap (st.nx 8 + 1) = st.nx 8 + 1 := wr (by omega) (by omega)
    have w2 : IntKind.i64.wrap (IntKind.i64.wrap (st.nx 8 + 1) - 1) = st.nx 8 := by
     rw [w1, wr (by omega) (by omega)]
     omega
    have aoC : AOEq (.cells 151 (stC (putS st 8 x))) (.cells 151 [.mo 1, .mo 2, .i .i64 (st.nx 0), .mo 3, .i .i64 (st.nx 1), .mo 4, .i .i64 (st.nx 2), .mo 5, .i .i64 (st.nx 3), .mo 6, .i .i64 (st.nx 4), .mo 7, .i .i64 (st.nx 5), .mo 8, .i .i64 (st.nx 6), .mo 9, .i .i64 (st.nx 7), .mo 10, .i .i64 (IntKind.i64.wrap (st.nx 8 + 1)), .mo 11, .i .i64 (st.nx 9), .mo 12, .i .i64 (st.nx 10), .mo 13, .i .i64 (st.nx 11)]) := by
     rw [w1]
     exact AOEq.refl _
    have hav : AVEq (.tup [.i .i64 (st.nx 8), .i .i64 0]) (.tup [.i .i64 (IntKind.i64.wrap (IntKind.i64.wrap (st.nx 8 + 1) - 1)), .i .i64 0]) := by
     rw [w2]
     exact AVEq.refl _
    exact ⟨putB st B 8 ub uc, [], hBk ub uc, ⟨⟨⟨rfl, rfl, hav⟩, trivial⟩, ⟨⟨rfl, rfl, rfl, aoC⟩, ⟨rfl, rfl, trivial, aoU⟩, ⟨rfl, rfl, trivial, AOEq.refl _⟩, ⟨rfl, rfl, trivial, AOEq.refl _⟩, ⟨rfl, rfl, trivial, AOEq.refl _⟩, ⟨rfl, rfl, trivial, AOEq.refl _⟩, ⟨rfl, rfl, trivial, AOEq.refl _⟩, ⟨rfl, rfl, trivial, AOEq.refl _⟩, ⟨rfl, rfl, trivial, AOEq.refl _⟩, ⟨rfl, rfl, trivial, AOEq.refl _⟩, ⟨rfl, rfl, trivial, AOEq.refl _⟩, ⟨rfl, rfl, trivial, AOEq.refl _⟩, ⟨rfl, rfl, trivial, AOEq.refl _⟩, ⟨rfl, rfl, trivial, AOEq.refl _⟩, trivial⟩, rfl⟩, rfl, fun h => by cases h⟩
 ·refine Or.inr (Or.inr ?_)
  refine ⟨true, [0, 1, 2, 3, 4, 5, 6, 7, 8, 9, 10, 11, 12, 13], rfl, Unit, _, _, _, _, of_fn st B 9 (by decide), fun _ _ => ?_⟩
  repeat refine Or.inl ?_
  refine ⟨fun hc => (by cases hc), fun _ => ?_⟩
  refine ⟨fun hc => (by have hc : decide ((x.size : Int) > 65536) = true := hc; rw [decide_eq_true_eq] at hc; omega), fun _ => ?_⟩
  refine Or.inl ⟨_, _, (divided_fn x (by omega)).frz, ?_⟩
  refine Or.inl (Or.inr (Or.inr ?_))
  refine ⟨true, [0, 1, 2, 3, 4, 5, 6, 7, 8, 9, 10, 11, 12, 13], rfl, Unit, _, _, _, _, names_fn st B 9 (by decide) (hT.wf (by omega)) (by have := hT.len; omega), fun _ _ => ?_⟩
  repeat refine Or.inl ?_
  refine ⟨[], Nat, fun k => k ≤ (st.fs 9).length ∧ (∀ j, j < k → ((st.fs 9).getD j dFl).2 ≠ x), fun k => [⟨34, [], .i .i64 k⟩], fun k => [], fun k => (st.fs 9).length - k,
   ⟨0, [], ⟨Nat.zero_le _, fun j hj => absurd hj (Nat.not_lt_zero j)⟩, rfl, rfl, rfl, rfl, rfl, ⟨rfl, rfl⟩, trivial⟩, ?_⟩
  rintro k ⟨hk, hno⟩
  have hk : k ≤ (st.fs 9).length := hk
  refine .inl ⟨fun hc => ?_, fun hc => ?_⟩
  ·have hc := dlt hc
   have hc : (k : Int) < (st.fs 9).length := hc
   have ek : ((k : Nat) : Int).toNat = k := Int.toNat_natCast _
   repeat refine Or.inl ?_
   refine ⟨⟨by omega, by omega⟩, ?_⟩
   have hl := lookF (st.fs 9) ((mkeys (st.fs 9)).getD ((k : Nat) : Int).toNat 0)
   rw [ek, mkeys_getD, mget_at hnd (by omega)] at hl
   have hgk : AV.i .i64 ((sortI (mkeys (st.fs 9))).getD ((k : Nat) : Int).toNat 0) = AV.i .i64 ((st.fs 9).getD k dFl).1 := by rw [hso, ek, mkeys_getD]
   rw [← hgk] at hl
   have hsk : ((st.fs 9).getD k dFl).2.size ≤ 200 := hT.sz _ (getD_memD dFl (by omega))
   have hdk := div_len ((st.fs 9).getD k dFl).2
   refine ⟨by omega, ?_⟩
   refine ⟨_, _, ⟨hkF, rfl, hl⟩, ?_⟩
   refine Or.inl ⟨_, _, equal_fn (divL ((st.fs 9).getD k dFl).2) (divL x) (by omega) (by omega), ?_⟩
   refine ⟨fun h2 => ?_, fun h2 => ?_⟩
   ·exfalso
    have h2 : decide (divL ((st.fs 9).getD k dFl).2 = divL x) = true := h2
    rw [bytes_dif, decide_eq_true_eq] at h2
    exact hall k (by omega) h2
   ·refine ⟨k + 1, [], ⟨by omega, fun j hj => hall j (by omega)⟩, by dsimp only; omega, rfl, rfl, rfl, rfl, rfl, ⟨rfl, wr (by omega) (by omega)⟩, trivial⟩
  ·refine Or.inl (Or.inr (Or.inr ?_))
   refine ⟨true, [0, 1, 2, 3, 4, 5, 6, 7, 8, 9, 10, 11, 12, 13], rfl, Unit, _, _, _, _, used_fn st B 9 (by decide) (by omega) (fun p hp => Nat.le_trans (hT.sz p hp) (by decide)) hBt, fun _ _ => ?_⟩
   have hub : usedL (st.fs 9) ≤ 40000 := Nat.le_trans husd (Nat.le_trans (Nat.mul_le_mul_left 200 (Nat.le_trans hTl hm)) (by decide))
   refine ⟨fun h3 => ?_, fun _ => ?_⟩
   ·exfalso
    have h3 : decide (IntKind.i64.wrap ((usedL (st.fs 9) : Int) + x.size) > 1048576) = true := h3
    rw [wr (by omega) (by omega), decide_eq_true_eq] at h3
    omega
   have ao0 : AOEq (mpB (fun c => .ag (ckA c)) (fun n => .i .i64 n) (dCk, 0) (incs st.us ((divL x).take 0)) B.ub B.uc) (usO st B) := AOEq.refl _
   repeat refine Or.inl ?_
   refine ⟨[], Nat × (Nat → Nat) × Nat, fun p => p.1 ≤ (divL x).length, fun p => [⟨57, [], .i .i64 p.1⟩], fun p => [⟨1, [], mpB (fun c => .ag (ckA c)) (fun n => .i .i64 n) (dCk, 0) (incs st.us ((divL x).take p.1)) p.2.1 p.2.2⟩], fun p => (divL x).length - p.1,
    ⟨(0, B.ub, B.uc), [], Nat.zero_le _, rfl, rfl, rfl, rfl, rfl, ⟨rfl, rfl⟩, ao0⟩, ?_⟩
   rintro ⟨q, ub, uc⟩ hql
   have hql : q ≤ (divL x).length := hql
   have hUq := hU.incs (divL x) q hql
   refine .inl ⟨fun hc => ?_, fun hc => ?_⟩
   ·have hc := dlt hc
    have hc : (q : Int) < (divL x).length := hc
    have eq : ((q : Nat) : Int).toNat = q := Int.toNat_natCast _
    have hcb := hUq.2 ((divL x).getD q dCk)
    have hds := incs_snoc (L := st.us) (l := divL x) (k := q) (by omega)
    have hlk := lookU (incs st.us ((divL x).take q)) ((divL x).getD q dCk)
    have hup2 := updU (incs st.us ((divL x).take q)) ub uc ((divL x).getD q dCk) (cntU (incs st.us ((divL x).take q)) ((divL x).getD q dCk) + 1)
    repeat refine Or.inl ?_
    refine ⟨⟨by omega, by omega⟩, ?_⟩
    have hbin : binI .add .i64 (cntU (incs st.us ((divL x).take q)) ((divL x).getD q dCk)) 1 = some (.i .i64 (cntU (incs st.us ((divL x).take q)) ((divL x).getD q dCk) + 1)) := by
     show some (AV.i .i64 (IntKind.i64.wrap _)) = _
     rw [wr (by omega) (by omega)]
    refine ⟨(mget (incs st.us ((divL x).take q)) ((divL x).getD q dCk)).isSome, cntU (incs st.us ((divL x).take q)) ((divL x).getD q dCk), cntU (incs st.us ((divL x).take q)) ((divL x).getD q dCk) + 1, _, _, _, _, _, ⟨keysU _, rfl, hlk, hbin, hup2⟩, ?_⟩
    have ao : AOEq (mpB (fun c => .ag (ckA c)) (fun n => .i .i64 n) (dCk, 0) (incs st.us ((divL x).take (q + 1))) (fun j => if j < (incs st.us ((divL x).take q)).length then ub j else uc) (if (mget (incs st.us ((divL x).take q)) ((divL x).getD q dCk)).isSome = true then uc else uc + 1)) (mpB (fun c => .ag (ckA c)) (fun n => .i .i64 n) (dCk, 0) (mset (incs st.us ((divL x).take q)) ((divL x).getD q dCk) (cntU (incs st.us ((divL x).take q)) ((divL x).getD q dCk) + 1)) (fun j => if j < (incs st.us ((divL x).take q)).length then ub j else uc) (if (mget (incs st.us ((divL x).take q)) ((divL x).getD q dCk)).isSome = true then uc else uc + 1)) := by
     rw [hds]
     exact AOEq.refl _
    refine ⟨(q + 1, _, _), [], (by show q + 1 ≤ (divL x).length; omega), by dsimp only; omega, rfl, rfl, rfl, rfl, rfl, ⟨rfl, wr (by omega) (by omega)⟩, ao⟩
   ·have hc := dnlt hc
    have hc : ((divL x).length : Int) ≤ (q : Nat) := hc
    have hte : (divL x).take q = divL x := List.take_of_length_le (by omega)
    repeat refine Or.inl ?_
    refine ⟨_, _, _, _, _, ⟨hkF, rfl, hup⟩, ?_⟩
    have aoU : AOEq (usO (putS st 9 x) (putB st B 9 ub uc)) (mpB (fun c => .ag (ckA c)) (fun n => .i .i64 n) (dCk, 0) (incs st.us ((divL x).take q)) ub uc) := by
     rw [hte]
     exact AOEq.refl _
    have w1 : IntKind.i64.wrap (st.nx 9 + 1) = st.nx 9 + 1 := wr (by omega) (by omega)
    have w2 : IntKind.i64.wrap (IntKind.i64.wrap (st.nx 9 + 1) - 1) = st.nx 9 := by
     rw [w1, wr (by omega) (by omega)]
     omega
    have aoC : AOEq (.cells 151 (stC (putS st 9 x))) (.cells 151 [.mo 1, .mo 2, .i .i64 (st.nx 0), .mo 3, .i .i64 (st.nx 1), .mo 4, .i .i64 (st.nx 2), .mo 5, .i .i64 (st.nx 3), .mo 6, .i .i64 (st.nx 4), .mo 7, .i .i64 (st.nx 5), .mo 8, .i .i64 (st.nx 6), .mo 9, .i .i64 (st.nx 7), .mo 10, .i .i64 (st.nx 8), .mo 11, .i .i64 (IntKind.i64.wrap (st.nx 9 + 1)), .mo 12, .i .i64 (st.nx 10), .mo 13, .i .i64 (st.nx 11)]) := by
     rw [w1]
     exact AOEq.refl _
    have hav : AVEq (.tup [.i .i64 (st.nx 9), .i .i64 0]) (.tup [.i .i64 (IntKind.i64.wrap (IntKind.i64.wrap (st.nx 9 + 1) - 1)), .i .i64 0]) := by
     rw [w2]
     exact AVEq.refl _
    exact ⟨putB st B 9 ub uc, [], hBk ub uc, ⟨⟨⟨rfl, rfl, hav⟩, trivial⟩, ⟨⟨rfl, rfl, rfl, aoC⟩, ⟨rfl, rfl, trivial, aoU⟩, ⟨rfl, rfl, trivial, AOEq.refl _⟩, ⟨rfl, rfl, trivial, AOEq.refl _⟩, ⟨rfl, rfl, trivial, AOEq.refl _⟩, ⟨rfl, rfl, trivial, AOEq.refl _⟩, ⟨rfl, rfl, trivial, AOEq.refl _⟩, ⟨rfl, rfl, trivial, AOEq.refl _⟩, ⟨rfl, rfl, trivial, AOEq.refl _⟩, ⟨rfl, rfl, trivial, AOEq.refl _⟩, ⟨rfl, rfl, trivial, AOEq.refl _⟩, ⟨rfl, rfl, trivial, AOEq.refl _⟩, ⟨rfl, rfl, trivial, AOEq.refl _⟩, ⟨rfl, rfl, trivial, AOEq.refl _⟩, trivial⟩, rfl⟩, rfl, fun h => by cases h⟩
 ·refine Or.inr (Or.inr ?_)
  refine ⟨true, [0, 1, 2, 3, 4, 5, 6, 7, 8, 9, 10, 11, 12, 13], rfl, Unit, _, _, _, _, of_fn st B 10 (by decide), fun _ _ => ?_⟩
  repeat refine Or.inl ?_
  refine ⟨fun hc => (by cases hc), fun _ => ?_⟩
  refine ⟨fun hc => (by have hc : decide ((x.size : Int) > 65536) = true := hc; rw [decide_eq_true_eq] at hc; omega), fun _ => ?_⟩
  refine Or.inl ⟨_, _, (divided_fn x (by omega)).frz, ?_⟩
  refine Or.inl (Or.inr (Or.inr ?_))
  refine ⟨true, [0, 1, 2, 3, 4, 5, 6, 7, 8, 9, 10, 11, 12, 13], rfl, Unit, _, _, _, _, names_fn st B 10 (by decide) (hT.wf (by omega)) (by have := hT.len; omega), fun _ _ => ?_⟩
  repeat refine Or.inl ?_
  refine ⟨[], Nat, fun k => k ≤ (st.fs 10).length ∧ (∀ j, j < k → ((st.fs 10).getD j dFl).2 ≠ x), fun k => [⟨34, [], .i .i64 k⟩], fun k => [], fun k => (st.fs 10).length - k,
   ⟨0, [], ⟨Nat.zero_le _, fun j hj => absurd hj (Nat.not_lt_zero j)⟩, rfl, rfl, rfl, rfl, rfl, ⟨rfl, rfl⟩, trivial⟩, ?_⟩
  rintro k ⟨hk, hno⟩
  have hk : k ≤ (st.fs 10).length := hk
  refine .inl ⟨fun hc => ?_, fun hc => ?_⟩
  ·have hc := dlt hc
   have hc : (k : Int) < (st.fs 10).length := hc
   have ek : ((k : Nat) : Int).toNat = k := Int.toNat_natCast _
   repeat refine Or.inl ?_
   refine ⟨⟨by omega, by omega⟩, ?_⟩
   have hl := lookF (st.fs 10) ((mkeys (st.fs 10)).getD ((k : Nat) : Int).toNat 0)
   rw [ek, mkeys_getD, mget_at hnd (by omega)] at hl
   have hgk : AV.i .i64 ((sortI (mkeys (st.fs 10))).getD ((k : Nat) : Int).toNat 0) = AV.i .i64 ((st.fs 10).getD k dFl).1 := by rw [hso, ek, mkeys_getD]
   rw [← hgk] at hl
   have hsk : ((st.fs 10).getD k dFl).2.size ≤ 200 := hT.sz _ (getD_memD dFl (by omega))
   have hdk := div_len ((st.fs 10).getD k dFl).2
   refine ⟨by omega, ?_⟩
   refine ⟨_, _, ⟨hkF, rfl, hl⟩, ?_⟩
   refine Or.inl ⟨_, _, equal_fn (divL ((st.fs 10).getD k dFl).2) (divL x) (by omega) (by omega), ?_⟩
   refine ⟨fun h2 => ?_, fun h2 => ?_⟩
   ·exfalso
    have h2 : decide (divL ((st.fs 10).getD k dFl).2 = divL x) = true := h2
    rw [bytes_dif, decide_eq_true_eq] at h2
    exact hall k (by omega) h2
   ·refine ⟨k + 1, [], ⟨by omega, fun j hj => hall j (by omega)⟩, by dsimp only; omega, rfl, rfl, rfl, rfl, rfl, ⟨rfl, wr (by omega) (by omega)⟩, trivial⟩
  ·refine Or.inl (Or.inr (Or.inr ?_))
   refine ⟨true, [0, 1, 2, 3, 4, 5, 6, 7, 8, 9, 10, 11, 12, 13], rfl, Unit, _, _, _, _, used_fn st B 10 (by decide) (by omega) (fun p hp => Nat.le_trans (hT.sz p hp) (by decide)) hBt, fun _ _ => ?_⟩
   have hub : usedL (st.fs 10) ≤ 40000 := Nat.le_trans husd (Nat.le_trans (Nat.mul_le_mul_left 200 (Nat.le_trans hTl hm)) (by decide))
   refine ⟨fun h3 => ?_, fun _ => ?_⟩
   ·exfalso
    have h3 : decide (IntKind.i64.wrap ((usedL (st.fs 10) : Int) + x.size) > 1048576) = true := h3
    rw [wr (by omega) (by omega), decide_eq_true_eq] at h3
    omega
   have ao0 : AOEq (mpB (fun c => .ag (ckA c)) (fun n => .i .i64 n) (dCk, 0) (incs st.us ((divL x).take 0)) B.ub B.uc) (usO st B) := AOEq.refl _
   repeat refine Or.inl ?_
   refine ⟨[], Nat × (Nat → Nat) × Nat, fun p => p.1 ≤ (divL x).length, fun p => [⟨57, [], .i .i64 p.1⟩], fun p => [⟨1, [], mpB (fun c => .ag (ckA c)) (fun n => .i .i64 n) (dCk, 0) (incs st.us ((divL x).take p.1)) p.2.1 p.2.2⟩], fun p => (divL x).length - p.1,
    ⟨(0, B.ub, B.uc), [], Nat.zero_le _, rfl, rfl, rfl, rfl, rfl, ⟨rfl, rfl⟩, ao0⟩, ?_⟩
   rintro ⟨q, ub, uc⟩ hql
   have hql : q ≤ (divL x).length := hql
   have hUq := hU.incs (divL x) q hql
   refine .inl ⟨fun hc => ?_, fun hc => ?_⟩
   ·have hc := dlt hc
    have hc : (q : Int) < (divL x).length := hc
    have eq : ((q : Nat) : Int).toNat = q := Int.toNat_natCast _
    have hcb := hUq.2 ((divL x).getD q dCk)
    have hds := incs_snoc (L := st.us) (l := divL x) (k := q) (by omega)
    have hlk := lookU (incs st.us ((divL x).take q)) ((divL x).getD q dCk)
    have hup2 := updU (incs st.us ((divL x).take q)) ub uc ((divL x).getD q dCk) (cntU (incs st.us ((divL x).take q)) ((divL x).getD q dCk) + 1)
    repeat refine Or.inl ?_
    refine ⟨⟨by omega, by omega⟩, ?_⟩
    have hbin : binI .add .i64 (cntU (incs st.us ((divL x).take q)) ((divL x).getD q dCk)) 1 = some (.i .i64 (cntU (incs st.us ((divL x).take q)) ((divL x).getD q dCk) + 1)) := by
     show some (AV.i .i64 (IntKind.i64.wrap _)) = _
     rw [wr (by omega) (by omega)]
    refine ⟨(mget (incs st.us ((divL x).take q)) ((divL x).getD q dCk)).isSome, cntU (incs st.us ((divL x).take q)) ((divL x).getD q dCk), cntU (incs st.us ((divL x).take q)) ((divL x).getD q dCk) + 1, _, _, _, _, _, ⟨keysU _, rfl, hlk, hbin, hup2⟩, ?_⟩
    have ao : AOEq (mpB (fun c => .ag (ckA c)) (fun n => .i .i64 n) (dCk, 0) (incs st.us ((divL x).take (q + 1))) (fun j => if j < (incs st.us ((divL x).take q)).length then ub j else uc) (if (mget (incs st.us ((divL x).take q)) ((divL x).getD q dCk)).isSome = true then uc else uc + 1)) (mpB (fun c => .ag (ckA c)) (fun n => .i .i64 n) (dCk, 0) (mset (incs st.us ((divL x).take q)) ((divL x).getD q dCk) (cntU (incs st.us ((divL x).take q)) ((divL x).getD q dCk) + 1)) (fun j => if j < (incs st.us ((divL x).take q)).length then ub j else uc) (if (mget (incs st.us ((divL x).take q)) ((divL x).getD q dCk)).isSome = true then uc else uc + 1)) := by
     rw [hds]
     exact AOEq.refl _
    refine ⟨(q + 1, _, _), [], (by show q + 1 ≤ (divL x).length; omega), by dsimp only; omega, rfl, rfl, rfl, rfl, rfl, ⟨rfl, wr (by omega) (by omega)⟩, ao⟩
   ·have hc := dnlt hc
    have hc : ((divL x).length : Int) ≤ (q : Nat) := hc
    have hte : (divL x).take q = divL x := List.take_of_length_le (by omega)
    repeat refine Or.inl ?_
    refine ⟨_, _, _, _, _, ⟨hkF, rfl, hup⟩, ?_⟩
    have aoU : AOEq (usO (putS st 10 x) (putB st B 10 ub uc)) (mpB (fun c => .ag (ckA c)) (fun n => .i .i64 n) (dCk, 0) (incs st.us ((divL x).take q)) ub uc) := by
     rw [hte]
     exact AOEq.refl _
    have w1 : IntKind.i64.wrap (st.nx 10 + 1) = st.nx 10 + 1 := wr (by omega) (by omega)
    have w2 : IntKind.i64.wrap (IntKind.i64.wrap (st.nx 10 + 1) - 1) = st.nx 10 := by
     rw [w1, wr (by omega) (by omega)]
     omega
    have aoC : AOEq (.cells 151 (stC (putS st 10 x))) (.cells 151 [.mo 1, .mo 2, .i .i64 (st.nx 0), .mo 3, .i .i64 (st.nx 1), .mo 4, .i .i64 (st.nx 2), .mo 5, .i .i64 (st.nx 3), .mo 6, .i .i64 (st.nx 4), .mo 7, .i .i64 (st.nx 5), .mo 8, .i .i64 (st.nx 6), .mo 9, .i .i64 (st.nx 7), .mo 10, .i .i64 (st.nx 8), .mo 11, .i .i64 (st.nx 9), .mo 12, .i .i64 (IntKind.i64.wrap (st.nx 10 + 1)), .mo 13, .i .i64 (st.nx 11)]) := by
     rw [w1]
     exact AOEq.refl _
    have hav : AVEq (.tup [.i .i64 (st.nx 10), .i .i64 0]) (.tup [.i .i64 (IntKind.i64.wrap (IntKind.i64.wrap (st.nx 10 + 1) - 1)), .i .i64 0]) := by
     rw [w2]
     exact AVEq.refl _
    exact ⟨putB st B 10 ub uc, [], hBk ub uc, ⟨⟨⟨rfl, rfl, hav⟩, trivial⟩, ⟨⟨rfl, rfl, rfl, aoC⟩, ⟨rfl, rfl, trivial, aoU⟩, ⟨rfl, rfl, trivial, AOEq.refl _⟩, ⟨rfl, rfl, trivial, AOEq.refl _⟩, ⟨rfl, rfl, trivial, AOEq.refl _⟩, ⟨rfl, rfl, trivial, AOEq.refl _⟩, ⟨rfl, rfl, trivial, AOEq.refl _⟩, ⟨rfl, rfl, trivial, AOEq.refl _⟩, ⟨rfl, rfl, trivial, AOEq.refl _⟩, ⟨rfl, rfl, trivial, AOEq.refl _⟩, ⟨rfl, rfl, trivial, AOEq.refl _⟩, ⟨rfl, rfl, trivial, AOEq.refl _⟩, ⟨rfl, rfl, trivial, AOEq.refl _⟩, ⟨rfl, rfl, trivial, AOEq.refl _⟩, trivial⟩, rfl⟩, rfl, fun h => by cases h⟩
 ·refine Or.inr (Or.inr ?_)
  refine ⟨true, [0, 1, 2, 3, 4, 5, 6, 7, 8, 9, 10, 11, 12, 13], rfl, Unit, _, _, _, _, of_fn st B 11 (by decide), fun _ _ => ?_⟩
  repeat refine Or.inl ?_
  refine ⟨fun hc => (by cases hc), fun _ => ?_⟩
  refine ⟨fun hc => (by have hc : decide ((x.size : Int) > 65536) = true := hc; rw [decide_eq_true_eq] at hc; omega), fun _ => ?_⟩
  refine Or.inl ⟨_, _, (divided_fn x (by omega)).frz, ?_⟩
  refine Or.inl (Or.inr (Or.inr ?_))
  refine ⟨true, [0, 1, 2, 3, 4, 5, 6, 7, 8, 9, 10, 11, 12, 13], rfl, Unit, _, _, _, _, names_fn st B 11 (by decide) (hT.wf (by omega)) (by have := hT.len; omega), fun _ _ => ?_⟩
  repeat refine Or.inl ?_
  refine ⟨[], Nat, fun k => k ≤ (st.fs 11).length ∧ (∀ j, j < k → ((st.fs 11).getD j dFl).2 ≠ x), fun k => [⟨34, [], .i .i64 k⟩], fun k => [], fun k => (st.fs 11).length - k,
   ⟨0, [], ⟨Nat.zero_le _, fun j hj => absurd hj (Nat.not_lt_zero j)⟩, rfl, rfl, rfl, rfl, rfl, ⟨rfl, rfl⟩, trivial⟩, ?_⟩
  rintro k ⟨hk, hno⟩
  have hk : k ≤ (st.fs 11).length := hk
  refine .inl ⟨fun hc => ?_, fun hc => ?_⟩
  ·have hc := dlt hc
   have hc : (k : Int) < (st.fs 11).length := hc
   have ek : ((k : Nat) : Int).toNat = k := Int.toNat_natCast _
   repeat refine Or.inl ?_
   refine ⟨⟨by omega, by omega⟩, ?_⟩
   have hl := lookF (st.fs 11) ((mkeys (st.fs 11)).getD ((k : Nat) : Int).toNat 0)
   rw [ek, mkeys_getD, mget_at hnd (by omega)] at hl
   have hgk : AV.i .i64 ((sortI (mkeys (st.fs 11))).getD ((k : Nat) : Int).toNat 0) = AV.i .i64 ((st.fs 11).getD k dFl).1 := by rw [hso, ek, mkeys_getD]
   rw [← hgk] at hl
   have hsk : ((st.fs 11).getD k dFl).2.size ≤ 200 := hT.sz _ (getD_memD dFl (by omega))
   have hdk := div_len ((st.fs 11).getD k dFl).2
   refine ⟨by omega, ?_⟩
   refine ⟨_, _, ⟨hkF, rfl, hl⟩, ?_⟩
   refine Or.inl ⟨_, _, equal_fn (divL ((st.fs 11).getD k dFl).2) (divL x) (by omega) (by omega), ?_⟩
   refine ⟨fun h2 => ?_, fun h2 => ?_⟩
   ·exfalso
    have h2 : decide (divL ((st.fs 11).getD k dFl).2 = divL x) = true := h2
    rw [bytes_dif, decide_eq_true_eq] at h2
    exact hall k (by omega) h2
   ·refine ⟨k + 1, [], ⟨by omega, fun j hj => hall j (by omega)⟩, by dsimp only; omega, rfl, rfl, rfl, rfl, rfl, ⟨rfl, wr (by omega) (by omega)⟩, trivial⟩
  ·refine Or.inl (Or.inr (Or.inr ?_))
   refine ⟨true, [0, 1, 2, 3, 4, 5, 6, 7, 8, 9, 10, 11, 12, 13], rfl, Unit, _, _, _, _, used_fn st B 11 (by decide) (by omega) (fun p hp => Nat.le_trans (hT.sz p hp) (by decide)) hBt, fun _ _ => ?_⟩
   have hub : usedL (st.fs 11) ≤ 40000 := Nat.le_trans husd (Nat.le_trans (Nat.mul_le_mul_left 200 (Nat.le_trans hTl hm)) (by decide))
   refine ⟨fun h3 => ?_, fun _ => ?_⟩
   ·exfalso
    have h3 : decide (IntKind.i64.wrap ((usedL (st.fs 11) : Int) + x.size) > 1048576) = true := h3
    rw [wr (by omega) (by omega), decide_eq_true_eq] at h3
    omega
   have ao0 : AOEq (mpB (fun c => .ag (ckA c)) (fun n => .i .i64 n) (dCk, 0) (incs st.us ((divL x).take 0)) B.ub B.uc) (usO st B) := AOEq.refl _
   repeat refine Or.inl ?_
   refine ⟨[], Nat × (Nat → Nat) × Nat, fun p => p.1 ≤ (divL x).length, fun p => [⟨57, [], .i .i64 p.1⟩], fun p => [⟨1, [], mpB (fun c => .ag (ckA c)) (fun n => .i .i64 n) (dCk, 0) (incs st.us ((divL x).take p.1)) p.2.1 p.2.2⟩], fun p => (divL x).length - p.1,
    ⟨(0, B.ub, B.uc), [], Nat.zero_le _, rfl, rfl, rfl, rfl, rfl, ⟨rfl, rfl⟩, ao0⟩, ?_⟩
   rintro ⟨q, ub, uc⟩ hql
   have hql : q ≤ (divL x).length := hql
   have hUq := hU.incs (divL x) q hql
   refine .inl ⟨fun hc => ?_, fun hc => ?_⟩
   ·have hc := dlt hc
    have hc : (q : Int) < (divL x).length := hc
    have eq : ((q : Nat) : Int).toNat = q := Int.toNat_natCast _
    have hcb := hUq.2 ((divL x).getD q dCk)
    have hds := incs_snoc (L := st.us) (l := divL x) (k := q) (by omega)
    have hlk := lookU (incs st.us ((divL x).take q)) ((divL x).getD q dCk)
    have hup2 := updU (incs st.us ((divL x).take q)) ub uc ((divL x).getD q dCk) (cntU (incs st.us ((divL x).take q)) ((divL x).getD q dCk) + 1)
    repeat refine Or.inl ?_
    refine ⟨⟨by omega, by omega⟩, ?_⟩
    have hbin : binI .add .i64 (cntU (incs st.us ((divL x).take q)) ((divL x).getD q dCk)) 1 = some (.i .i64 (cntU (incs st.us ((divL x).take q)) ((divL x).getD q dCk) + 1)) := by
     show some (AV.i .i64 (IntKind.i64.wrap _)) = _
     rw [wr (by omega) (by omega)]
    refine ⟨(mget (incs st.us ((divL x).take q)) ((divL x).getD q dCk)).isSome, cntU (incs st.us ((divL x).take q)) ((divL x).getD q dCk), cntU (incs st.us ((divL x).take q)) ((divL x).getD q dCk) + 1, _, _, _, _, _, ⟨keysU _, rfl, hlk, hbin, hup2⟩, ?_⟩
    have ao : AOEq (mpB (fun c => .ag (ckA c)) (fun n => .i .i64 n) (dCk, 0) (incs st.us ((divL x).take (q + 1))) (fun j => if j < (incs st.us ((divL x).take q)).length then ub j else uc) (if (mget (incs st.us ((divL x).take q)) ((divL x).getD q dCk)).isSome = true then uc else uc + 1)) (mpB (fun c => .ag (ckA c)) (fun n => .i .i64 n) (dCk, 0) (mset (incs st.us ((divL x).take q)) ((divL x).getD q dCk) (cntU (incs st.us ((divL x).take q)) ((divL x).getD q dCk) + 1)) (fun j => if j < (incs st.us ((divL x).take q)).length then ub j else uc) (if (mget (incs st.us ((divL x).take q)) ((divL x).getD q dCk)).isSome = true then uc else uc + 1)) := by
     rw [hds]
     exact AOEq.refl _
    refine ⟨(q + 1, _, _), [], (by show q + 1 ≤ (divL x).length; omega), by dsimp only; omega, rfl, rfl, rfl, rfl, rfl, ⟨rfl, wr (by omega) (by omega)⟩, ao⟩
   ·have hc := dnlt hc
    have hc : ((divL x).length : Int) ≤ (q : Nat) := hc
    have hte : (divL x).take q = divL x := List.take_of_length_le (by omega)
    repeat refine Or.inl ?_
    refine ⟨_, _, _, _, _, ⟨hkF, rfl, hup⟩, ?_⟩
    have aoU : AOEq (usO (putS st 11 x) (putB st B 11 ub uc)) (mpB (fun c => .ag (ckA c)) (fun n => .i .i64 n) (dCk, 0) (incs st.us ((divL x).take q)) ub uc) := by
     rw [hte]
     exact AOEq.refl _
    have w1 : IntKind.i64.wrap (st.nx 11 + 1) = st.nx 11 + 1 := wr (by omega) (by omega)
    have w2 : IntKind.i64.wrap (IntKind.i64.wrap (st.nx 11 + 1) - 1) = st.nx 11 := by
     rw [w1, wr (by omega) (by omega)]
     omega
    have aoC : AOEq (.cells 151 (stC (putS st 11 x))) (.cells 151 [.mo 1, .mo 2, .i .i64 (st.nx 0), .mo 3, .i .i64 (st.nx 1), .mo 4, .i .i64 (st.nx 2), .mo 5, .i .i64 (st.nx 3), .mo 6, .i .i64 (st.nx 4), .mo 7, .i .i64 (st.nx 5), .mo 8, .i .i64 (st.nx 6), .mo 9, .i .i64 (st.nx 7), .mo 10, .i .i64 (st.nx 8), .mo 11, .i .i64 (st.nx 9), .mo 12, .i .i64 (st.nx 10), .mo 13, .i .i64 (IntKind.i64.wrap (st.nx 11 + 1))]) := by
     rw [w1]
     exact AOEq.refl _
    have hav : AVEq (.tup [.i .i64 (st.nx 11), .i .i64 0]) (.tup [.i .i64 (IntKind.i64.wrap (IntKind.i64.wrap (st.nx 11 + 1) - 1)), .i .i64 0]) := by
     rw [w2]
     exact AVEq.refl _
    exact ⟨putB st B 11 ub uc, [], hBk ub uc, ⟨⟨⟨rfl, rfl, hav⟩, trivial⟩, ⟨⟨rfl, rfl, rfl, aoC⟩, ⟨rfl, rfl, trivial, aoU⟩, ⟨rfl, rfl, trivial, AOEq.refl _⟩, ⟨rfl, rfl, trivial, AOEq.refl _⟩, ⟨rfl, rfl, trivial, AOEq.refl _⟩, ⟨rfl, rfl, trivial, AOEq.refl _⟩, ⟨rfl, rfl, trivial, AOEq.refl _⟩, ⟨rfl, rfl, trivial, AOEq.refl _⟩, ⟨rfl, rfl, trivial, AOEq.refl _⟩, ⟨rfl, rfl, trivial, AOEq.refl _⟩, ⟨rfl, rfl, trivial, AOEq.refl _⟩, ⟨rfl, rfl, trivial, AOEq.refl _⟩, ⟨rfl, rfl, trivial, AOEq.refl _⟩, ⟨rfl, rfl, trivial, AOEq.refl _⟩, trivial⟩, rfl⟩, rfl, fun h => by cases h⟩
end Go.Proofs.Ytnookbebiacaeaa
end

section
namespace Go.Proofs.Ytnookbebiacaeaa
open Go.Eng
abbrev Fl := Int × Int × ByteArray
def dFf : Fl := (0, 0, noB)
def rUsed (R : List Fl) (t : Int) : Nat := ((R.filter fun f => f.1 == t).map fun f => f.2.2.size).sum
def rNames (R : List Fl) (t : Int) : List Int := (R.filter fun f => f.1 == t).map fun f => f.2.1
end Go.Proofs.Ytnookbebiacaeaa
end

section
namespace Go.Proofs.Ytnookbebiacaeaa
open Go.Eng
def hitF (t n : Int) (f : Fl) : Bool := f.1 == t && f.2.1 == n
def rAt (R : List Fl) (t n : Int) : Int := if R.any (hitF t n) then (R.findIdx (hitF t n) : Int) else -1
def rGet (R : List Fl) (t n : Int) : Option ByteArray := (R.find? (hitF t n)).map fun f => f.2.2
theorem at_neg {R : List Fl} {t n : Int} (h : rAt R t n < 0) : R.find? (hitF t n) = none ∧ rAt R t n = -1 := by
 unfold rAt at h ⊢
 by_cases ha : R.any (hitF t n) = true
 ·rw [if_pos ha] at h
  omega
 ·rw [if_neg ha]
  refine ⟨?_, rfl⟩
  rw [List.find?_eq_none]
  intro f hf hp
  exact ha (List.any_eq_true.2 ⟨f, hf, hp⟩)
theorem at_pos {R : List Fl} {t n : Int} (h : ¬ rAt R t n < 0) : (rAt R t n).toNat < R.length ∧ R.find? (hitF t n) = some (R.getD (rAt R t n).toNat dFf) ∧ 0 ≤ rAt R t n := by
 unfold rAt at h ⊢
 by_cases ha : R.any (hitF t n) = true
 ·rw [if_pos ha] at h ⊢
  rw [Int.toNat_natCast]
  have hlt : R.findIdx (hitF t n) < R.length := by
   rw [List.findIdx_lt_length]
   exact List.any_eq_true.1 ha
  refine ⟨hlt, ?_, by omega⟩
  rw [List.find?_eq_some_iff_getElem]
  refine ⟨?_, R.findIdx (hitF t n), hlt, (gdI hlt).symm, fun j hj => ?_⟩
  ·rw [gdI hlt]
   exact List.findIdx_getElem
  ·have := List.not_of_lt_findIdx hj
   simpa using this
 ·rw [if_neg ha] at h
  exact absurd (by decide) h
structure Opn where
 d : Int
 t : Int
 n : Int
 x : ByteArray
def dOp : Opn := ⟨0, 0, 0, noB⟩
def Opn.av (o : Opn) : List AV := [.i .i64 o.d, .i .i64 o.t, .i .i64 o.n, .s o.x]
def rOp (l : List Opn) (k : Nat) : List AV := (l.getD k dOp).av
def fewL (l : List Opn) (m : Int) : Bool := decide ((l.length : Int) ≤ m) && l.all fun o => decide (o.x.size ≤ 200)
set_option maxRecDepth 20000 in
set_option maxHeartbeats 4000000 in
theorem few_fn (l : List Opn) (m : Int) (hl : l.length < 2 ^ 63) : Ctr Try.prog 54 [.rs 4 l.length (rOp l), .i .i64 m] [] (.b (fewL l m)) := by
 refine fn_of_exec tabOk Try.func54 (by kernel_rfl) rfl (N := Try.f54.ntmps) rfl (res := [.tmp 4]) rfl rfl [] ?_
 repeat refine Or.inl ?_
 refine ⟨[], Nat, fun k => k ≤ l.length ∧ ∀ j, j < k → (l.getD j dOp).x.size ≤ 200, fun k => [⟨5, [], .i .i64 k⟩], fun _ => [], fun k => l.length - k,
  ⟨0, [], ⟨Nat.zero_le _, fun j hj => absurd hj (Nat.not_lt_zero j)⟩, rfl, rfl, rfl, rfl, rfl, ⟨rfl, rfl⟩, trivial⟩, ?_⟩
 rintro k ⟨hk, hno⟩
 have hk : k ≤ l.length := hk
 refine .inl ⟨fun hc => ?_, fun hc => ?_⟩
 ·have hc : (decide ((k : Int) < (l.length : Int)) && decide ((k : Int) ≤ m)) = true := hc
  rw [Bool.and_eq_true, decide_eq_true_eq, decide_eq_true_eq] at hc
  obtain ⟨hc, hkm⟩ := hc
  have ek : ((k : Nat) : Int).toNat = k := Int.toNat_natCast _
  repeat refine Or.inl ?_
  refine ⟨⟨by omega, by omega⟩, ?_⟩
  refine ⟨fun h => ?_, fun h => ?_⟩
  ·have h : decide (((l.getD ((k : Nat) : Int).toNat dOp).x.size : Int) > 200) = true := h
   rw [ek, decide_eq_true_eq] at h
   refine RetIs.b ?_
   symm
   unfold fewL
   rw [Bool.and_eq_false_iff]
   right
   rw [List.all_eq_false]
   exact ⟨l.getD k dOp, getD_memD dOp (by omega), by rw [decide_eq_true_eq]; omega⟩
  ·have h : decide (((l.getD ((k : Nat) : Int).toNat dOp).x.size : Int) > 200) = false := h
   rw [ek, decide_eq_false_iff_not] at h
   refine ⟨k + 1, [], ⟨by omega, fun j hj => ?_⟩, by dsimp only; omega, rfl, rfl, rfl, rfl, rfl, ⟨rfl, wr (by omega) (by omega)⟩, trivial⟩
   by_cases hjk : j = k
   ·rw [hjk]; omega
   ·exact hno j (by omega)
 ·have hc : (decide ((k : Int) < (l.length : Int)) && decide ((k : Int) ≤ m)) = false := hc
  refine RetIs.b ?_
  unfold fewL
  by_cases hkl : k < l.length
  ·have hkm : ¬ (k : Int) ≤ m := by
    intro h
    simp [hkl, h] at hc
   have : ¬ (l.length : Int) ≤ m := by omega
   simp [this]
  ·have hall : l.all (fun o => decide (o.x.size ≤ 200)) = true := by
    rw [List.all_eq_true]
    intro o ho
    obtain ⟨j, hj, rfl⟩ := List.getElem_of_mem ho
    have := hno j (by omega)
    rw [gdI hj] at this
    simpa using this
   rw [hall, Bool.and_true]
end Go.Proofs.Ytnookbebiacaeaa
end

section
namespace Go.Proofs.Ytnookbebiacaeaa
open Go.Eng
set_option maxRecDepth 20000 in
set_option maxHeartbeats 4000000 in
theorem ints_fn (l m : List Int) (hl : l.length ≤ 100000) (hm : m.length ≤ 100000) : Ctr Try.prog 63 [.rs 1 l.length (rI l), .rs 1 m.length (rI m)] [] (.b (decide (l = m))) := by
 refine fn_of_exec tabOk Try.func63 (by kernel_rfl) rfl (N := Try.f63.ntmps) rfl (res := [.tmp 4]) rfl rfl [] ?_
 repeat refine Or.inl ?_
 refine ⟨fun h => ?_, fun h => ?_⟩
 ·have h : ((l.length : Int) != m.length) = true := h
  rw [bne_iff_ne] at h
  refine RetIs.b ?_
  symm
  rw [decide_eq_false_iff_not]
  rintro rfl
  exact h rfl
 have h : ((l.length : Int) != m.length) = false := h
 rw [bne_eq_false_iff_eq] at h
 repeat refine Or.inl ?_
 refine ⟨[], Nat, fun k => k ≤ l.length ∧ ∀ j, j < k → l.getD j 0 = m.getD j 0, fun k => [⟨5, [], .i .i64 k⟩], fun _ => [], fun k => l.length - k,
  ⟨0, [], ⟨Nat.zero_le _, fun j hj => by omega⟩, rfl, rfl, rfl, rfl, rfl, ⟨rfl, rfl⟩, trivial⟩, ?_⟩
 rintro k ⟨hk, hno⟩
 have hk : k ≤ l.length := hk
 refine .inl ⟨fun hc => ?_, fun hc => ?_⟩
 ·have hc := dlt hc
  have hc : (k : Int) < l.length := hc
  have ek : ((k : Nat) : Int).toNat = k := Int.toNat_natCast k
  repeat refine Or.inl ?_
  refine ⟨⟨by omega, by omega⟩, ?_⟩
  refine ⟨⟨by omega, by omega⟩, ?_⟩
  refine ⟨fun h2 => ?_, fun h2 => ?_⟩
  ·have h2 : (l.getD ((k : Nat) : Int).toNat 0 != m.getD ((k : Nat) : Int).toNat 0) = true := h2
   rw [ek, bne_iff_ne] at h2
   refine RetIs.b ?_
   symm
   rw [decide_eq_false_iff_not]
   rintro rfl
   exact h2 rfl
  ·have h2 : (l.getD ((k : Nat) : Int).toNat 0 != m.getD ((k : Nat) : Int).toNat 0) = false := h2
   rw [ek, bne_eq_false_iff_eq] at h2
   refine ⟨k + 1, [], ⟨by omega, fun j hj => ?_⟩, by dsimp only; omega, rfl, rfl, rfl, rfl, rfl, ⟨rfl, wr (by omega) (by omega)⟩, trivial⟩
   by_cases hjk : j = k
   ·rw [hjk]; exact h2
   ·exact hno j (by omega)
 ·have hc := dnlt hc
  have hc : (l.length : Int) ≤ k := hc
  refine RetIs.b ?_
  symm
  rw [decide_eq_true_eq]
  refine List.ext_getElem (by omega) fun j h1 h2 => ?_
  rw [← gdI (d := (0 : Int)) h1, ← gdI (d := (0 : Int)) h2]
  exact hno j (by omega)
def hasS (l : List ByteArray) (x : ByteArray) : Bool := l.any fun y => bytesEq y x
theorem hasS_iff {l : List ByteArray} {x : ByteArray} : hasS l x = true ↔ x ∈ l := by
 unfold hasS
 rw [List.any_eq_true]
 constructor
 ·rintro ⟨y, hy, h⟩
  rw [bytes_eq] at h
  rw [← h]
  exact hy
 ·exact fun h => ⟨x, h, bytes_eq.2 rfl⟩
end Go.Proofs.Ytnookbebiacaeaa
end

section
namespace Go.Proofs.Ytnookbebiacaeaa
open Go.Eng
def rDv (x : ByteArray) : List ByteArray := (divL x).map (·.1)
def addP (acc : List ByteArray) (p : ByteArray) : List ByteArray := if hasS acc p then acc else acc ++ [p]
def keptL (ts : List ByteArray) : List ByteArray := ts.foldl (fun acc x => (rDv x).foldl addP acc) []
end Go.Proofs.Ytnookbebiacaeaa
end

section
namespace Go.Proofs.Ytnookbebiacaeaa
open Go.Eng
def rTxt (R : List Fl) : List ByteArray := R.map fun f => f.2.2
def rPut (R : List Fl) (N : List Int) (t : Int) (x : ByteArray) : (List Fl × List Int) × (Int × Int) :=
 if t < 0 ∨ 11 < t then ((R, N), (0, 1)) else
 match R.find? (fun f => f.1 == t && bytesEq f.2.2 x) with
 | some f => ((R, N), (f.2.1, 0))
 | none => ((R ++ [(t, N.getD t.toNat 0, x)], N.set t.toNat (N.getD t.toNat 0 + 1)), (N.getD t.toNat 0, 0))
end Go.Proofs.Ytnookbebiacaeaa
end

section
namespace Go.Proofs.Ytnookbebiacaeaa
open Go.Eng
def rDrop (R : List Fl) (t n : Int) : List Fl × Int := if rAt R t n < 0 then (R, 4) else (R.eraseIdx (rAt R t n).toNat, 0)
end Go.Proofs.Ytnookbebiacaeaa
end

section
namespace Go.Proofs.Ytnookbebiacaeaa
open Go.Eng
abbrev Dn := Int × ByteArray × Int
def dnA (d : Dn) : List AV := [.i .i64 d.1, .s d.2.1, .i .i64 d.2.2]
def getD0 : Option ByteArray → Dn
 | some x => (0, x, 0)
 | none => (0, noB, 4)
def rDo (R : List Fl) (N : List Int) (o : Opn) : (List Fl × List Int) × Dn :=
 if o.d = 0 then ((rPut R N o.t o.x).1, ((rPut R N o.t o.x).2.1, noB, (rPut R N o.t o.x).2.2)) else
 if o.d = 1 then ((R, N), getD0 (rGet R o.t o.n)) else
 if o.d = 2 then (((rDrop R o.t o.n).1, N), (0, noB, (rDrop R o.t o.n).2)) else ((R, N), (0, noB, 0))
end Go.Proofs.Ytnookbebiacaeaa
end
