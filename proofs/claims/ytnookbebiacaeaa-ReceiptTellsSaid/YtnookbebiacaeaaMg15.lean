/-
  Several texts in one: Rc4, Rc5, Rc6, Rc7, Rc8.
-/
import Derived.Test.YtnookbebiacaeaaMg14

section
/-
  Receipts: taking back, and what is weaker, walked.
-/
namespace Go.Proofs.Ytnookbebiacaeaa
open Go.Eng

set_option maxRecDepth 20000 in
set_option maxHeartbeats 4000000 in
theorem deleteN_fn (P : List Note) (hP : P.length ≤ 1000000) (i : Nat) (hi : i < P.length) (j : Int) (hj : j = (i : Int) + 1) :
    CtrM Try.prog 104 false [.row 24 5 P.length (rowsN P)] [.so 0, .i .i64 i, .i .i64 j] (fun _ : Unit => True) (fun _ => [.dead]) (fun _ => [.row 24 5 (lessN P i).length (rowsN (lessN P i))]) (fun _ => .so 1) := by
  refine fn_of_execM tabOk Try.func104 (by kernel_rfl) rfl (N := Try.f104.ntmps) rfl (res := [.tmp 6]) rfl false false [.row 24 5 P.length (rowsN P)] _ _ _ _ rfl (fun h => by cases h) [(999999, [.own 6])] ?_
  subst hj
  repeat refine Or.inl ?_
  refine ⟨⟨by omega, by omega, by omega, by omega⟩, ?_⟩
  repeat refine Or.inl ?_
  refine ⟨fun h => ?_, fun _ => ?_⟩
  · have h : ((i : Int) == (i : Int) + 1) = true := h
    rw [beq_iff_eq] at h
    omega
  repeat refine Or.inl ?_
  refine ⟨⟨by omega, by omega, by omega⟩, ?_⟩
  repeat refine Or.inl ?_
  refine ⟨⟨by omega, by omega, by omega⟩, ?_⟩
  repeat refine Or.inl ?_
  refine ⟨by omega, ?_⟩
  repeat refine Or.inl ?_
  refine ⟨⟨by omega, by omega, by omega⟩, ?_⟩
  have hel := lessN_len hi
  refine ⟨⟨(), [(1, 2)], trivial, ⟨⟨⟨rfl, rfl, rfl⟩, trivial⟩, ⟨⟨rfl, rfl, trivial, trivial⟩, ⟨rfl, rfl, trivial, ⟨rfl, rfl, ?_, fun q hq => ?_⟩⟩, trivial⟩, rfl⟩, rfl, fun _ => ⟨rfl, trivial, fun _ _ => rfl⟩⟩⟩
  · omega
  · have hq : q < (lessN P i).length := hq
    have e0 : q + Int.toNat 0 = q := rfl
    dsimp only
    rw [e0, if_neg (by omega)]
    unfold overG rowsN
    rw [lessN_get _ _ _ hi]
    by_cases h : q < i
    · rw [if_pos h, if_neg (by omega)]
    · rw [if_neg h, if_pos (by omega)]
      congr 2
      omega
set_option maxRecDepth 20000 in
set_option maxHeartbeats 4000000 in
theorem Withdraw_fn (l : List Note) (hl : l.length ≤ 100000) (i : Int) : Ctr Try.prog 25 [.rs 5 l.length (rowsN l), .i .i64 i] [.row 24 5 (withY l i).1.length (rowsN (withY l i).1)] (.tup [.so 0, .i .i64 (withY l i).2]) := by
  refine fn_of_exec tabOk Try.func25 (by kernel_rfl) rfl (N := Try.f25.ntmps) rfl (res := [.tmp 4, .tmp 5]) rfl rfl [(999999, [.nl 4 24 5])] ?_
  repeat refine Or.inl ?_
  refine ⟨fun h => ?_, fun h => ?_⟩
  · have h : (decide (i < 0) || decide (i ≥ (l.length : Int))) = true := h
    have e : withY l i = ([], 4) := by unfold withY; rw [if_pos (by simpa using h)]
    rw [e]
    exact RetIs.soI rfl rfl (fun k hk => by simp at hk) (fun k hk => by simp at hk) rfl
  have h : (decide (i < 0) || decide (i ≥ (l.length : Int))) = false := h
  simp only [Bool.or_eq_false_iff, decide_eq_false_iff_not] at h
  obtain ⟨m, rfl⟩ := Int.eq_ofNat_of_zero_le (show 0 ≤ i by omega)
  have e : withY l (m : Int) = (lessN l m, 0) := by unfold withY; rw [if_neg (by omega), Int.toNat_natCast]
  rw [e]
  repeat refine Or.inl ?_
  refine ⟨_, _, cloneN_fn l hl, ?_⟩
  refine .inr (.inr ⟨false, [0], rfl, Unit, _, _, _, _, deleteN_fn l (by omega) m (by omega) _ (wr (by omega) (by omega)), fun _ _ => ?_⟩)
  exact RetIs.soI rfl rfl (fun _ _ => rfl) (fresh_rowsN _) rfl

def kfA (p : Int × Int) : AV := .ag [.i .i64 p.1, .i .i64 p.2]
theorem kfA_inj : ∀ a b : Int × Int, kfA a = kfA b → a = b := by
  rintro ⟨a, b⟩ ⟨c, d⟩ h
  simp only [kfA, AV.ag.injEq, List.cons.injEq, AV.i.injEq, true_and, and_true] at h
  rw [h.1, h.2]
def dA : (Int × Int) × Bool := ((0, 0), false)
theorem snocN_row (o : List Note) (n : Note) {l : List Note} (hl : l = o ++ [n]) : AOEq (.row 24 5 l.length (rowsN l)) (.row 24 5 (o.length + 1) (catG o.length (rowsN o) (rowOf 5 n.av))) := by
  subst hl
  exact ⟨rfl, rfl, by simp, snocN o n⟩
theorem wkStep_no {old now : List Note} {b : Bool} {st : List ((Int × Int) × Bool) × List Note} {n : Note} (h : (n.n || (mget st.1 (n.m, n.w)).getD false) = true) : wkStep old now b st n = st := by
  unfold wkStep
  rw [if_pos h]
theorem wkStep_yes {old now : List Note} {b : Bool} {st : List ((Int × Int) × Bool) × List Note} {n : Note} (h : (n.n || (mget st.1 (n.m, n.w)).getD false) = false) (h2 : Low old b n.m n.w > Low now b n.m n.w) : wkStep old now b st n = (mset st.1 (n.m, n.w) true, st.2 ++ [wk old b n]) := by
  unfold wkStep
  rw [if_neg (by rw [h]; decide), if_pos h2]
theorem wkStep_same {old now : List Note} {b : Bool} {st : List ((Int × Int) × Bool) × List Note} {n : Note} (h : (n.n || (mget st.1 (n.m, n.w)).getD false) = false) (h2 : ¬ Low old b n.m n.w > Low now b n.m n.w) : wkStep old now b st n = (mset st.1 (n.m, n.w) true, st.2) := by
  unfold wkStep
  rw [if_neg (by rw [h]; decide), if_neg h2]
set_option maxRecDepth 20000 in
set_option maxHeartbeats 8000000 in
theorem Weaker_fn (old now : List Note) (ho : old.length ≤ 100000) (hn : now.length < 2 ^ 62) (b : Bool) : Ctr Try.prog 33 [.rs 5 old.length (rowsN old), .rs 5 now.length (rowsN now), .b b] [.row 24 5 (weakL old now b).length (rowsN (weakL old now b))] (.so 0) := by
  refine fn_of_exec tabOk Try.func33 (by kernel_rfl) rfl (N := Try.f33.ntmps) rfl (res := [.tmp 6]) rfl rfl [] ?_
  repeat refine Or.inl ?_
  refine ⟨[(8, 24, 5)], Nat, fun k => k ≤ old.length, fun k => [⟨16, [], .i .i64 k⟩, ⟨8, [], .so 1⟩], fun k => [⟨0, [], mpL kfA .b dA (wkTo old now b k).1⟩, ⟨1, [], .row 24 5 (wkTo old now b k).2.length (rowsN (wkTo old now b k).2)⟩], fun k => old.length - k,
    ⟨0, [], Nat.zero_le _, rfl, rfl, rfl, rfl, rfl, ⟨⟨rfl, rfl⟩, rfl⟩, ⟨⟨rfl, rfl, fun j hj => absurd hj (Nat.not_lt_zero j)⟩, ⟨rfl, rfl, rfl, fun j hj => absurd hj (Nat.not_lt_zero j)⟩⟩⟩, ?_⟩
  intro k hk
  have hk : k ≤ old.length := hk
  have hW := wkK old now b k hk
  have l1 := hW.len
  refine .inl ⟨fun hc => ?_, fun hc => ?_⟩
  · have hc := dlt hc
    have hc : (k : Int) < old.length := hc
    have ek : (k : Int).toNat = k := Int.toNat_natCast k
    have hst := wkTo_succ old now b (k := k) (by omega)
    repeat refine Or.inl ?_
    refine ⟨⟨by omega, by omega⟩, ?_⟩
    repeat refine Or.inl ?_
    refine ⟨_, _, ⟨fun _ => ⟨fun _ _ => rfl, rfl, lookOk_mget (L := (wkTo old now b k).1) (d := dA) (vf := fun v : Bool => AV.b v) kfA_inj ((old.getD (k : Int).toNat dN).m, (old.getD (k : Int).toNat dN).w) false⟩, ?_⟩⟩
    refine ⟨fun h => ?_, fun h => ?_⟩
    · have h : ((old.getD (k : Int).toNat dN).n || (mget (wkTo old now b k).1 ((old.getD (k : Int).toNat dN).m, (old.getD (k : Int).toNat dN).w)).getD false) = true := h
      rw [ek] at h
      rw [wkStep_no h] at hst
      refine ⟨k + 1, [], by dsimp only; omega, by dsimp only; omega, rfl, rfl, rfl, rfl, rfl, ⟨⟨rfl, wr (by omega) (by omega)⟩, rfl⟩, ?_⟩
      have ao : AOEq (mpL kfA .b dA (wkTo old now b (k + 1)).1) (mpL kfA .b dA (wkTo old now b k).1) := by rw [hst]; exact AOEq.refl _
      have ao2 : AOEq (.row 24 5 (wkTo old now b (k + 1)).2.length (rowsN (wkTo old now b (k + 1)).2)) (.row 24 5 (wkTo old now b k).2.length (rowsN (wkTo old now b k).2)) := by rw [hst]; exact AOEq.refl _
      exact ⟨ao, ao2⟩
    have h : ((old.getD (k : Int).toNat dN).n || (mget (wkTo old now b k).1 ((old.getD (k : Int).toNat dN).m, (old.getD (k : Int).toNat dN).w)).getD false) = false := h
    rw [ek] at h
    repeat refine Or.inl ?_
    refine ⟨_, _, _, _, _, ⟨fun _ _ => rfl, rfl, updOk_mset (L := (wkTo old now b k).1) (d := dA) (vf := fun v : Bool => AV.b v) kfA_inj ((old.getD (k : Int).toNat dN).m, (old.getD (k : Int).toNat dN).w) true⟩, ?_⟩
    repeat refine Or.inl ?_
    refine ⟨[], _, Low_fn old (by omega) b (old.getD (k : Int).toNat dN).m (old.getD (k : Int).toNat dN).w, ?_⟩
    repeat refine Or.inl ?_
    refine ⟨[], _, Low_fn now hn b (old.getD (k : Int).toNat dN).m (old.getD (k : Int).toNat dN).w, ?_⟩
    repeat refine Or.inl ?_
    refine ⟨fun h2 => ?_, fun h2 => ?_⟩
    · have h2 : decide (Low old b (old.getD (k : Int).toNat dN).m (old.getD (k : Int).toNat dN).w > Low now b (old.getD (k : Int).toNat dN).m (old.getD (k : Int).toNat dN).w) = true := h2
      rw [ek, decide_eq_true_eq] at h2
      rw [wkStep_yes h h2] at hst
      refine ⟨fits (by omega), ?_⟩
      refine ⟨k + 1, [(1, 5)], by dsimp only; omega, by dsimp only; omega, rfl, rfl, rfl, rfl, rfl, ⟨⟨rfl, wr (by omega) (by omega)⟩, rfl⟩, ?_⟩
      have ao : AOEq (mpL kfA .b dA (wkTo old now b (k + 1)).1) (mpL kfA .b dA (mset (wkTo old now b k).1 ((old.getD (k : Int).toNat dN).m, (old.getD (k : Int).toNat dN).w) true)) := by rw [hst, ek]; exact AOEq.refl _
      have ao2 : AOEq (.row 24 5 (wkTo old now b (k + 1)).2.length (rowsN (wkTo old now b (k + 1)).2)) (.row 24 5 ((wkTo old now b k).2.length + 1) (catG (wkTo old now b k).2.length (rowsN (wkTo old now b k).2) (rowOf 5 (wk old b (old.getD (k : Int).toNat dN)).av))) := snocN_row _ _ (by rw [hst, ek])
      exact ⟨ao, ao2⟩
    · have h2 : decide (Low old b (old.getD (k : Int).toNat dN).m (old.getD (k : Int).toNat dN).w > Low now b (old.getD (k : Int).toNat dN).m (old.getD (k : Int).toNat dN).w) = false := h2
      rw [ek, decide_eq_false_iff_not] at h2
      rw [wkStep_same h h2] at hst
      refine ⟨k + 1, [], by dsimp only; omega, by dsimp only; omega, rfl, rfl, rfl, rfl, rfl, ⟨⟨rfl, wr (by omega) (by omega)⟩, rfl⟩, ?_⟩
      have ao : AOEq (mpL kfA .b dA (wkTo old now b (k + 1)).1) (mpL kfA .b dA (mset (wkTo old now b k).1 ((old.getD (k : Int).toNat dN).m, (old.getD (k : Int).toNat dN).w) true)) := by rw [hst, ek]; exact AOEq.refl _
      have ao2 : AOEq (.row 24 5 (wkTo old now b (k + 1)).2.length (rowsN (wkTo old now b (k + 1)).2)) (.row 24 5 (wkTo old now b k).2.length (rowsN (wkTo old now b k).2)) := by rw [hst]; exact AOEq.refl _
      exact ⟨ao, ao2⟩
  · have hc := dnlt hc
    have hc : (old.length : Int) ≤ k := hc
    obtain rfl : k = old.length := by omega
    refine .inr (.inr ⟨false, [1], rfl, List Note, _, _, _, _, sortBy_ctr liesN sortsN (kt := 24) (wkTo old now b old.length).2 (rowsN (wkTo old now b old.length).2) (fun _ _ => rfl) (by omega), fun ys hy => ?_⟩)
    have e : ys = weakL old now b := wk_sorted hy.1 (hy.2.imp fun {x y} h => by rw [← ltN_eq]; exact h)
    rw [e]
    exact RetIs.so rfl rfl (fun _ _ => rfl) (fresh_rowsN _)
end Go.Proofs.Ytnookbebiacaeaa
end

section
/-
  Receipts: what is weaker, as the reference finds it.
-/
namespace Go.Proofs.Ytnookbebiacaeaa
open Go.Eng

theorem any_upto_succ {α : Type} (d : α) (p : α → Bool) (l : List α) (k : Nat) (h : k < l.length) : (l.take (k + 1)).any p = ((l.take k).any p || p (l.getD k d)) := by
  rw [List.take_succ_eq_append_getElem h, List.any_append]
  simp [List.getD, h]
theorem wkIns_no {old now : List Note} {b : Bool} {L : List Note} {n : Note} (h : isWk old now b n = false) : wkIns old now b L n = L := by
  unfold wkIns
  rw [if_neg (by rw [h]; decide)]
theorem wkIns_old {old now : List Note} {b : Bool} {L : List Note} {n : Note} (h2 : wk old b n ∈ L) : wkIns old now b L n = L := by
  unfold wkIns insN
  split
  · first
    | rw [if_pos h2]
    | rfl
  · rfl
theorem wkIns_new {old now : List Note} {b : Bool} {L : List Note} {n : Note} (h : isWk old now b n = true) (h2 : ¬ wk old b n ∈ L) : wkIns old now b L n = putN L (wk old b n) := by
  unfold wkIns insN
  rw [if_pos h, if_neg h2]
theorem putN_len (L : List Note) (x : Note) : (putN L x).length = L.length + 1 := by
  have := atTo_le L x L.length
  unfold putN
  rw [List.length_append, List.length_cons, List.length_take, List.length_drop]
  omega
theorem putN_get (L : List Note) (x : Note) (q : Nat) : (putN L x).getD q dN = if q < atTo L x L.length then L.getD q dN else if q = atTo L x L.length then x else L.getD (q - 1) dN := by
  have := atTo_le L x L.length
  unfold putN
  simp only [List.getD]
  by_cases h : q < atTo L x L.length
  · rw [if_pos h, List.getElem?_append_left (by rw [List.length_take]; omega), List.getElem?_take, if_pos h]
  · rw [if_neg h, List.getElem?_append_right (by rw [List.length_take]; omega), List.length_take]
    by_cases h2 : q = atTo L x L.length
    · rw [if_pos h2, show q - min (atTo L x L.length) L.length = 0 by omega]
      rfl
    · rw [if_neg h2, show q - min (atTo L x L.length) L.length = (q - atTo L x L.length - 1) + 1 by omega, List.getElem?_cons_succ, List.getElem?_drop, show atTo L x L.length + (q - atTo L x L.length - 1) = q - 1 by omega]
theorem put_row (f : Nat → List AV) (L : List Note) (x : Note) {M : List Note} (hM : M = putN L x) : AOEq (.row 24 5 M.length (rowsN M))
    (.row 24 5 (((atTo L x L.length : Nat) - (0 : Int)).toNat + 1 + (0 + ((L.length : Int) - (atTo L x L.length : Nat)).toNat))
      (catG (((atTo L x L.length : Nat) - (0 : Int)).toNat + 1) (catG ((atTo L x L.length : Nat) - (0 : Int)).toNat (fun q => rowsN L (Int.toNat 0 + q)) (rowOf 5 x.av)) (catG 0 f fun q => rowsN L (((atTo L x L.length : Nat) : Int).toNat + q)))) := by
  subst hM
  have hle := atTo_le L x L.length
  have hlen := putN_len L x
  have e1 : ((atTo L x L.length : Nat) - (0 : Int)).toNat = atTo L x L.length := by omega
  refine ⟨rfl, rfl, by rw [e1]; omega, fun q hq => ?_⟩
  rw [e1]
  unfold catG
  unfold rowsN
  rw [putN_get, Int.toNat_natCast]
  by_cases h1 : q < atTo L x L.length
  · rw [if_pos (by omega), if_pos h1, if_pos h1]
    show (L.getD (0 + q) dN).av = _
    rw [Nat.zero_add]
  · rw [if_neg h1]
    by_cases h2 : q = atTo L x L.length
    · rw [if_pos (by omega), if_neg h1, if_pos h2, show q - atTo L x L.length = 0 by omega]
      rfl
    · rw [if_neg (by omega), if_neg (Nat.not_lt_zero _), if_neg h1, if_neg h2]
      show (L.getD (atTo L x L.length + (q - (atTo L x L.length + 1) - 0)) dN).av = _
      rw [show atTo L x L.length + (q - (atTo L x L.length + 1) - 0) = q - 1 by omega]
set_option maxRecDepth 20000 in
set_option maxHeartbeats 8000000 in
theorem rWeaker_fn (old now : List Note) (ho : old.length ≤ 100000) (hn : now.length < 2 ^ 62) (b : Bool) : Ctr Try.prog 34 [.rs 5 old.length (rowsN old), .rs 5 now.length (rowsN now), .b b] [.row 24 5 (weakL old now b).length (rowsN (weakL old now b))] (.so 0) := by
  refine fn_of_exec tabOk Try.func34 (by kernel_rfl) rfl (N := Try.f34.ntmps) rfl (res := [.tmp 6]) rfl rfl [] ?_
  repeat refine Or.inl ?_
  refine ⟨[(7, 24, 5)], Nat, fun k => k ≤ old.length, fun k => [⟨8, [], .i .i64 k⟩, ⟨7, [], .so 0⟩], fun k => [⟨0, [], .row 24 5 (weakTo old now b k).length (rowsN (weakTo old now b k))⟩], fun k => old.length - k,
    ⟨0, [], Nat.zero_le _, rfl, rfl, rfl, rfl, rfl, ⟨⟨rfl, rfl⟩, rfl⟩, ⟨rfl, rfl, rfl, fun j hj => absurd hj (Nat.not_lt_zero j)⟩⟩, ?_⟩
  intro k hk
  have hk : k ≤ old.length := hk
  have hW := weakK old now b k hk
  have l1 := hW.len
  refine .inl ⟨fun hc => ?_, fun hc => ?_⟩
  · have hc := dlt hc
    have hc : (k : Int) < old.length := hc
    have ek : (k : Int).toNat = k := Int.toNat_natCast k
    have hst := weakTo_succ old now b (k := k) (by omega)
    have rw1 := rLow_fn old (by omega) b (old.getD (k : Int).toNat dN).m (old.getD (k : Int).toNat dN).w
    have rw2 := rLow_fn now hn b (old.getD (k : Int).toNat dN).m (old.getD (k : Int).toNat dN).w
    repeat refine Or.inl ?_
    refine ⟨⟨by omega, by omega⟩, ⟨by omega, by omega⟩, ?_⟩
    repeat refine Or.inl ?_
    refine ⟨[], _, rw1, ?_⟩
    repeat refine Or.inl ?_
    refine ⟨⟨by omega, by omega⟩, ?_⟩
    repeat refine Or.inl ?_
    refine ⟨[], _, fun _ => rw2, ?_⟩
    repeat refine Or.inl ?_
    refine ⟨fun h => ?_, fun h => ?_⟩
    · have h : ((old.getD (k : Int).toNat dN).n || decide (Low old b (old.getD (k : Int).toNat dN).m (old.getD (k : Int).toNat dN).w ≤ Low now b (old.getD (k : Int).toNat dN).m (old.getD (k : Int).toNat dN).w)) = true := h
      rw [ek] at h
      have hw : isWk old now b (old.getD k dN) = false := by
        unfold isWk
        rw [Bool.or_eq_true, decide_eq_true_eq] at h
        rcases h with h | h
        · rw [h]; rfl
        · rw [decide_eq_false (by omega), Bool.and_false]
      rw [wkIns_no hw] at hst
      refine ⟨k + 1, [], by dsimp only; omega, by dsimp only; omega, rfl, rfl, rfl, rfl, rfl, ⟨⟨rfl, wr (by omega) (by omega)⟩, rfl⟩, ?_⟩
      have ao2 : AOEq (.row 24 5 (weakTo old now b (k + 1)).length (rowsN (weakTo old now b (k + 1)))) (.row 24 5 (weakTo old now b k).length (rowsN (weakTo old now b k))) := by rw [hst]; exact AOEq.refl _
      exact ao2
    have h : ((old.getD (k : Int).toNat dN).n || decide (Low old b (old.getD (k : Int).toNat dN).m (old.getD (k : Int).toNat dN).w ≤ Low now b (old.getD (k : Int).toNat dN).m (old.getD (k : Int).toNat dN).w)) = false := h
    rw [ek] at h
    have hw : isWk old now b (old.getD k dN) = true := by
      unfold isWk
      rw [Bool.or_eq_false_iff, decide_eq_false_iff_not] at h
      rw [h.1, decide_eq_true (by omega)]
      rfl
    have hx : wk old b (old.getD k dN) = (wk old b (old.getD (k : Int).toNat dN)) := by rw [ek]
    repeat refine Or.inl ?_
    refine ⟨[], Nat, fun j => j ≤ (weakTo old now b k).length, fun j => [⟨12, [], .i .i64 j⟩, ⟨10, [], .i .i64 (atTo (weakTo old now b k) (wk old b (old.getD (k : Int).toNat dN)) j)⟩, ⟨11, [], .b (((weakTo old now b k).take j).any fun y => decide (y = (wk old b (old.getD (k : Int).toNat dN))))⟩], fun _ => [], fun j => (weakTo old now b k).length - j,
      ⟨0, [], Nat.zero_le _, rfl, rfl, rfl, rfl, rfl, ⟨⟨rfl, rfl⟩, ⟨rfl, rfl⟩, rfl⟩, trivial⟩, ?_⟩
    intro j hj
    have hj : j ≤ (weakTo old now b k).length := hj
    have hat := atTo_le (weakTo old now b k) (wk old b (old.getD (k : Int).toNat dN)) j
    refine .inl ⟨fun hc2 => ?_, fun hc2 => ?_⟩
    · have hc2 := dlt hc2
      have hc2 : (j : Int) < (weakTo old now b k).length := hc2
      have ej : (j : Int).toNat = j := Int.toNat_natCast j
      have hany : ((((weakTo old now b k).take j).any fun y => decide (y = (wk old b (old.getD (k : Int).toNat dN)))) || eqAVs ((weakTo old now b k).getD (j : Int).toNat dN).av (wk old b (old.getD (k : Int).toNat dN)).av) = (((weakTo old now b k).take (j + 1)).any fun y => decide (y = (wk old b (old.getD (k : Int).toNat dN)))) := by
        rw [any_upto_succ dN _ _ _ (by omega), ej, note_ne]
      repeat refine Or.inl ?_
      refine ⟨⟨by omega, by omega⟩, by omega, fun _ => ⟨by omega, by omega⟩, fun _ => by omega, fun _ => ⟨by omega, by omega⟩, fun _ => by omega, ?_⟩
      repeat refine Or.inl ?_
      refine ⟨fun h2 => ?_, fun h2 => ?_⟩
      · have h2 : (decide (((weakTo old now b k).getD (j : Int).toNat dN).m < (old.getD (k : Int).toNat dN).m) || ((((weakTo old now b k).getD (j : Int).toNat dN).m == (old.getD (k : Int).toNat dN).m) && decide (((weakTo old now b k).getD (j : Int).toNat dN).w < (old.getD (k : Int).toNat dN).w))) = true := h2
        rw [ej, Bool.or_eq_true, Bool.and_eq_true, decide_eq_true_eq, decide_eq_true_eq, beq_iff_eq] at h2
        have hat1 : atTo (weakTo old now b k) (wk old b (old.getD (k : Int).toNat dN)) (j + 1) = j + 1 := if_pos (ltN_iff.2 h2)
        have e10 : IntKind.i64.wrap ((j : Int) + 1) = ((atTo (weakTo old now b k) (wk old b (old.getD (k : Int).toNat dN)) (j + 1) : Nat) : Int) := by rw [hat1]; exact wr (by omega) (by omega)
        repeat refine Or.inl ?_
        refine ⟨fun _ => ⟨by omega, by omega⟩, fun _ => by omega, ?_⟩
        exact ⟨j + 1, [], by dsimp only; omega, by dsimp only; omega, rfl, rfl, rfl, rfl, rfl, ⟨⟨rfl, wr (by omega) (by omega)⟩, ⟨rfl, e10⟩, hany⟩, trivial⟩
      · have h2 : (decide (((weakTo old now b k).getD (j : Int).toNat dN).m < (old.getD (k : Int).toNat dN).m) || ((((weakTo old now b k).getD (j : Int).toNat dN).m == (old.getD (k : Int).toNat dN).m) && decide (((weakTo old now b k).getD (j : Int).toNat dN).w < (old.getD (k : Int).toNat dN).w))) = false := h2
        rw [ej, ← Bool.not_eq_true, Bool.or_eq_true, Bool.and_eq_true, decide_eq_true_eq, decide_eq_true_eq, beq_iff_eq] at h2
        have hat1 : atTo (weakTo old now b k) (wk old b (old.getD (k : Int).toNat dN)) (j + 1) = atTo (weakTo old now b k) (wk old b (old.getD (k : Int).toNat dN)) j := if_neg fun h => h2 (ltN_iff.1 h)
        have e10 : ((atTo (weakTo old now b k) (wk old b (old.getD (k : Int).toNat dN)) j : Nat) : Int) = ((atTo (weakTo old now b k) (wk old b (old.getD (k : Int).toNat dN)) (j + 1) : Nat) : Int) := by rw [hat1]
        repeat refine Or.inl ?_
        refine ⟨fun _ => ⟨by omega, by omega⟩, fun _ => by omega, ?_⟩
        exact ⟨j + 1, [], by dsimp only; omega, by dsimp only; omega, rfl, rfl, rfl, rfl, rfl, ⟨⟨rfl, wr (by omega) (by omega)⟩, ⟨rfl, e10⟩, hany⟩, trivial⟩
    · have hc2 := dnlt hc2
      have hc2 : ((weakTo old now b k).length : Int) ≤ j := hc2
      obtain rfl : j = (weakTo old now b k).length := by omega
      repeat refine Or.inl ?_
      refine ⟨fun h2 => ?_, fun h2 => ?_⟩
      · have h2 : (!(((weakTo old now b k).take (weakTo old now b k).length).any fun y => decide (y = (wk old b (old.getD (k : Int).toNat dN))))) = true := h2
        rw [List.take_length, Bool.not_eq_true'] at h2
        have hm : ¬ wk old b (old.getD k dN) ∈ (weakTo old now b k) := fun h => by
          rw [hx] at h
          have : ((weakTo old now b k).any fun y => decide (y = (wk old b (old.getD (k : Int).toNat dN)))) = true := List.any_eq_true.2 ⟨_, h, decide_eq_true rfl⟩
          rw [h2] at this
          cases this
        rw [wkIns_new hw hm, hx] at hst
        have hlen := putN_len (weakTo old now b k) (wk old b (old.getD (k : Int).toNat dN))
        repeat refine Or.inl ?_
        refine ⟨⟨by omega, by omega, by omega⟩, fits (by omega), ?_⟩
        repeat refine Or.inl ?_
        refine ⟨⟨by omega, by omega, by omega⟩, fits (by omega), fits (by omega), ?_⟩
        refine ⟨k + 1, [(0, 6)], by dsimp only; omega, by dsimp only; omega, rfl, rfl, rfl, rfl, rfl, ⟨⟨rfl, wr (by omega) (by omega)⟩, rfl⟩, ?_⟩
        exact put_row _ _ _ hst
      · have h2 : (!(((weakTo old now b k).take (weakTo old now b k).length).any fun y => decide (y = (wk old b (old.getD (k : Int).toNat dN))))) = false := h2
        rw [List.take_length, Bool.not_eq_false', List.any_eq_true] at h2
        obtain ⟨y, hy, e⟩ := h2
        have hm : wk old b (old.getD k dN) ∈ (weakTo old now b k) := by rw [hx, ← of_decide_eq_true e]; exact hy
        rw [wkIns_old hm] at hst
        refine ⟨k + 1, [], by dsimp only; omega, by dsimp only; omega, rfl, rfl, rfl, rfl, rfl, ⟨⟨rfl, wr (by omega) (by omega)⟩, rfl⟩, ?_⟩
        have ao2 : AOEq (.row 24 5 (weakTo old now b (k + 1)).length (rowsN (weakTo old now b (k + 1)))) (.row 24 5 (weakTo old now b k).length (rowsN (weakTo old now b k))) := by rw [hst]; exact AOEq.refl _
        exact ao2
  · have hc := dnlt hc
    have hc : (old.length : Int) ≤ k := hc
    obtain rfl : k = old.length := by omega
    exact RetIs.so rfl rfl (fun _ _ => rfl) (fresh_rowsN _)
end Go.Proofs.Ytnookbebiacaeaa
end

section
/-
  Receipts: the examples of the documentation; reasons, forwarding.
-/
namespace Go.Proofs.Ytnookbebiacaeaa
open Go.Eng

def exS : List Note := [⟨4, 7, 2, 9, false⟩, ⟨5, 7, 3, 9, false⟩, ⟨4, 7, 4, 9, true⟩]
theorem three {p : Nat → Prop} (h0 : p 0) (h1 : p 1) (h2 : p 2) : ∀ k, k < 3 → p k := by
  intro k hk
  match k with
  | 0 => exact h0
  | 1 => exact h1
  | 2 => exact h2
  | k + 3 => omega
theorem one {p : Nat → Prop} (h0 : p 0) : ∀ k, k < 1 → p k := by
  intro k hk
  match k with
  | 0 => exact h0
  | k + 1 => omega
set_option maxRecDepth 20000 in
theorem someN_fn : Ctr Try.prog 99 [] [.row 24 5 exS.length (rowsN exS)] (.so 0) := by
  refine fn_of_exec tabOk Try.func99 (by kernel_rfl) rfl (N := Try.f99.ntmps) rfl (res := [.tmp 0]) rfl rfl [] ?_
  exact RetIs.so rfl rfl (three rfl rfl rfl) (fun _ _ => rfl)
def exW : List Note := [⟨4, 7, 3, 0, false⟩, ⟨5, 7, 3, 0, false⟩]
theorem exS1 : addY exS ⟨4, 7, 4, 0, false⟩ false = ([], 17) := by decide +kernel
theorem exS2 : withY exS 1 = ([⟨4, 7, 2, 9, false⟩, ⟨4, 7, 4, 9, true⟩], 0) := by decide +kernel
theorem exS3 : weakL exS [⟨4, 7, 2, 9, false⟩, ⟨4, 7, 4, 9, true⟩] true = exW := by decide +kernel
theorem exS4 : reasonL exS false 4 7 = [0] := by decide +kernel
theorem exS5 : reasonL exS true 4 7 = [1] := by decide +kernel
def prof1 : Prof := ⟨⟨#[]⟩, 0, 0, 0, false, 0, false, false, 0, 0, 0, 0, 0, fun _ => [], 0, 0, 0, 1, false, 0, 0, 0, 0⟩
abbrev prof1A : AV := .ag [.s ⟨#[]⟩, .i .i64 0, .i .i64 0, .i .i64 0, .b false, .i .i64 0, .b false, .b false, .i .i64 0, .i .i64 0, .i .i64 0, .i .i64 0, .val (.slice none 0 0), .i .i64 0, .i .i64 0, .i .i64 0, .i .i64 1, .b false, .i .i64 0, .i .i64 0, .i .i64 0, .i .i64 0]
theorem prof1_w : AVW (.ag prof1.av) prof1A :=
  AVW.ag ⟨AVW.refl _, AVW.refl _, AVW.refl _, AVW.refl _, AVW.refl _, AVW.refl _, AVW.refl _, AVW.refl _, AVW.refl _, AVW.refl _, AVW.refl _, AVW.refl _, AVW.nil _ _, AVW.refl _, AVW.refl _, AVW.refl _, AVW.refl _, AVW.refl _, AVW.refl _, AVW.refl _, AVW.refl _, AVW.refl _, trivial⟩
theorem Forward1_fn (n : Note) : Ctr Try.prog 28 [prof1A, .ag n.av] [] (.ag (forward 1 n).av) := Ctr.of_w (args := [.ag prof1.av, .ag n.av]) ⟨prof1_w, AVW.refl _, trivial⟩ (Forward_fn prof1 n)
theorem ints1_fn (a : List Int) (ha : a.length < 2 ^ 62) (x : Int) : Ctr Try.prog 30 [.rs 1 a.length (rowsI a), .rs 1 1 (rowOf 1 [.i .i64 x])] [] (.b (decide (a = [x]))) :=
  Ctr.of_eq (args := [.rs 1 a.length (rowsI a), .rs 1 [x].length (rowsI [x])]) ⟨AVEq.refl _, rfl, rfl, one rfl⟩ (ints_fn a [x] ha (show 1 < 2 ^ 62 by decide))
theorem sameW_fn : Ctr Try.prog 27 [.rs 5 exW.length (rowsN exW), .rs 5 2 (rowOf 5 [.i .i64 4, .i .i64 7, .i .i64 3, .i .i64 0, .b false, .i .i64 5, .i .i64 7, .i .i64 3, .i .i64 0, .b false])] [] (.b true) :=
  Ctr.of_eq (args := [.rs 5 exW.length (rowsN exW), .rs 5 exW.length (rowsN exW)]) ⟨AVEq.refl _, rfl, rfl, two rfl rfl⟩ (by
    have := sameN_fn exW exW (by decide) (by decide)
    rwa [decide_eq_true rfl] at this)
set_option maxRecDepth 20000 in
set_option maxHeartbeats 8000000 in
theorem smallN_fn : Ctr Try.prog 22 [] [] (.b true) := by
  have h1 := Add_fn exS (by decide) ⟨4, 7, 4, 0, false⟩ false
  rw [exS1] at h1
  have h2 := Withdraw_fn exS (by decide) 1
  rw [exS2] at h2
  have h3 := Weaker_fn exS [⟨4, 7, 2, 9, false⟩, ⟨4, 7, 4, 9, true⟩] (by decide) (by decide) true
  rw [exS3] at h3
  have h4 := Reason_fn exS (by decide) false 4 7
  rw [exS4] at h4
  have h5 := Reason_fn exS (by decide) true 4 7
  rw [exS5] at h5
  refine fn_of_exec tabOk Try.func22 (by kernel_rfl) rfl (N := Try.f22.ntmps) rfl (res := [.tmp 0]) rfl rfl [] ?_
  repeat refine Or.inl ?_
  refine ⟨_, _, someN_fn, ?_⟩
  repeat refine Or.inl ?_
  refine ⟨_, _, h1, ?_⟩
  repeat refine Or.inl ?_
  refine ⟨_, _, h2, ?_⟩
  repeat refine Or.inl ?_
  refine ⟨_, _, h3, ?_⟩
  repeat refine Or.inl ?_
  refine ⟨_, _, h4, ?_⟩
  repeat refine Or.inl ?_
  refine ⟨[], _, ints1_fn [0] (by decide) 0, ?_⟩
  repeat refine Or.inl ?_
  refine ⟨_, _, fun _ => h5, ?_⟩
  repeat refine Or.inl ?_
  refine ⟨[], _, fun _ => ints1_fn [1] (by decide) 1, ?_⟩
  repeat refine Or.inl ?_
  refine ⟨[], _, sameW_fn, ?_⟩
  repeat refine Or.inl ?_
  refine ⟨fun _ => ⟨by decide, by decide⟩, fun _ => by decide, ?_⟩
  repeat refine Or.inl ?_
  refine ⟨[], _, fun _ => Forward1_fn ⟨5, 7, 3, 9, false⟩, ?_⟩
  repeat refine Or.inl ?_
  refine ⟨fun _ => ⟨by decide, by decide⟩, fun _ => by decide, ?_⟩
  repeat refine Or.inl ?_
  refine ⟨[], _, fun _ => Forward1_fn ⟨4, 7, 4, 9, true⟩, ?_⟩
  refine RetIs.b ?_
  decide +kernel
end Go.Proofs.Ytnookbebiacaeaa
end

section
/-
  Receipts: ReceiptReason, ReceiptForward.
-/
namespace Go.Proofs.Ytnookbebiacaeaa
open Go.Eng

end Go.Proofs.Ytnookbebiacaeaa
end

section
/-
  Receipts: ReceiptTells, ReceiptWeaker, ReceiptAdds.
-/
namespace Go.Proofs.Ytnookbebiacaeaa
open Go.Eng

theorem addY_len (l : List Note) (n : Note) (b : Bool) : (addY l n b).1.length ≤ l.length + 1 := by
  unfold addY
  split
  · exact Nat.zero_le _
  · split
    · exact Nat.zero_le _
    · split
      · exact Nat.zero_le _
      · simp
theorem lessN_le (l : List Note) (k : Nat) : (lessN l k).length ≤ l.length := by
  unfold lessN
  rw [List.length_append, List.length_take, List.length_drop]
  omega
theorem withY_len (l : List Note) (i : Int) : (withY l i).1.length ≤ l.length := by
  unfold withY
  split
  · exact Nat.zero_le _
  · exact lessN_le _ _
theorem reasonL_len (l : List Note) (b : Bool) (m w : Int) : (reasonL l b m w).length ≤ 1 := by
  unfold reasonL
  split
  · exact Nat.zero_le _
  · split <;> simp
theorem Low_nonneg (l : List Note) (b : Bool) (m w : Int) : 0 ≤ Low l b m w := by
  unfold Low
  split
  · exact ((low_le b m w _ l).1 (Int.le_refl _)).1
  · exact Int.le_refl _
theorem same_self (a : List Note) (ha : a.length < 2 ^ 62) : Ctr Try.prog 27 [.rs 5 a.length (rowsN a), .rs 5 a.length (rowsN a)] [] (.b true) := by
  have := sameN_fn a a ha ha
  rwa [decide_eq_true rfl] at this
theorem ints_self (a : List Int) (ha : a.length < 2 ^ 62) : Ctr Try.prog 30 [.rs 1 a.length (rowsI a), .rs 1 a.length (rowsI a)] [] (.b true) := by
  have := ints_fn a a ha ha
  rwa [decide_eq_true rfl] at this
set_option maxRecDepth 20000 in
set_option maxHeartbeats 8000000 in
theorem receiptTells_fn (l now : List Note) (n : Note) (b : Bool) (m w i : Int) (p : Prof) : Ctr Try.prog 3 [.rs 5 l.length (rowsN l), .rs 5 now.length (rowsN now), .ag n.av, .b b, .i .i64 m, .i .i64 w, .i .i64 i, .ag p.av] [] (.b true) := by
  refine fn_of_exec tabOk Try.func3 (by kernel_rfl) rfl (N := Try.f3.ntmps) rfl (res := [.tmp 16]) rfl rfl [] ?_
  repeat refine Or.inl ?_
  refine ⟨[], _, smallN_fn, ?_⟩
  repeat refine Or.inl ?_
  refine ⟨fun _ => RetIs.b rfl, fun h => ?_⟩
  have h : (decide ((l.length : Int) > 14) || decide ((now.length : Int) > 14)) = false := h
  rw [Bool.or_eq_false_iff, decide_eq_false_iff_not, decide_eq_false_iff_not] at h
  obtain ⟨h1, h2⟩ := h
  have a1 := addY_len l n b
  have a2 := withY_len l i
  have a3 := weakL_len l now b
  have a4 := reasonL_len l b m w
  repeat refine Or.inl ?_
  refine ⟨_, _, Add_fn l (by omega) n b, ?_⟩
  repeat refine Or.inl ?_
  refine ⟨_, _, rAdd_fn l (by omega) n b, ?_⟩
  repeat refine Or.inl ?_
  refine ⟨_, _, Withdraw_fn l (by omega) i, ?_⟩
  repeat refine Or.inl ?_
  refine ⟨_, _, rWithdraw_fn l (by omega) i, ?_⟩
  repeat refine Or.inl ?_
  refine ⟨[], _, fun _ => same_self (addY l n b).1 (by omega), ?_⟩
  repeat refine Or.inl ?_
  refine ⟨[], _, fun _ => same_self (withY l i).1 (by omega), ?_⟩
  repeat refine Or.inl ?_
  refine ⟨[], _, fun _ => Forward_fn p n, ?_⟩
  repeat refine Or.inl ?_
  refine ⟨[], _, fun _ => rForward_fn p n, ?_⟩
  repeat refine Or.inl ?_
  refine ⟨_, _, fun _ => Reason_fn l (by omega) b m w, ?_⟩
  repeat refine Or.inl ?_
  refine ⟨_, _, fun _ => rReason_fn l (by omega) b m w (Low_nonneg l b m w), ?_⟩
  repeat refine Or.inl ?_
  refine ⟨[], _, fun _ => ints_self (reasonL l b m w) (by omega), ?_⟩
  repeat refine Or.inl ?_
  refine ⟨_, _, fun _ => Weaker_fn l now (by omega) (by omega) b, ?_⟩
  repeat refine Or.inl ?_
  refine ⟨_, _, fun _ => rWeaker_fn l now (by omega) (by omega) b, ?_⟩
  repeat refine Or.inl ?_
  refine ⟨[], _, fun _ => same_self (weakL l now b) (by omega), ?_⟩
  refine RetIs.b ?_
  show (((true && ((((((addY l n b).2 == (addY l n b).2) && true) && ((withY l i).2 == (withY l i).2)) && true) && eqAVs (forward p.lv n).av (forward p.lv n).av)) && true) && true) = true
  rw [beq_self_eq_true, beq_self_eq_true, note_ne, decide_eq_true rfl]
  rfl

end Go.Proofs.Ytnookbebiacaeaa
end
