/-
  Several texts in one: Y9.
-/
import Derived.Test.YtilhaifmfiobhaaMg17

section
/-
  ClaimMore.
-/
namespace Go.Proofs.Ytilhaifmfiobhaa
open Go.Eng

theorem getD_dropP (P : List Pf) (b q : Nat) : (P.drop b).getD q dPf = P.getD (b + q) dPf := by
  simp only [List.getD]
  rw [List.getElem?_drop]
theorem takeP_row (P : List Pf) {b : Nat} (hb : b ≤ P.length) : AVEq (.rs 3 (P.take b).length (rowsP (P.take b))) (.rs 3 ((b : Int) - 0).toNat (fun q => rowsP P (Int.toNat 0 + q))) := by
  refine ⟨rfl, by rw [List.length_take]; omega, fun q hq => ?_⟩
  have hq : q < (P.take b).length := hq
  rw [List.length_take] at hq
  show rowsP P (0 + q) = rowsP (P.take b) q
  unfold rowsP
  rw [Nat.zero_add]
  simp only [List.getD]
  rw [List.getElem?_take_of_lt (by omega)]
theorem turnP_row (P : List Pf) {b : Nat} (hb : b ≤ P.length) (f : Nat → List AV) : AVEq (.rs 3 (P.drop b ++ P.take b).length (rowsP (P.drop b ++ P.take b)))
    (.rs 3 (0 + ((P.length : Int) - b).toNat + ((b : Int) - 0).toNat) (catG (0 + ((P.length : Int) - b).toNat) (catG 0 f (fun q => rowsP P ((b : Int).toNat + q))) (fun q => rowsP P (Int.toNat 0 + q)))) := by
  have hd : (P.drop b).length = P.length - b := List.length_drop
  have ht : (P.take b).length = b := by rw [List.length_take]; omega
  refine ⟨rfl, by rw [List.length_append, hd, ht]; omega, fun q hq => ?_⟩
  have hq : q < (P.drop b ++ P.take b).length := hq
  rw [List.length_append, hd, ht] at hq
  have hn : 0 + ((P.length : Int) - b).toNat = P.length - b := by omega
  rw [hn]
  show catG (P.length - b) _ _ q = rowsP (P.drop b ++ P.take b) q
  unfold catG rowsP
  by_cases h : q < P.length - b
  · rw [if_pos h, if_neg (Nat.not_lt_zero q), Nat.sub_zero, Int.toNat_natCast]
    show (P.getD (b + q) dPf).av = _
    rw [← getD_dropP]
    simp only [List.getD]
    rw [List.getElem?_append_left (by omega)]
  · rw [if_neg h]
    simp only [List.getD]
    rw [List.getElem?_append_right (by omega), hd, List.getElem?_take_of_lt (by omega)]
    show (P[0 + (q - (P.length - b))]?.getD dPf).av = _
    rw [Nat.zero_add]

set_option maxRecDepth 20000 in
set_option maxHeartbeats 8000000 in
theorem claimMore_fn (C : List Cm) (P : List Pf) (by_ : Int) : Ctr Try.prog 9 [.rs 2 C.length (rowsM C), .rs 3 P.length (rowsP P), .i .i64 by_] [] (.b true) := by
  refine fn_of_exec tabOk Try.func9 (by kernel_rfl) rfl (N := Try.f9.ntmps) rfl (res := [.tmp 6]) rfl rfl [] ?_
  repeat refine Or.inl ?_
  refine ⟨[], _, smallC_fn, ?_⟩
  repeat refine Or.inl ?_
  refine ⟨[], _, few_fn C P 10 14, ?_⟩
  repeat refine Or.inl ?_
  refine ⟨[], _, fun hg => ClaimRight_fn C P (by have := few_false hg.1; omega) (by have := few_false hg.1; omega), ?_⟩
  repeat refine Or.inl ?_
  refine ⟨fun _ => RetIs.b rfl, fun h => ?_⟩
  have h : (((!(decide ((C.length : Int) ≤ 10) && decide ((P.length : Int) ≤ 14)) || !rightCP C P) || decide (by_ < 0)) || decide (by_ > P.length)) = false := h
  rw [Bool.or_eq_false_iff, Bool.or_eq_false_iff, Bool.or_eq_false_iff, decide_eq_false_iff_not, decide_eq_false_iff_not, Bool.not_eq_false' (b := rightCP C P)] at h
  obtain ⟨⟨⟨hfew, hr⟩, hb0⟩, hb1⟩ := h
  obtain ⟨hC, hP⟩ := few_false hfew
  have hR := rightCP_iff.1 hr
  obtain ⟨b, rfl⟩ := Int.eq_ofNat_of_zero_le (show 0 ≤ by_ by omega)
  have hb : b ≤ P.length := by omega
  have hok := ok_small hR (by omega)
  have hd : (P.drop b).length = P.length - b := List.length_drop
  have ht : (P.take b).length = b := by rw [List.length_take]; omega
  have hR1 : RightCP C (P.take b) := right_sub hR (fun p hp => List.mem_of_mem_take hp) (by omega)
  have hR2 : RightCP C (P.drop b ++ P.take b) := right_sub hR (fun p hp => (List.mem_append.1 hp).elim List.mem_of_mem_drop List.mem_of_mem_take) (by rw [List.length_append]; omega)
  have hok1 := ok_small hR1 (by omega)
  have hok2 := ok_small hR2 (by omega)
  have hmem : ∀ p ∈ P, p ∈ P.drop b ++ P.take b := fun p hp => by
    rw [← List.take_append_drop b P] at hp
    exact List.mem_append.2 ((List.mem_append.1 hp).symm)
  have f0 := Conflict_fn C P (by omega) (by omega)
  have f1 := Ctr.of_eq (args := [.rs 2 C.length (rowsM C), .rs 3 (P.take b).length (rowsP (P.take b))]) (args' := [.rs 2 C.length (rowsM C), .rs 3 ((b : Int) - 0).toNat (fun q => rowsP P (Int.toNat 0 + q))]) ⟨AVEq.refl _, takeP_row P hb⟩ (Conflict_fn C (P.take b) (by omega) (by omega))
  have f2 : ∀ f, Ctr Try.prog 44 [.rs 2 C.length (rowsM C), .rs 3 (0 + ((P.length : Int) - b).toNat + ((b : Int) - 0).toNat) (catG (0 + ((P.length : Int) - b).toNat) (catG 0 f (fun q => rowsP P ((b : Int).toNat + q))) (fun q => rowsP P (Int.toNat 0 + q)))] (pathO (conflictY C (P.drop b ++ P.take b))) (pathV (conflictY C (P.drop b ++ P.take b))) :=
    fun f => Ctr.of_eq (args := [.rs 2 C.length (rowsM C), .rs 3 (P.drop b ++ P.take b).length (rowsP (P.drop b ++ P.take b))]) ⟨AVEq.refl _, turnP_row P hb f⟩ (Conflict_fn C (P.drop b ++ P.take b) (by omega) (by rw [List.length_append]; omega))
  have hokn : okCP C [] = true := ok_small (right_sub hR (fun p hp => by simp at hp) (by simp)) (by omega)
  have en : conflictY C [] = none := (conY_none hokn).2 (by
    rw [has_all hokn]
    have := unsC_nil C []
    show (!unsC C [] []) = true
    simpa using this)
  have f4n := Conflict_fn C [] (by omega) (by decide)
  rw [en] at f4n
  have f4 : Ctr Try.prog 44 [.rs 2 C.length (rowsM C), .val (.slice none 0 0)] [] (.val (.slice none 0 0)) := Ctr.of_eq (args := [.rs 2 C.length (rowsM C), .rs 3 0 (rowsP [])]) ⟨AVEq.refl _, ⟨rfl, rfl⟩⟩ f4n
  cases e0 : conflictY C P with
  | none =>
    have hw := (conY_none hok).1 e0
    have e1 : conflictY C (P.take b) = none := (conY_none hok1).2 (has_sub (fun p hp => List.mem_of_mem_take hp) hok1 hw)
    have e2 : conflictY C (P.drop b ++ P.take b) = none := (conY_none hok2).2 (has_sub (fun p hp => (List.mem_append.1 hp).elim List.mem_of_mem_drop List.mem_of_mem_take) hok2 hw)
    rw [e0] at f0
    rw [e1] at f1
    rw [e2] at f2
    have c0 : Ctr Try.prog 46 [.rs 3 P.length (rowsP P), .val (.slice none 0 0), .i .i64 (-1)] [.row 55 3 0 (rowsP [])] (.so 0) :=
      Ctr.of_eq (args := [.rs 3 P.length (rowsP P), .rs 1 0 (rowsI []), .i .i64 (-1)]) ⟨AVEq.refl _, ⟨rfl, rfl⟩, AVEq.refl _⟩ (Chosen_fn P (by omega) [] (by decide) (by simp) (-1))
    have f3 : Ctr Try.prog 44 [.rs 2 C.length (rowsM C), .rs 3 0 (rowsP [])] [] (.val (.slice none 0 0)) := f4n
    have i1 : Ctr Try.prog 43 [.val (.slice none 0 0), .rs 1 0 (rowsI [])] [] (.b true) := Ctr.of_eq (args := [.rs 1 0 (rowsI []), .rs 1 0 (rowsI [])]) ⟨⟨rfl, rfl⟩, AVEq.refl _⟩ (ints43_same [] (by decide))
    have i2 := ints43_nil
    repeat refine Or.inl ?_
    refine ⟨_, _, f0, ?_⟩
    repeat refine Or.inl ?_
    refine ⟨⟨by omega, by omega, by omega⟩, ?_⟩
    repeat refine Or.inl ?_
    refine ⟨_, _, f1, ?_⟩
    repeat refine Or.inl ?_
    refine ⟨⟨by omega, by omega, by omega⟩, fits (by omega), ⟨by omega, by omega, by omega⟩, fits (by omega), ?_⟩
    repeat refine Or.inl ?_
    refine ⟨_, _, f2 _, ?_⟩
    repeat refine Or.inl ?_
    refine ⟨fun h => ?_, fun _ => ?_⟩
    · cases h
    repeat refine Or.inl ?_
    refine ⟨[], Nat, fun k => k = 0, fun k => [⟨11, [], .i .i64 k⟩], fun _ => [], fun k => 0, ⟨0, [], rfl, rfl, rfl, rfl, rfl, rfl, ⟨rfl, rfl⟩, trivial⟩, ?_⟩
    rintro k (rfl : k = 0)
    refine .inl ⟨fun hc => absurd (dlt hc) (by decide), fun _ => ?_⟩
    repeat refine Or.inl ?_
    refine ⟨_, _, c0, ?_⟩
    repeat refine Or.inl ?_
    refine ⟨_, _, f3, ?_⟩
    repeat refine Or.inl ?_
    refine ⟨[(13, 3, 1)], Nat, fun k => k = 0, fun k => [⟨14, [], .i .i64 k⟩, ⟨13, [], .so 4⟩], fun _ => [⟨4, [], .row 3 1 0 (rowsI [])⟩], fun k => 0, ⟨0, [], rfl, rfl, rfl, rfl, rfl, rfl, ⟨⟨rfl, rfl⟩, rfl⟩, ⟨rfl, rfl, rfl, fun j hj => absurd hj (Nat.not_lt_zero j)⟩⟩, ?_⟩
    rintro k (rfl : k = 0)
    refine .inl ⟨fun hc => absurd (dlt hc) (by decide), fun _ => ?_⟩
    repeat refine Or.inl ?_
    refine ⟨[], _, fun _ => i1, ?_⟩
    repeat refine Or.inl ?_
    refine ⟨_, _, fun _ => f4, ?_⟩
    repeat refine Or.inl ?_
    refine ⟨[], _, fun _ => i2, ?_⟩
    exact RetIs.b rfl
  | some l =>
    obtain ⟨hn, hS, _⟩ := conY_some hok e0
    have hlen := confS_len hS
    have hne : 0 < l.length := List.length_pos_iff.2 (confS_ne hS)
    have hz : ((l.length : Int) == 0) = false := by rw [beq_eq_false_iff_ne]; omega
    have e3 := con_again hok hS
    have hch : chosenL P l (-1) = pickP P l := by
      unfold chosenL
      rw [without_out]
      intro hm
      have := hS.rng _ hm
      omega
    have c0 := Chosen_fn P (by omega) l (by omega) hS.rng (-1)
    rw [hch] at c0
    have hpl : (pickP P l).length = l.length := by simp [pickP]
    have f3 := Conflict_fn C (pickP P l) (by omega) (by omega)
    rw [e3] at f3
    have hal := allI_len l.length
    have i1 := ints43_same (allI l.length) (by omega)
    rw [e0] at f0
    cases e2 : conflictY C (P.drop b ++ P.take b) with
    | none =>
      have hw := has_sub hmem hok ((conY_none hok2).1 e2)
      rw [hn] at hw
      cases hw
    | some l2 =>
      obtain ⟨_, hS2, _⟩ := conY_some hok2 e2
      have hne2 : 0 < l2.length := List.length_pos_iff.2 (confS_ne hS2)
      have hz2 : ((l2.length : Int) == 0) = false := by rw [beq_eq_false_iff_ne]; omega
      rw [e2] at f2
      cases e1 : conflictY C (P.take b) with
      | none =>
        rw [e1] at f1
        have i2 : Ctr Try.prog 43 [.val (.slice none 0 0), .rs 1 l.length (rowsI l)] [] (.b (decide ([] = l))) := Ctr.of_eq (args := [.rs 1 0 (rowsI []), .rs 1 l.length (rowsI l)]) ⟨⟨rfl, rfl⟩, AVEq.refl _⟩ (ints43_fn [] l (by decide) (by omega))
        repeat refine Or.inl ?_
        refine ⟨_, _, f0, ?_⟩
        repeat refine Or.inl ?_
        refine ⟨⟨by omega, by omega, by omega⟩, ?_⟩
        repeat refine Or.inl ?_
        refine ⟨_, _, f1, ?_⟩
        repeat refine Or.inl ?_
        refine ⟨⟨by omega, by omega, by omega⟩, fits (by omega), ⟨by omega, by omega, by omega⟩, fits (by omega), ?_⟩
        repeat refine Or.inl ?_
        refine ⟨_, _, f2 _, ?_⟩
        repeat refine Or.inl ?_
        refine ⟨fun h => ?_, fun _ => ?_⟩
        · have h : ((decide ((0 : Int) > 0) && ((l.length : Int) == 0)) || (((l2.length : Int) == 0) != ((l.length : Int) == 0))) = true := h
          rw [hz, hz2] at h
          cases h
        repeat refine Or.inl ?_
        refine ⟨[], Nat, fun k => k ≤ l.length, fun k => [⟨11, [], .i .i64 k⟩], fun _ => [], fun k => l.length - k, ⟨0, [], Nat.zero_le _, rfl, rfl, rfl, rfl, rfl, ⟨rfl, rfl⟩, trivial⟩, ?_⟩
        intro k hk
        refine .inl ⟨fun hc => ?_, fun _ => ?_⟩
        · have hc := dlt hc
          have hc : (k : Int) < l.length := hc
          have hx := hS.rng _ (getD_memX (l := l) (k := (k : Int).toNat) (by omega))
          repeat refine Or.inl ?_
          refine ⟨⟨by omega, by omega⟩, by omega, fun _ => ⟨by omega, by omega⟩, fun _ => by omega, ⟨fun h => ?_, fun _ => ?_⟩⟩
          · have h : (decide (l.getD (k : Int).toNat 0 < 0) || decide (l.getD (k : Int).toNat 0 ≥ P.length)) = true := h
            simp only [Bool.or_eq_true, decide_eq_true_eq] at h
            omega
          · exact ⟨k + 1, [], by omega, by dsimp only; omega, rfl, rfl, rfl, rfl, rfl, ⟨rfl, wr (by omega) (by omega)⟩, trivial⟩
        repeat refine Or.inl ?_
        refine ⟨_, _, c0, ?_⟩
        repeat refine Or.inl ?_
        refine ⟨_, _, f3, ?_⟩
        repeat refine Or.inl ?_
        refine ⟨[(13, 3, 1)], Nat, fun k => k ≤ l.length, fun k => [⟨14, [], .i .i64 k⟩, ⟨13, [], .so 7⟩], fun k => [⟨7, [], .row 3 1 (allI k).length (rowsI (allI k))⟩], fun k => l.length - k, ⟨0, [], Nat.zero_le _, rfl, rfl, rfl, rfl, rfl, ⟨⟨rfl, rfl⟩, rfl⟩, ⟨rfl, rfl, rfl, fun j hj => absurd hj (Nat.not_lt_zero j)⟩⟩, ?_⟩
        intro k hk
        have hk : k ≤ l.length := hk
        have halk := allI_len k
        refine .inl ⟨fun hc => ?_, fun hc => ?_⟩
        · have hc := dlt hc
          have hc : (k : Int) < l.length := hc
          repeat refine Or.inl ?_
          refine ⟨fits (by omega), ?_⟩
          exact ⟨k + 1, [(7, 9)], by dsimp only; omega, by dsimp only; omega, rfl, rfl, rfl, rfl, rfl, ⟨⟨rfl, wr (by omega) (by omega)⟩, rfl⟩, snocZ_row _ _ (allI_succ k)⟩
        have hc := dnlt hc
        have hc : (l.length : Int) ≤ k := hc
        obtain rfl : k = l.length := by omega
        repeat refine Or.inl ?_
        refine ⟨[], _, fun _ => i1, ?_⟩
        repeat refine Or.inl ?_
        refine ⟨_, _, fun _ => f4, ?_⟩
        repeat refine Or.inl ?_
        refine ⟨[], _, fun _ => i2, ?_⟩
        exact RetIs.b rfl
      | some l1 =>
        have := con_first hok hb hok1 e1
        rw [e0] at this
        obtain rfl := Option.some.inj this
        rw [e1] at f1
        have i2 := ints43_same l (by omega)
        repeat refine Or.inl ?_
        refine ⟨_, _, f0, ?_⟩
        repeat refine Or.inl ?_
        refine ⟨⟨by omega, by omega, by omega⟩, ?_⟩
        repeat refine Or.inl ?_
        refine ⟨_, _, f1, ?_⟩
        repeat refine Or.inl ?_
        refine ⟨⟨by omega, by omega, by omega⟩, fits (by omega), ⟨by omega, by omega, by omega⟩, fits (by omega), ?_⟩
        repeat refine Or.inl ?_
        refine ⟨_, _, f2 _, ?_⟩
        repeat refine Or.inl ?_
        refine ⟨fun h => ?_, fun _ => ?_⟩
        · have h : ((decide ((l.length : Int) > 0) && ((l.length : Int) == 0)) || (((l2.length : Int) == 0) != ((l.length : Int) == 0))) = true := h
          rw [hz, hz2, Bool.and_false] at h
          cases h
        repeat refine Or.inl ?_
        refine ⟨[], Nat, fun k => k ≤ l.length, fun k => [⟨11, [], .i .i64 k⟩], fun _ => [], fun k => l.length - k, ⟨0, [], Nat.zero_le _, rfl, rfl, rfl, rfl, rfl, ⟨rfl, rfl⟩, trivial⟩, ?_⟩
        intro k hk
        refine .inl ⟨fun hc => ?_, fun _ => ?_⟩
        · have hc := dlt hc
          have hc : (k : Int) < l.length := hc
          have hx := hS.rng _ (getD_memX (l := l) (k := (k : Int).toNat) (by omega))
          repeat refine Or.inl ?_
          refine ⟨⟨by omega, by omega⟩, by omega, fun _ => ⟨by omega, by omega⟩, fun _ => by omega, ⟨fun h => ?_, fun _ => ?_⟩⟩
          · have h : (decide (l.getD (k : Int).toNat 0 < 0) || decide (l.getD (k : Int).toNat 0 ≥ P.length)) = true := h
            simp only [Bool.or_eq_true, decide_eq_true_eq] at h
            omega
          · exact ⟨k + 1, [], by omega, by dsimp only; omega, rfl, rfl, rfl, rfl, rfl, ⟨rfl, wr (by omega) (by omega)⟩, trivial⟩
        repeat refine Or.inl ?_
        refine ⟨_, _, c0, ?_⟩
        repeat refine Or.inl ?_
        refine ⟨_, _, f3, ?_⟩
        repeat refine Or.inl ?_
        refine ⟨[(13, 3, 1)], Nat, fun k => k ≤ l.length, fun k => [⟨14, [], .i .i64 k⟩, ⟨13, [], .so 8⟩], fun k => [⟨8, [], .row 3 1 (allI k).length (rowsI (allI k))⟩], fun k => l.length - k, ⟨0, [], Nat.zero_le _, rfl, rfl, rfl, rfl, rfl, ⟨⟨rfl, rfl⟩, rfl⟩, ⟨rfl, rfl, rfl, fun j hj => absurd hj (Nat.not_lt_zero j)⟩⟩, ?_⟩
        intro k hk
        have hk : k ≤ l.length := hk
        have halk := allI_len k
        refine .inl ⟨fun hc => ?_, fun hc => ?_⟩
        · have hc := dlt hc
          have hc : (k : Int) < l.length := hc
          repeat refine Or.inl ?_
          refine ⟨fits (by omega), ?_⟩
          exact ⟨k + 1, [(8, 10)], by dsimp only; omega, by dsimp only; omega, rfl, rfl, rfl, rfl, rfl, ⟨⟨rfl, wr (by omega) (by omega)⟩, rfl⟩, snocZ_row _ _ (allI_succ k)⟩
        have hc := dnlt hc
        have hc : (l.length : Int) ≤ k := hc
        obtain rfl : k = l.length := by omega
        repeat refine Or.inl ?_
        refine ⟨[], _, fun _ => i1, ?_⟩
        repeat refine Or.inl ?_
        refine ⟨_, _, fun _ => f4, ?_⟩
        repeat refine Or.inl ?_
        refine ⟨[], _, fun _ => i2, ?_⟩
        refine RetIs.b ?_
        show (((true && true) && ((0 : Int) == 0)) && (((l.length : Int) == 0) || true)) = true
        rw [Bool.or_true]
        rfl
end Go.Proofs.Ytilhaifmfiobhaa
end
