/-
  Several texts in one: Y11, Z5.
-/
import Derived.Test.YtilhaifmfiobhaaMg19

section
/-
  ClaimFollows.
-/
namespace Go.Proofs.Ytilhaifmfiobhaa
open Go.Eng

theorem snocP_av (f : Nat → List AV) (o : List Pf) (c : Pf) : AVEq (.rs 3 (o ++ [c]).length (rowsP (o ++ [c]))) (.rs 3 (0 + o.length + 1) (catG (0 + o.length) (catG 0 f (rowsP o)) (rowOf 3 c.av))) := by
  refine ⟨rfl, by simp, fun q hq => ?_⟩
  rw [← catP2 o c q hq, Nat.zero_add]
  unfold catG
  split
  · rw [if_neg (by omega), Nat.sub_zero]
  · rfl
theorem clausesL_snoc (C : List Cm) (P : List Pf) (p : Pf) : clausesL C (P ++ [p]) = clausesL C P ++ [clauseOf p] := by
  unfold clausesL
  rw [List.map_append, List.append_assoc]
  rfl
theorem right_snoc {C : List Cm} {P : List Pf} (h : RightCP C P) (hl : P.length + 1 ≤ 400) {k I : Int} (hk : k = 0 ∨ k = 1) (hI : 0 ≤ I ∧ I < (C.length : Int)) : RightCP C (P ++ [⟨k, I, 0⟩]) := by
  refine ⟨h.lc, by simp; omega, h.cm, h.nd, fun p hp => ?_⟩
  rcases List.mem_append.1 hp with hp | hp
  · exact h.pf p hp
  · rw [List.mem_singleton.1 hp]
    exact ⟨⟨by dsimp only; omega, hI⟩, ⟨by dsimp only; omega, fun _ => rfl⟩⟩
theorem first_unit (L : List Cl) (n : Nat) (x : Int) : firstL (L ++ [unit x]) n [] = firstL L n [x] := firstL_congr fun vals _ => by rw [good_append, satV_unit, good_one]
theorem follows_has {C : List Cm} {P : List Pf} (h : okCP C P = true) {p : Pf} (hp : okCP C (P ++ [p]) = true) {x : Int} (hc : clauseOf p = unit x) (hx : 0 ≤ opp x ∧ opp x < 2 * (C.length : Int)) : followsB (clausesL C P) C.length [opp x] = !hasW C (P ++ [p]) := by
  obtain ⟨hR, hlen⟩ := okCP_iff.1 h
  unfold followsB hasW
  rw [rightB_iff.2 (clausesL_right hR hlen), hp, clausesL_snoc, hc, first_unit, Int.toNat_natCast, Bool.true_and, Bool.true_and]
  have : okLits (C.length : Int) [opp x] = true := okLits_iff.2 fun y hy => by rw [List.mem_singleton.1 hy]; exact hx
  rw [this, Bool.true_and, List.map_cons, opp_opp, List.map_nil]
  cases firstL (clausesL C P) C.length [x] <;> rfl
theorem follows_same {L : List Cl} {n : Int} {x y : Int} (hR : RightP L n) (hR2 : RightP (L ++ [unit x]) n) (h : followsB L n [x] = true) : followsB (L ++ [unit x]) n [y] = followsB L n [y] := by
  have key : ∀ vals, Good (L ++ [unit x]) n.toNat [] vals ↔ Good L n.toNat [] vals := fun vals => by
    rw [good_append, satV_unit]
    refine ⟨fun h => h.1, fun g => ⟨g, ?_⟩⟩
    obtain ⟨z, hz, ht⟩ := (followsB_iff.1 h).2.2 vals g
    rw [List.mem_singleton.1 hz] at ht
    exact ht
  rw [Bool.eq_iff_iff, followsB_iff, followsB_iff]
  simp only [key]
  exact ⟨fun h => ⟨hR, h.2⟩, fun h => ⟨hR2, h.2⟩⟩
theorem rem_in {a : Int} (ha : (Lit.int .u8 a).wf = true) {n : Nat} (hn : 0 < n) : 0 ≤ (IntKind.i64.wrap a).tmod n ∧ (IntKind.i64.wrap a).tmod n < (n : Int) := by
  have hs2 : (decide (IntKind.u8.min ≤ a) && decide (a ≤ IntKind.u8.max)) = true := ha
  have e1 : IntKind.u8.min = 0 := rfl
  have e2 : IntKind.u8.max = 255 := rfl
  rw [e1, e2, Bool.and_eq_true, decide_eq_true_eq, decide_eq_true_eq] at hs2
  rw [wr (by omega) (by omega)]
  exact ⟨Int.tmod_nonneg _ hs2.1, Int.tmod_lt_of_pos a (by omega)⟩
theorem w_two {x : Int} (h : 0 ≤ x ∧ x < 1000) : IntKind.i64.wrap (2 * x) = 2 * x := wr (by omega) (by omega)
theorem w_two1 {x : Int} (h : 0 ≤ x ∧ x < 1000) : IntKind.i64.wrap (IntKind.i64.wrap (2 * x) + 1) = 2 * x + 1 := by
  rw [w_two h]
  exact wr (by omega) (by omega)

set_option maxRecDepth 20000 in
set_option maxHeartbeats 8000000 in
theorem claimFollows_fn (C : List Cm) (P : List Pf) (a a2 : Int) (ha : (Lit.int .u8 a).wf = true) (ha2 : (Lit.int .u8 a2).wf = true) :
    Ctr Try.prog 11 [.rs 2 C.length (rowsM C), .rs 3 P.length (rowsP P), .i .u8 a, .i .u8 a2] [] (.b true) := by
  refine fn_of_exec tabOk Try.func11 (by kernel_rfl) rfl (N := Try.f11.ntmps) rfl (res := [.tmp 8]) rfl rfl [] ?_
  repeat refine Or.inl ?_
  refine ⟨[], _, smallC_fn, ?_⟩
  repeat refine Or.inl ?_
  refine ⟨[], _, few_fn C P 10 14, ?_⟩
  repeat refine Or.inl ?_
  refine ⟨[], _, fun hg => ClaimRight_fn C P (by have := few_false hg.1; omega) (by have := few_false hg.1; omega), ?_⟩
  have lens : ((!(decide ((C.length : Int) ≤ 10) && decide ((P.length : Int) ≤ 14)) || !rightCP C P) || ((C.length : Int) == 0)) = false → C.length < 2 ^ 62 ∧ P.length < 2 ^ 62 := fun h => by
    rw [Bool.or_eq_false_iff, Bool.or_eq_false_iff] at h
    have := few_false h.1.1
    omega
  cases e0 : conflictY C P with
  | some l =>
    have f0 : C.length < 2 ^ 62 ∧ P.length < 2 ^ 62 → _ := fun h => Conflict_fn C P h.1 h.2
    rw [e0] at f0
    repeat refine Or.inl ?_
    refine ⟨_, _, fun hg => f0 (lens hg.1), ?_⟩
    refine ⟨fun _ => RetIs.b rfl, fun h => ?_⟩
    have h : (((!(decide ((C.length : Int) ≤ 10) && decide ((P.length : Int) ≤ 14)) || !rightCP C P) || ((C.length : Int) == 0)) || decide ((l.length : Int) > 0)) = false := h
    rw [Bool.or_eq_false_iff, Bool.or_eq_false_iff, Bool.or_eq_false_iff, Bool.not_eq_false' (b := rightCP C P), decide_eq_false_iff_not] at h
    obtain ⟨⟨⟨hfew, hr⟩, _⟩, hl0⟩ := h
    obtain ⟨hC, hP⟩ := few_false hfew
    obtain ⟨_, hS, _⟩ := conY_some (ok_small (rightCP_iff.1 hr) (by omega)) e0
    have := List.length_pos_iff.2 (confS_ne hS)
    omega
  | none =>
  have f0 : C.length < 2 ^ 62 ∧ P.length < 2 ^ 62 → _ := fun h => Conflict_fn C P h.1 h.2
  rw [e0] at f0
  repeat refine Or.inl ?_
  refine ⟨_, _, fun hg => f0 (lens hg.1), ?_⟩
  refine ⟨fun _ => RetIs.b rfl, fun h => ?_⟩
  have h : (((!(decide ((C.length : Int) ≤ 10) && decide ((P.length : Int) ≤ 14)) || !rightCP C P) || ((C.length : Int) == 0)) || decide ((0 : Int) > 0)) = false := h
  rw [Bool.or_eq_false_iff, Bool.or_eq_false_iff, Bool.or_eq_false_iff, Bool.not_eq_false' (b := rightCP C P), beq_eq_false_iff_ne] at h
  obtain ⟨⟨⟨hfew, hr⟩, hn0⟩, _⟩ := h
  obtain ⟨hC, hP⟩ := few_false hfew
  have hR := rightCP_iff.1 hr
  have hok := ok_small hR (by omega)
  have hlen := (okCP_iff.1 hok).2
  have hRL := clausesL_right hR hlen
  have hll := clausesL_len C P
  have hw := (conY_none hok).1 e0
  have hI := rem_in ha (n := C.length) (by omega)
  have hK := rem_in ha2 (n := C.length) (by omega)
  have cl := Clauses_fn C P (by omega) (by omega)
  rw [okCP_cl hok] at cl
  have cl : Ctr Try.prog 38 [.rs 2 C.length (rowsM C), .rs 3 P.length (rowsP P)] [.row 25 2 (clausesL C P).length (rowsC (clausesL C P))] (.tup [.so 0, .i .i64 0]) := cl
  have hR0 := right_snoc hR (by omega) (.inl rfl) hI
  have hR1 := right_snoc hR (by omega) (.inr rfl) hI
  have hok0 := ok_small hR0 (by omega)
  have hok1 := ok_small hR1 (by omega)
  have hlen0 := (okCP_iff.1 hok0).2
  have hRL0 := clausesL_right hR0 hlen0
  have ec0 : clauseOf (⟨0, (IntKind.i64.wrap a).tmod C.length, 0⟩ : Pf) = unit (2 * (IntKind.i64.wrap a).tmod C.length) := clauseOf0 rfl
  have ec1 : clauseOf (⟨1, (IntKind.i64.wrap a).tmod C.length, 0⟩ : Pf) = unit (2 * (IntKind.i64.wrap a).tmod C.length + 1) := clauseOf1 rfl
  have es0 := clausesL_snoc C P (⟨0, (IntKind.i64.wrap a).tmod C.length, 0⟩ : Pf)
  rw [ec0] at es0
  have fNo : followsB (clausesL C P) C.length [2 * (IntKind.i64.wrap a).tmod C.length + 1] = !hasW C (P ++ [(⟨0, (IntKind.i64.wrap a).tmod C.length, 0⟩ : Pf)]) := by
    have := follows_has hok hok0 ec0 (by rw [opp_even]; omega)
    rwa [opp_even] at this
  have fIs : followsB (clausesL C P) C.length [2 * (IntKind.i64.wrap a).tmod C.length] = !hasW C (P ++ [(⟨1, (IntKind.i64.wrap a).tmod C.length, 0⟩ : Pf)]) := by
    have := follows_has hok hok1 ec1 (by rw [opp_odd]; omega)
    rwa [opp_odd] at this
  have fin : followsB (clausesL C P) C.length [2 * (IntKind.i64.wrap a).tmod C.length] = true → followsB (clausesL C (P ++ [(⟨0, (IntKind.i64.wrap a).tmod C.length, 0⟩ : Pf)])) C.length [2 * (IntKind.i64.wrap a2).tmod C.length] = followsB (clausesL C P) C.length [2 * (IntKind.i64.wrap a2).tmod C.length] := fun h => by
    rw [es0] at hRL0 ⊢
    exact follows_same hRL hRL0 h
  have cm0 := Clauses_fn C (P ++ [(⟨0, (IntKind.i64.wrap a).tmod C.length, 0⟩ : Pf)]) (by omega) (by simp; omega)
  rw [okCP_cl hok0] at cm0
  have cm0 : Ctr Try.prog 38 [.rs 2 C.length (rowsM C), .rs 3 (P ++ [(⟨0, (IntKind.i64.wrap a).tmod C.length, 0⟩ : Pf)]).length (rowsP (P ++ [(⟨0, (IntKind.i64.wrap a).tmod C.length, 0⟩ : Pf)]))] [.row 25 2 (clausesL C (P ++ [(⟨0, (IntKind.i64.wrap a).tmod C.length, 0⟩ : Pf)])).length (rowsC (clausesL C (P ++ [(⟨0, (IntKind.i64.wrap a).tmod C.length, 0⟩ : Pf)])))] (.tup [.so 0, .i .i64 0]) := cm0
  have cm : ∀ f, Ctr Try.prog 38 [.rs 2 C.length (rowsM C), .rs 3 (0 + P.length + 1) (catG (0 + P.length) (catG 0 f (rowsP P)) (rowOf 3 [.i .i64 0, .i .i64 ((IntKind.i64.wrap a).tmod C.length), .i .i64 0]))] [.row 25 2 (clausesL C (P ++ [(⟨0, (IntKind.i64.wrap a).tmod C.length, 0⟩ : Pf)])).length (rowsC (clausesL C (P ++ [(⟨0, (IntKind.i64.wrap a).tmod C.length, 0⟩ : Pf)])))] (.tup [.so 0, .i .i64 0]) := fun f =>
    Ctr.of_eq (args := [.rs 2 C.length (rowsM C), .rs 3 (P ++ [(⟨0, (IntKind.i64.wrap a).tmod C.length, 0⟩ : Pf)]).length (rowsP (P ++ [(⟨0, (IntKind.i64.wrap a).tmod C.length, 0⟩ : Pf)]))]) ⟨AVEq.refl _, snocP_av f P (⟨0, (IntKind.i64.wrap a).tmod C.length, 0⟩ : Pf)⟩ cm0
  have g0 : ∀ f, Ctr Try.prog 44 [.rs 2 C.length (rowsM C), .rs 3 (0 + P.length + 1) (catG (0 + P.length) (catG 0 f (rowsP P)) (rowOf 3 [.i .i64 0, .i .i64 ((IntKind.i64.wrap a).tmod C.length), .i .i64 0]))] (pathO (conflictY C (P ++ [(⟨0, (IntKind.i64.wrap a).tmod C.length, 0⟩ : Pf)]))) (pathV (conflictY C (P ++ [(⟨0, (IntKind.i64.wrap a).tmod C.length, 0⟩ : Pf)]))) := fun f =>
    Ctr.of_eq (args := [.rs 2 C.length (rowsM C), .rs 3 (P ++ [(⟨0, (IntKind.i64.wrap a).tmod C.length, 0⟩ : Pf)]).length (rowsP (P ++ [(⟨0, (IntKind.i64.wrap a).tmod C.length, 0⟩ : Pf)]))]) ⟨AVEq.refl _, snocP_av f P (⟨0, (IntKind.i64.wrap a).tmod C.length, 0⟩ : Pf)⟩ (Conflict_fn C _ (by omega) (by simp; omega))
  have g1 : ∀ f, Ctr Try.prog 44 [.rs 2 C.length (rowsM C), .rs 3 (0 + P.length + 1) (catG (0 + P.length) (catG 0 f (rowsP P)) (rowOf 3 [.i .i64 1, .i .i64 ((IntKind.i64.wrap a).tmod C.length), .i .i64 0]))] (pathO (conflictY C (P ++ [(⟨1, (IntKind.i64.wrap a).tmod C.length, 0⟩ : Pf)]))) (pathV (conflictY C (P ++ [(⟨1, (IntKind.i64.wrap a).tmod C.length, 0⟩ : Pf)]))) := fun f =>
    Ctr.of_eq (args := [.rs 2 C.length (rowsM C), .rs 3 (P ++ [(⟨1, (IntKind.i64.wrap a).tmod C.length, 0⟩ : Pf)]).length (rowsP (P ++ [(⟨1, (IntKind.i64.wrap a).tmod C.length, 0⟩ : Pf)]))]) ⟨AVEq.refl _, snocP_av f P (⟨1, (IntKind.i64.wrap a).tmod C.length, 0⟩ : Pf)⟩ (Conflict_fn C _ (by omega) (by simp; omega))
  have F1 := Follows_one (clausesL C P) (by omega) C.length (2 * (IntKind.i64.wrap a).tmod C.length) _ (w_two ⟨hI.1, by omega⟩)
  have F2 := Follows_one (clausesL C P) (by omega) C.length (2 * (IntKind.i64.wrap a).tmod C.length + 1) _ (w_two1 ⟨hI.1, by omega⟩)
  have F3 := Follows_one (clausesL C P) (by omega) C.length (2 * (IntKind.i64.wrap a2).tmod C.length) _ (w_two ⟨hK.1, by omega⟩)
  have F4 := Follows_one (clausesL C (P ++ [(⟨0, (IntKind.i64.wrap a).tmod C.length, 0⟩ : Pf)])) (by omega) C.length (2 * (IntKind.i64.wrap a2).tmod C.length) _ (w_two ⟨hK.1, by omega⟩)
  repeat refine Or.inl ?_
  refine ⟨by show (C.length : Int) ≠ 0; omega, ?_⟩
  repeat refine Or.inl ?_
  refine ⟨by show (C.length : Int) ≠ 0; omega, ?_⟩
  repeat refine Or.inl ?_
  refine ⟨_, _, cl, ?_⟩
  refine ⟨fits (by omega), fits (by omega), ?_⟩
  repeat refine Or.inl ?_
  refine ⟨fits (by omega), fits (by omega), ?_⟩
  repeat refine Or.inl ?_
  refine ⟨_, _, cm _, ?_⟩
  repeat refine Or.inl ?_
  refine ⟨fun h => (by cases h), fun _ => ?_⟩
  repeat refine Or.inl ?_
  refine ⟨[], _, F1, ?_⟩
  repeat refine Or.inl ?_
  refine ⟨[], _, F2, ?_⟩
  cases e1 : conflictY C (P ++ [(⟨0, (IntKind.i64.wrap a).tmod C.length, 0⟩ : Pf)]) with
  | none =>
    rw [e1] at g0
    have hw0 := (conY_none hok0).1 e1
    cases e2 : conflictY C (P ++ [(⟨1, (IntKind.i64.wrap a).tmod C.length, 0⟩ : Pf)]) with
    | none =>
      rw [e2] at g1
      have hw1 := (conY_none hok1).1 e2
      repeat refine Or.inl ?_
      refine ⟨_, _, g0 _, ?_⟩
      repeat refine Or.inl ?_
      refine ⟨_, _, fun _ => g1 _, ?_⟩
      repeat refine Or.inl ?_
      refine ⟨fun h => ?_, fun _ => ?_⟩
      · have h : ((followsB (clausesL C P) C.length [2 * (IntKind.i64.wrap a).tmod C.length + 1] != decide ((0 : Int) > 0)) || (followsB (clausesL C P) C.length [2 * (IntKind.i64.wrap a).tmod C.length] != decide ((0 : Int) > 0))) = true := h
        rw [fNo, fIs, hw0, hw1] at h
        cases h
      repeat refine Or.inl ?_
      refine ⟨[], _, fun _ => F3, ?_⟩
      repeat refine Or.inl ?_
      refine ⟨[], _, fun _ => F4, ?_⟩
      refine RetIs.b ?_
      show (true && (!followsB (clausesL C P) C.length [2 * (IntKind.i64.wrap a).tmod C.length] || (followsB (clausesL C P) C.length [2 * (IntKind.i64.wrap a2).tmod C.length] == followsB (clausesL C (P ++ [(⟨0, (IntKind.i64.wrap a).tmod C.length, 0⟩ : Pf)])) C.length [2 * (IntKind.i64.wrap a2).tmod C.length]))) = true
      cases hx : followsB (clausesL C P) C.length [2 * (IntKind.i64.wrap a).tmod C.length] with
      | false => rfl
      | true => rw [fin hx, beq_self_eq_true]; rfl
    | some l1 =>
      rw [e2] at g1
      obtain ⟨hw1, hS1, _⟩ := conY_some hok1 e2
      have hp1 : (l1.length : Int) > 0 := by have := List.length_pos_iff.2 (confS_ne hS1); omega
      repeat refine Or.inl ?_
      refine ⟨_, _, g0 _, ?_⟩
      repeat refine Or.inl ?_
      refine ⟨_, _, fun _ => g1 _, ?_⟩
      repeat refine Or.inl ?_
      refine ⟨fun h => ?_, fun _ => ?_⟩
      · have h : ((followsB (clausesL C P) C.length [2 * (IntKind.i64.wrap a).tmod C.length + 1] != decide ((0 : Int) > 0)) || (followsB (clausesL C P) C.length [2 * (IntKind.i64.wrap a).tmod C.length] != decide ((l1.length : Int) > 0))) = true := h
        rw [fNo, fIs, hw0, hw1, decide_eq_true hp1] at h
        cases h
      repeat refine Or.inl ?_
      refine ⟨[], _, fun _ => F3, ?_⟩
      repeat refine Or.inl ?_
      refine ⟨[], _, fun _ => F4, ?_⟩
      refine RetIs.b ?_
      show (true && (!followsB (clausesL C P) C.length [2 * (IntKind.i64.wrap a).tmod C.length] || (followsB (clausesL C P) C.length [2 * (IntKind.i64.wrap a2).tmod C.length] == followsB (clausesL C (P ++ [(⟨0, (IntKind.i64.wrap a).tmod C.length, 0⟩ : Pf)])) C.length [2 * (IntKind.i64.wrap a2).tmod C.length]))) = true
      cases hx : followsB (clausesL C P) C.length [2 * (IntKind.i64.wrap a).tmod C.length] with
      | false => rfl
      | true => rw [fin hx, beq_self_eq_true]; rfl
  | some l0 =>
    rw [e1] at g0
    obtain ⟨hw0, hS0, _⟩ := conY_some hok0 e1
    have hp0 : (l0.length : Int) > 0 := by have := List.length_pos_iff.2 (confS_ne hS0); omega
    cases e2 : conflictY C (P ++ [(⟨1, (IntKind.i64.wrap a).tmod C.length, 0⟩ : Pf)]) with
    | none =>
      rw [e2] at g1
      have hw1 := (conY_none hok1).1 e2
      repeat refine Or.inl ?_
      refine ⟨_, _, g0 _, ?_⟩
      repeat refine Or.inl ?_
      refine ⟨_, _, fun _ => g1 _, ?_⟩
      repeat refine Or.inl ?_
      refine ⟨fun h => ?_, fun _ => ?_⟩
      · have h : ((followsB (clausesL C P) C.length [2 * (IntKind.i64.wrap a).tmod C.length + 1] != decide ((l0.length : Int) > 0)) || (followsB (clausesL C P) C.length [2 * (IntKind.i64.wrap a).tmod C.length] != decide ((0 : Int) > 0))) = true := h
        rw [fNo, fIs, hw0, hw1, decide_eq_true hp0] at h
        cases h
      repeat refine Or.inl ?_
      refine ⟨[], _, fun _ => F3, ?_⟩
      repeat refine Or.inl ?_
      refine ⟨[], _, fun _ => F4, ?_⟩
      refine RetIs.b ?_
      show (true && (!followsB (clausesL C P) C.length [2 * (IntKind.i64.wrap a).tmod C.length] || (followsB (clausesL C P) C.length [2 * (IntKind.i64.wrap a2).tmod C.length] == followsB (clausesL C (P ++ [(⟨0, (IntKind.i64.wrap a).tmod C.length, 0⟩ : Pf)])) C.length [2 * (IntKind.i64.wrap a2).tmod C.length]))) = true
      cases hx : followsB (clausesL C P) C.length [2 * (IntKind.i64.wrap a).tmod C.length] with
      | false => rfl
      | true => rw [fin hx, beq_self_eq_true]; rfl
    | some l1 =>
      rw [e2] at g1
      obtain ⟨hw1, hS1, _⟩ := conY_some hok1 e2
      have hp1 : (l1.length : Int) > 0 := by have := List.length_pos_iff.2 (confS_ne hS1); omega
      repeat refine Or.inl ?_
      refine ⟨_, _, g0 _, ?_⟩
      repeat refine Or.inl ?_
      refine ⟨_, _, fun _ => g1 _, ?_⟩
      repeat refine Or.inl ?_
      refine ⟨fun h => ?_, fun _ => ?_⟩
      · have h : ((followsB (clausesL C P) C.length [2 * (IntKind.i64.wrap a).tmod C.length + 1] != decide ((l0.length : Int) > 0)) || (followsB (clausesL C P) C.length [2 * (IntKind.i64.wrap a).tmod C.length] != decide ((l1.length : Int) > 0))) = true := h
        rw [fNo, fIs, hw0, hw1, decide_eq_true hp0, decide_eq_true hp1] at h
        cases h
      repeat refine Or.inl ?_
      refine ⟨[], _, fun _ => F3, ?_⟩
      repeat refine Or.inl ?_
      refine ⟨[], _, fun _ => F4, ?_⟩
      refine RetIs.b ?_
      show (true && (!followsB (clausesL C P) C.length [2 * (IntKind.i64.wrap a).tmod C.length] || (followsB (clausesL C P) C.length [2 * (IntKind.i64.wrap a2).tmod C.length] == followsB (clausesL C (P ++ [(⟨0, (IntKind.i64.wrap a).tmod C.length, 0⟩ : Pf)])) C.length [2 * (IntKind.i64.wrap a2).tmod C.length]))) = true
      cases hx : followsB (clausesL C P) C.length [2 * (IntKind.i64.wrap a).tmod C.length] with
      | false => rfl
      | true => rw [fin hx, beq_self_eq_true]; rfl
end Go.Proofs.Ytilhaifmfiobhaa
end

section
/-
  PersonSame and PersonMore.
-/
namespace Go.Proofs.Ytilhaifmfiobhaa
open Go.Eng

theorem ofY_eta {C : List Cm} {P : List Pf} {L : List Int} {a : Int} (h : (ofY C P L a).2 = true) : ofY C P L a = ((ofY C P L a).1, true) := Prod.ext rfl h

set_option maxRecDepth 20000 in
set_option maxHeartbeats 4000000 in
theorem personSame_fn (C : List Cm) (P : List Pf) (a b c : Int) : Ctr Try.prog 15 [.rs 2 C.length (rowsM C), .rs 3 P.length (rowsP P), .i .i64 a, .i .i64 b, .i .i64 c] [] (.b true) := by
  refine fn_of_exec tabOk Try.func15 (by kernel_rfl) rfl (N := Try.f15.ntmps) rfl (res := [.tmp 10]) rfl rfl [] ?_
  repeat refine Or.inl ?_
  refine ⟨[], _, smallP_fn, ?_⟩
  repeat refine Or.inl ?_
  refine ⟨[], _, few26_fn C P 10, ?_⟩
  repeat refine Or.inl ?_
  refine ⟨fun _ => RetIs.b rfl, fun h => ?_⟩
  obtain ⟨hC, hP⟩ := few_false h
  have S := fun x y => Same_fn C P (by omega) (by omega) x y
  have O := fun x => Of_fn C P (by omega) (by omega) x
  have M := fun x => May_fn C P (by omega) (by omega) x
  have pa := pers_is C a
  have pb := pers_is C b
  repeat refine Or.inl ?_
  refine ⟨[], _, S a b, ?_⟩
  repeat refine Or.inl ?_
  refine ⟨[], _, S b a, ?_⟩
  repeat refine Or.inl ?_
  refine ⟨[], _, fun _ => S b c, ?_⟩
  repeat refine Or.inl ?_
  refine ⟨[], _, fun _ => S a c, ?_⟩
  repeat refine Or.inl ?_
  refine ⟨fun h2 => ?_, fun _ => ?_⟩
  · have h2 : ((sameB C P (persL C a) a b != sameB C P (persL C b) b a) || ((sameB C P (persL C a) a b && sameB C P (persL C b) b c) && !sameB C P (persL C a) a c)) = true := h2
    rw [same_symm pa pb, bne_self_eq_false, Bool.false_or, Bool.and_eq_true, Bool.and_eq_true] at h2
    have h3 := same_trans pa pb (by rw [same_symm pa pb]; exact h2.1.1) h2.1.2
    rw [h3] at h2
    cases h2.2
  repeat refine Or.inl ?_
  refine ⟨[], _, O a, ?_⟩
  repeat refine Or.inl ?_
  refine ⟨[], _, O b, ?_⟩
  repeat refine Or.inl ?_
  refine ⟨fun h2 => ?_, fun _ => ?_⟩
  · have h2 : (((((ofY C P (persL C a) a).2 && (ofY C P (persL C b) b).2) && ((ofY C P (persL C a) a).1 == (ofY C P (persL C b) b).1)) && !sameB C P (persL C a) a b) || (sameB C P (persL C a) a b && (((ofY C P (persL C a) a).2 != (ofY C P (persL C b) b).2) || ((ofY C P (persL C a) a).1 != (ofY C P (persL C b) b).1)))) = true := h2
    rw [Bool.or_eq_true] at h2
    rcases h2 with h2 | h2
    · rw [Bool.and_eq_true, Bool.and_eq_true, Bool.and_eq_true, beq_iff_eq] at h2
      obtain ⟨⟨⟨h3, h4⟩, h5⟩, h6⟩ := h2
      have e1 := ofY_eta h3
      have e2 := ofY_eta h4
      rw [← h5] at e2
      rw [of_same pa pb e1 e2] at h6
      cases h6
    · rw [Bool.and_eq_true] at h2
      have := same_of pa pb h2.1
      rw [this, bne_self_eq_false, bne_self_eq_false] at h2
      cases h2.2
  have ml := mayL_len C P (persL C a) a
  have pl := persL_len C a
  repeat refine Or.inl ?_
  refine ⟨_, _, fun _ => M a, ?_⟩
  have i1 : Ctr Try.prog 57 [.rs 1 (mayL C P (persL C a) a).length (rowsI (mayL C P (persL C a) a)), .rs 1 1 (rowOf 1 [.i .i64 (ofY C P (persL C a) a).1])] [] (.b (decide (mayL C P (persL C a) a = [(ofY C P (persL C a) a).1]))) :=
    Ctr.of_eq (args := [.rs 1 (mayL C P (persL C a) a).length (rowsI (mayL C P (persL C a) a)), .rs 1 1 (rowsI [(ofY C P (persL C a) a).1])]) ⟨AVEq.refl _, ⟨rfl, rfl, one rfl⟩⟩ (ints57_fn _ [(ofY C P (persL C a) a).1] (by omega) (by simp))
  repeat refine Or.inl ?_
  refine ⟨[], _, fun _ => i1, ?_⟩
  refine RetIs.b ?_
  show (true && (!(ofY C P (persL C a) a).2 || decide (mayL C P (persL C a) a = [(ofY C P (persL C a) a).1]))) = true
  cases h3 : (ofY C P (persL C a) a).2 with
  | false => rfl
  | true =>
    rw [decide_eq_true (of_may pa (ofY_eta h3))]
    rfl

theorem any_eqX {l : List Int} {x : Int} : (l.any fun y => y == x) = true ↔ x ∈ l := by simp

set_option maxRecDepth 20000 in
set_option maxHeartbeats 8000000 in
theorem personMore_fn (C : List Cm) (P : List Pf) (q : Pf) (a b : Int) : Ctr Try.prog 14 [.rs 2 C.length (rowsM C), .rs 3 P.length (rowsP P), .ag q.av, .i .i64 a, .i .i64 b] [] (.b true) := by
  refine fn_of_exec tabOk Try.func14 (by kernel_rfl) rfl (N := Try.f14.ntmps) rfl (res := [.tmp 10]) rfl rfl [] ?_
  repeat refine Or.inl ?_
  refine ⟨[], _, smallP_fn, ?_⟩
  repeat refine Or.inl ?_
  refine ⟨[], _, few26_fn C P 10, ?_⟩
  repeat refine Or.inl ?_
  refine ⟨fun _ => RetIs.b rfl, fun h => ?_⟩
  have h : (!(decide ((C.length : Int) ≤ 10) && decide ((P.length : Int) ≤ 12)) || decide ((P.length : Int) > 11)) = false := h
  rw [Bool.or_eq_false_iff, decide_eq_false_iff_not] at h
  obtain ⟨hC, hP⟩ := few_false h.1
  have hQl : (P ++ [q]).length = P.length + 1 := by simp
  have pa := pers_is C a
  have pl := persL_len C a
  have av := fun f => snocP_av f P q
  have O := Of_fn C P (by omega) (by omega) a
  have OA : ∀ f, Ctr Try.prog 52 [.rs 2 C.length (rowsM C), .rs 3 (0 + P.length + 1) (catG (0 + P.length) (catG 0 f (rowsP P)) (rowOf 3 q.av)), .i .i64 a] [] (.tup [.i .i64 (ofY C (P ++ [q]) (persL C a) a).1, .b (ofY C (P ++ [q]) (persL C a) a).2]) := fun f =>
    Ctr.of_eq (args := [.rs 2 C.length (rowsM C), .rs 3 (P ++ [q]).length (rowsP (P ++ [q])), .i .i64 a]) ⟨AVEq.refl _, av f, AVEq.refl _⟩ (Of_fn C (P ++ [q]) (by omega) (by omega) a)
  have M := May_fn C P (by omega) (by omega) a
  have MA0 := May_fn C (P ++ [q]) (by omega) (by omega) a
  have S := Same_fn C P (by omega) (by omega) a b
  have SA : ∀ f, Ctr Try.prog 56 [.rs 2 C.length (rowsM C), .rs 3 (0 + P.length + 1) (catG (0 + P.length) (catG 0 f (rowsP P)) (rowOf 3 q.av)), .i .i64 a, .i .i64 b] [] (.b (sameB C (P ++ [q]) (persL C a) a b)) := fun f =>
    Ctr.of_eq (args := [.rs 2 C.length (rowsM C), .rs 3 (P ++ [q]).length (rowsP (P ++ [q])), .i .i64 a, .i .i64 b]) ⟨AVEq.refl _, av f, AVEq.refl _, AVEq.refl _⟩ (Same_fn C (P ++ [q]) (by omega) (by omega) a b)
  have cl := Clauses_fn C (P ++ [q]) (by omega) (by omega)
  repeat refine Or.inl ?_
  refine ⟨fits (by omega), fits (by omega), ?_⟩
  rcases Clauses_or (C := C) (P := P ++ [q]) with ⟨hok, e⟩ | ⟨hok, k, hk, e⟩
  · obtain ⟨hR, hlen⟩ := okCP_iff.1 hok
    have hRL := rightB_iff.2 (clausesL_right hR hlen)
    rw [e] at cl
    have cl : Ctr Try.prog 38 [.rs 2 C.length (rowsM C), .rs 3 (P ++ [q]).length (rowsP (P ++ [q]))] [.row 25 2 (clausesL C (P ++ [q])).length (rowsC (clausesL C (P ++ [q])))] (.tup [.so 0, .i .i64 0]) := cl
    have cl2 : ∀ f, Ctr Try.prog 38 [.rs 2 C.length (rowsM C), .rs 3 (0 + P.length + 1) (catG (0 + P.length) (catG 0 f (rowsP P)) (rowOf 3 q.av))] [.row 25 2 (clausesL C (P ++ [q])).length (rowsC (clausesL C (P ++ [q])))] (.tup [.so 0, .i .i64 0]) := fun f =>
      Ctr.of_eq (args := [.rs 2 C.length (rowsM C), .rs 3 (P ++ [q]).length (rowsP (P ++ [q]))]) ⟨AVEq.refl _, av f⟩ cl
    have sv := Solve_err (l := clausesL C (P ++ [q])) (n := C.length) (by omega) hRL
    rw [Int.toNat_natCast, ← has_first hok] at sv
    repeat refine Or.inl ?_
    refine ⟨_, _, cl2 _, ?_⟩
    cases hw : hasW C (P ++ [q]) with
    | false =>
      rw [hw] at sv
      obtain ⟨n1, n2, n3⟩ := no_world (b := b) pa hw
      rw [n1] at OA
      rw [n2] at MA0
      rw [n3] at SA
      have MA : ∀ f, Ctr Try.prog 53 [.rs 2 C.length (rowsM C), .rs 3 (0 + P.length + 1) (catG (0 + P.length) (catG 0 f (rowsP P)) (rowOf 3 q.av)), .i .i64 a] [.row 3 1 0 (rowsI [])] (.so 0) := fun f =>
        Ctr.of_eq (args := [.rs 2 C.length (rowsM C), .rs 3 (P ++ [q]).length (rowsP (P ++ [q])), .i .i64 a]) ⟨AVEq.refl _, av f, AVEq.refl _⟩ MA0
      repeat refine Or.inl ?_
      refine ⟨[], _, sv, ?_⟩
      repeat refine Or.inl ?_
      refine ⟨fun _ => ?_, fun h => (by cases h)⟩
      repeat refine Or.inl ?_
      refine ⟨[], _, OA _, ?_⟩
      repeat refine Or.inl ?_
      refine ⟨_, _, fun _ => MA _, ?_⟩
      repeat refine Or.inl ?_
      refine ⟨[], _, fun _ => SA _, ?_⟩
      exact RetIs.b rfl
    | true =>
      rw [hw] at sv
      have MA : ∀ f, Ctr Try.prog 53 [.rs 2 C.length (rowsM C), .rs 3 (0 + P.length + 1) (catG (0 + P.length) (catG 0 f (rowsP P)) (rowOf 3 q.av)), .i .i64 a] [.row 3 1 (mayL C (P ++ [q]) (persL C a) a).length (rowsI (mayL C (P ++ [q]) (persL C a) a))] (.so 0) := fun f =>
        Ctr.of_eq (args := [.rs 2 C.length (rowsM C), .rs 3 (P ++ [q]).length (rowsP (P ++ [q])), .i .i64 a]) ⟨AVEq.refl _, av f, AVEq.refl _⟩ MA0
      have ml := mayL_len C P (persL C a) a
      have mla := mayL_len C (P ++ [q]) (persL C a) a
      repeat refine Or.inl ?_
      refine ⟨[], _, sv, ?_⟩
      repeat refine Or.inl ?_
      refine ⟨fun h => (by cases h), fun _ => ?_⟩
      repeat refine Or.inl ?_
      refine ⟨[], _, O, ?_⟩
      repeat refine Or.inl ?_
      refine ⟨[], _, OA _, ?_⟩
      repeat refine Or.inl ?_
      refine ⟨[], _, fun _ => S, ?_⟩
      repeat refine Or.inl ?_
      refine ⟨[], _, fun _ => SA _, ?_⟩
      repeat refine Or.inl ?_
      refine ⟨fun h2 => ?_, fun _ => ?_⟩
      · have h2 : (((ofY C P (persL C a) a).2 && (!(ofY C (P ++ [q]) (persL C a) a).2 || ((ofY C (P ++ [q]) (persL C a) a).1 != (ofY C P (persL C a) a).1))) || (sameB C P (persL C a) a b && !sameB C (P ++ [q]) (persL C a) a b)) = true := h2
        rw [Bool.or_eq_true, Bool.and_eq_true, Bool.and_eq_true] at h2
        rcases h2 with h2 | h2
        · have := more_of pa hw (ofY_eta h2.1)
          rw [this, bne_self_eq_false] at h2
          cases h2.2
        · rw [more_same pa hw h2.1] at h2
          cases h2.2
      repeat refine Or.inl ?_
      refine ⟨_, _, M, ?_⟩
      repeat refine Or.inl ?_
      refine ⟨_, _, MA _, ?_⟩
      repeat refine Or.inl ?_
      refine ⟨[], Nat, fun i => i ≤ (mayL C (P ++ [q]) (persL C a) a).length, fun i => [⟨26, [], .i .i64 i⟩], fun _ => [], fun i => (mayL C (P ++ [q]) (persL C a) a).length - i,
        ⟨0, [], Nat.zero_le _, rfl, rfl, rfl, rfl, rfl, ⟨rfl, rfl⟩, trivial⟩, ?_⟩
      intro i hi
      have hi : i ≤ (mayL C (P ++ [q]) (persL C a) a).length := hi
      refine .inl ⟨fun hc => ?_, fun hc => ?_⟩
      · have hc := dlt hc
        have hc : (i : Int) < (mayL C (P ++ [q]) (persL C a) a).length := hc
        have hmm := more_may pa (getD_memX (l := mayL C (P ++ [q]) (persL C a) a) (k := (i : Int).toNat) (by omega))
        repeat refine Or.inl ?_
        refine ⟨[], Nat, fun j => j ≤ (mayL C P (persL C a) a).length, fun j => [⟨28, [], .i .i64 j⟩, ⟨27, [], .b (((mayL C P (persL C a) a).take j).any fun y => y == (mayL C (P ++ [q]) (persL C a) a).getD (i : Int).toNat 0)⟩], fun _ => [], fun j => (mayL C P (persL C a) a).length - j,
          ⟨0, [], Nat.zero_le _, rfl, rfl, rfl, rfl, rfl, ⟨⟨rfl, rfl⟩, rfl⟩, trivial⟩, ?_⟩
        intro j hj
        have hj : j ≤ (mayL C P (persL C a) a).length := hj
        refine .inl ⟨fun hc2 => ?_, fun hc2 => ?_⟩
        · have hc2 := dlt hc2
          have hc2 : (j : Int) < (mayL C P (persL C a) a).length := hc2
          have ej : (j : Int).toNat = j := Int.toNat_natCast j
          repeat refine Or.inl ?_
          refine ⟨fun _ => ⟨by omega, by omega⟩, fun _ => by omega, fun _ => ⟨by omega, by omega⟩, fun _ => by omega, ?_⟩
          refine ⟨j + 1, [], by dsimp only; omega, by dsimp only; omega, rfl, rfl, rfl, rfl, rfl, ⟨⟨rfl, wr (by omega) (by omega)⟩, ?_⟩, trivial⟩
          rw [any_upto_succ 0 _ _ _ (by omega), ej]
          rfl
        · have hc2 := dnlt hc2
          have hc2 : ((mayL C P (persL C a) a).length : Int) ≤ j := hc2
          have et : (mayL C P (persL C a) a).take j = mayL C P (persL C a) a := List.take_of_length_le (by omega)
          rw [et]
          repeat refine Or.inl ?_
          refine ⟨fun h3 => ?_, fun _ => ?_⟩
          · have h3 : (!((mayL C P (persL C a) a).any fun y => y == (mayL C (P ++ [q]) (persL C a) a).getD (i : Int).toNat 0)) = true := h3
            rw [any_eqX.2 hmm] at h3
            cases h3
          · exact ⟨i + 1, [], by dsimp only; omega, by dsimp only; omega, rfl, rfl, rfl, rfl, rfl, ⟨rfl, wr (by omega) (by omega)⟩, trivial⟩
      have i1 : Ctr Try.prog 57 [.rs 1 (mayL C (P ++ [q]) (persL C a) a).length (rowsI (mayL C (P ++ [q]) (persL C a) a)), .rs 1 1 (rowOf 1 [.i .i64 (ofY C (P ++ [q]) (persL C a) a).1])] [] (.b (decide (mayL C (P ++ [q]) (persL C a) a = [(ofY C (P ++ [q]) (persL C a) a).1]))) :=
        Ctr.of_eq (args := [.rs 1 (mayL C (P ++ [q]) (persL C a) a).length (rowsI (mayL C (P ++ [q]) (persL C a) a)), .rs 1 1 (rowsI [(ofY C (P ++ [q]) (persL C a) a).1])]) ⟨AVEq.refl _, ⟨rfl, rfl, one rfl⟩⟩ (ints57_fn _ [(ofY C (P ++ [q]) (persL C a) a).1] (by omega) (by simp))
      repeat refine Or.inl ?_
      refine ⟨[], _, fun _ => i1, ?_⟩
      refine RetIs.b ?_
      show (true && (!(ofY C (P ++ [q]) (persL C a) a).2 || decide (mayL C (P ++ [q]) (persL C a) a = [(ofY C (P ++ [q]) (persL C a) a).1]))) = true
      cases h3 : (ofY C (P ++ [q]) (persL C a) a).2 with
      | false => rfl
      | true =>
        rw [decide_eq_true (of_may pa (ofY_eta h3))]
        rfl
  · have hw : hasW C (P ++ [q]) = false := by unfold hasW; rw [hok]; rfl
    rw [e, (okC_no hk).1, (okC_no hk).2] at cl
    have cl2 : ∀ f, Ctr Try.prog 38 [.rs 2 C.length (rowsM C), .rs 3 (0 + P.length + 1) (catG (0 + P.length) (catG 0 f (rowsP P)) (rowOf 3 q.av))] [] (.tup [.val (.slice none 0 0), .i .i64 k]) := fun f =>
      Ctr.of_eq (args := [.rs 2 C.length (rowsM C), .rs 3 (P ++ [q]).length (rowsP (P ++ [q]))]) ⟨AVEq.refl _, av f⟩ cl
    have sv : Ctr Try.prog 24 [.val (.slice none 0 0), .i .i64 C.length] [] (.tup [.u, .u, .i .i64 (if (firstL [] (C.length : Int).toNat []).isSome then 0 else 17)]) :=
      Ctr.of_eq (args := [.rs 2 0 (rowsC []), .i .i64 C.length]) ⟨⟨rfl, rfl⟩, AVEq.refl _⟩ (Solve_err (l := []) (n := C.length) (by decide) (rightB_iff.2 ⟨by omega, by omega, by decide, fun c hc => by simp at hc⟩))
    obtain ⟨n1, n2, n3⟩ := no_world (b := b) pa hw
    rw [n1] at OA
    rw [n2] at MA0
    rw [n3] at SA
    have MA : ∀ f, Ctr Try.prog 53 [.rs 2 C.length (rowsM C), .rs 3 (0 + P.length + 1) (catG (0 + P.length) (catG 0 f (rowsP P)) (rowOf 3 q.av)), .i .i64 a] [.row 3 1 0 (rowsI [])] (.so 0) := fun f =>
      Ctr.of_eq (args := [.rs 2 C.length (rowsM C), .rs 3 (P ++ [q]).length (rowsP (P ++ [q])), .i .i64 a]) ⟨AVEq.refl _, av f, AVEq.refl _⟩ MA0
    repeat refine Or.inl ?_
    refine ⟨_, _, cl2 _, ?_⟩
    repeat refine Or.inl ?_
    refine ⟨[], _, sv, ?_⟩
    repeat refine Or.inl ?_
    refine ⟨fun _ => ?_, fun h => ?_⟩
    · repeat refine Or.inl ?_
      refine ⟨[], _, OA _, ?_⟩
      repeat refine Or.inl ?_
      refine ⟨_, _, fun _ => MA _, ?_⟩
      repeat refine Or.inl ?_
      refine ⟨[], _, fun _ => SA _, ?_⟩
      exact RetIs.b rfl
    · have h : ((k != 0) || ((if (firstL [] (C.length : Int).toNat []).isSome = true then (0 : Int) else 17) != 0)) = false := h
      rw [Bool.or_eq_false_iff, bne_eq_false_iff_eq] at h
      exact absurd h.1 hk
end Go.Proofs.Ytilhaifmfiobhaa
end
