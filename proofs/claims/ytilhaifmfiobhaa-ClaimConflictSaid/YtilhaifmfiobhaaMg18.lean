/-
  Several texts in one: Y12.
-/
import Derived.Test.YtilhaifmfiobhaaMg17

section
/-
  ClaimConflict.
-/
namespace Go.Proofs.Ytilhaifmfiobhaa
open Go.Eng

theorem cl_ctr {C : List Cm} {P : List Pf} (hC : C.length < 2 ^ 62) (hP : P.length < 2 ^ 62) (hok : okCP C P = true) :
    Ctr Try.prog 38 [.rs 2 C.length (rowsM C), .rs 3 P.length (rowsP P)] [.row 25 2 (clausesL C P).length (rowsC (clausesL C P))] (.tup [.so 0, .i .i64 0]) := by
  have := Clauses_fn C P hC hP
  rw [okCP_cl hok] at this
  exact this
theorem has_first {C : List Cm} {P : List Pf} (hok : okCP C P = true) : hasW C P = (firstL (clausesL C P) C.length []).isSome := by
  unfold hasW
  rw [hok, Bool.true_and]
theorem first_none {C : List Cm} {P : List Pf} (hok : okCP C P = true) (h : hasW C P = false) : firstL (clausesL C P) C.length [] = none := by
  rw [has_first hok] at h
  cases e : firstL (clausesL C P) C.length [] with
  | none => rfl
  | some vs => rw [e] at h; cases h
theorem first_some {C : List Cm} {P : List Pf} (hok : okCP C P = true) (h : hasW C P = true) : ∃ vs, firstL (clausesL C P) C.length [] = some vs := by
  rw [has_first hok] at h
  exact Option.isSome_iff_exists.1 h
theorem asc_at {l : List Int} (h : l.Pairwise (· < ·)) {i j : Nat} (hij : i < j) (hj : j < l.length) : l.getD i 0 < l.getD j 0 := by
  have := List.pairwise_iff_getElem.1 h i j (by omega) hj hij
  rwa [← gdX (d := 0) (by omega), ← gdX (d := 0) hj] at this

set_option maxRecDepth 20000 in
set_option maxHeartbeats 8000000 in
theorem claimConflict_fn (C : List Cm) (P : List Pf) : Ctr Try.prog 12 [.rs 2 C.length (rowsM C), .rs 3 P.length (rowsP P)] [] (.b true) := by
  refine fn_of_exec tabOk Try.func12 (by kernel_rfl) rfl (N := Try.f12.ntmps) rfl (res := [.tmp 4]) rfl rfl [] ?_
  repeat refine Or.inl ?_
  refine ⟨[], _, smallC_fn, ?_⟩
  repeat refine Or.inl ?_
  refine ⟨[], _, few_fn C P 10 14, ?_⟩
  repeat refine Or.inl ?_
  refine ⟨[], _, fun hg => ClaimRight_fn C P (by have := few_false hg.1; omega) (by have := few_false hg.1; omega), ?_⟩
  repeat refine Or.inl ?_
  refine ⟨fun _ => RetIs.b rfl, fun h => ?_⟩
  have h : (!(decide ((C.length : Int) ≤ 10) && decide ((P.length : Int) ≤ 14)) || !rightCP C P) = false := h
  rw [Bool.or_eq_false_iff, Bool.not_eq_false' (b := rightCP C P)] at h
  obtain ⟨hfew, hr⟩ := h
  obtain ⟨hC, hP⟩ := few_false hfew
  have hR := rightCP_iff.1 hr
  have hok := ok_small hR (by omega)
  have hlen := (okCP_iff.1 hok).2
  have hRL := rightB_iff.2 (clausesL_right hR hlen)
  have f := Conflict_fn C P (by omega) (by omega)
  have cl := cl_ctr (C := C) (P := P) (by omega) (by omega) hok
  cases e0 : conflictY C P with
  | none =>
    rw [e0] at f
    obtain ⟨vs, e⟩ := first_some hok ((conY_none hok).1 e0)
    repeat refine Or.inl ?_
    refine ⟨_, _, f, ?_⟩
    repeat refine Or.inl ?_
    refine ⟨_, _, cl, ?_⟩
    repeat refine Or.inl ?_
    refine ⟨fun h => (by cases h), fun _ => ?_⟩
    refine .inr (.inr ⟨false, [], rfl, _, _, _, _, _, Solve_fn (clausesL C P) (by omega) C.length, fun y hy => ?_⟩)
    obtain rfl := SolvK.of_sat hy hRL e
    repeat refine Or.inl ?_
    refine ⟨fun h => (by cases h), fun _ => ?_⟩
    repeat refine Or.inl ?_
    refine ⟨fun _ => RetIs.b rfl, fun h => (by cases h)⟩
  | some l =>
    rw [e0] at f
    obtain ⟨hn, hS, _⟩ := conY_some hok e0
    have e := first_none hok hn
    have hle := confS_len hS
    have hne : 0 < l.length := List.length_pos_iff.2 (confS_ne hS)
    have hz : ((l.length : Int) == 0) = false := by rw [beq_eq_false_iff_ne]; omega
    repeat refine Or.inl ?_
    refine ⟨_, _, f, ?_⟩
    repeat refine Or.inl ?_
    refine ⟨_, _, cl, ?_⟩
    repeat refine Or.inl ?_
    refine ⟨fun h => (by cases h), fun _ => ?_⟩
    refine .inr (.inr ⟨false, [], rfl, _, _, _, _, _, Solve_fn (clausesL C P) (by omega) C.length, fun y hy => ?_⟩)
    obtain ⟨c0, rfl, _⟩ := SolvK.of_uns hy hRL e
    repeat refine Or.inl ?_
    refine ⟨fun h => ?_, fun _ => ?_⟩
    · have h : (((l.length : Int) == 0) != ((17 : Int) == 0)) = true := h
      rw [hz] at h
      cases h
    repeat refine Or.inl ?_
    refine ⟨fun h => ?_, fun _ => ?_⟩
    · have h : ((l.length : Int) == 0) = true := h
      rw [hz] at h
      cases h
    repeat refine Or.inl ?_
    refine ⟨[], Nat, fun k => k ≤ l.length, fun k => [⟨12, [], .i .i64 k⟩], fun _ => [], fun k => l.length - k, ⟨0, [], Nat.zero_le _, rfl, rfl, rfl, rfl, rfl, ⟨rfl, rfl⟩, trivial⟩, ?_⟩
    intro k hk
    have hk : k ≤ l.length := hk
    refine .inl ⟨fun hc => ?_, fun _ => ?_⟩
    · have hc := dlt hc
      have hc : (k : Int) < l.length := hc
      have ek : (k : Int).toNat = k := Int.toNat_natCast k
      have hx := hS.rng _ (getD_memX (l := l) (k := (k : Int).toNat) (by omega))
      have wk : decide ((k : Int) > 0) = true → IntKind.i64.wrap ((k : Int) - 1) = ((k - 1 : Nat) : Int) ∧ 0 < k := fun h => by
        rw [decide_eq_true_eq] at h
        rw [wr (by omega) (by omega)]
        omega
      repeat refine Or.inl ?_
      refine ⟨⟨by omega, by omega⟩, by omega, fun _ => ⟨by omega, by omega⟩, fun _ => by omega, fun hg => ⟨by rw [(wk hg.1).1]; omega, by rw [(wk hg.1).1]; have := (wk hg.1).2; omega⟩, fun hg => by rw [(wk hg.1).1]; have := (wk hg.1).2; omega, fun _ => ⟨by omega, by omega⟩, fun _ => by omega, ⟨fun h => ?_, fun _ => ?_⟩⟩
      · have h : ((decide (l.getD (k : Int).toNat 0 < 0) || decide (l.getD (k : Int).toNat 0 ≥ P.length)) || (decide ((k : Int) > 0) && decide (l.getD (IntKind.i64.wrap ((k : Int) - 1)).toNat 0 ≥ l.getD (k : Int).toNat 0))) = true := h
        simp only [Bool.or_eq_true, Bool.and_eq_true, decide_eq_true_eq] at h
        rcases h with h | ⟨h1, h2⟩
        · omega
        · obtain ⟨w1, w2⟩ := wk (decide_eq_true h1)
          rw [w1, ek, Int.toNat_natCast] at h2
          have := asc_at hS.asc (show k - 1 < k by omega) (by omega)
          omega
      · exact ⟨k + 1, [], by dsimp only; omega, by dsimp only; omega, rfl, rfl, rfl, rfl, rfl, ⟨rfl, wr (by omega) (by omega)⟩, trivial⟩
    have hch : chosenL P l (-1) = pickP P l := by
      unfold chosenL
      rw [without_out]
      intro hm
      have := hS.rng _ hm
      omega
    have c0' := Chosen_fn P (by omega) l (by omega) hS.rng (-1)
    rw [hch] at c0'
    have hpl : (pickP P l).length = l.length := by simp [pickP]
    have hokp := pick_ok hok hS.rng hle
    have cp := cl_ctr (C := C) (P := pickP P l) (by omega) (by omega) hokp
    have hlp := (okCP_iff.1 hokp).2
    have hRp := rightB_iff.2 (clausesL_right (okCP_iff.1 hokp).1 hlp)
    have ep := first_none hokp (by rw [pick_has hok hS.rng hle, hS.u]; rfl)
    repeat refine Or.inl ?_
    refine ⟨_, _, c0', ?_⟩
    repeat refine Or.inl ?_
    refine ⟨_, _, cp, ?_⟩
    refine .inr (.inr ⟨false, [], rfl, _, _, _, _, _, Solve_fn (clausesL C (pickP P l)) (by omega) C.length, fun y hy => ?_⟩)
    obtain ⟨c1, rfl, hc1⟩ := SolvK.of_uns hy hRp ep
    have hcl := hc1.len
    have r1 := Refute_fn (clausesL C (pickP P l)) (by omega) C.length c1 (by omega)
    rw [hRp, refB_iff.2 hc1] at r1
    repeat refine Or.inl ?_
    refine ⟨[], _, fun _ => r1, ?_⟩
    repeat refine Or.inl ?_
    refine ⟨fun h => (by cases h), fun _ => ?_⟩
    repeat refine Or.inl ?_
    refine ⟨[], Nat, fun k => k ≤ l.length, fun k => [⟨18, [], .i .i64 k⟩], fun _ => [], fun k => l.length - k, ⟨0, [], Nat.zero_le _, rfl, rfl, rfl, rfl, rfl, ⟨rfl, rfl⟩, trivial⟩, ?_⟩
    intro k hk
    have hk : k ≤ l.length := hk
    refine .inl ⟨fun hc => ?_, fun _ => RetIs.b rfl⟩
    have hc := dlt hc
    have hc : (k : Int) < l.length := hc
    have hxm := getD_memX (l := l) (k := (k : Int).toNat) (by omega)
    have cc := Chosen_fn P (by omega) l (by omega) hS.rng (l.getD (k : Int).toNat 0)
    have hwr := without_rg hS.rng (l.getD (k : Int).toNat 0)
    have hwl := without_le (l.getD (k : Int).toNat 0) l
    have hql : (chosenL P l (l.getD (k : Int).toNat 0)).length ≤ l.length := by unfold chosenL pickP; rw [List.length_map]; exact hwl
    have hokq : okCP C (chosenL P l (l.getD (k : Int).toNat 0)) = true := pick_ok hok hwr (by omega)
    have cq := cl_ctr (C := C) (P := chosenL P l (l.getD (k : Int).toNat 0)) (by omega) (by omega) hokq
    have hlq := (okCP_iff.1 hokq).2
    have hRq' := clausesL_right (okCP_iff.1 hokq).1 hlq
    have hRq := rightB_iff.2 hRq'
    obtain ⟨vs, eq⟩ := first_some hokq (by
      have := pick_has hok hwr (by omega)
      unfold chosenL
      rw [this]
      have h2 := hS.min _ hxm
      show (!unsC C P (without (l.getD (k : Int).toNat 0) l)) = true
      rw [without_eq]
      simpa using h2)
    have hgv := (firstL_some.1 eq).good
    have k1 := Check_fn (clausesL C (chosenL P l (l.getD (k : Int).toNat 0))) (by omega) C.length vs (by have := hgv.len; omega)
    rw [checkB_iff.2 ⟨hRq', by rw [Int.toNat_natCast]; exact hgv⟩] at k1
    repeat refine Or.inl ?_
    refine ⟨⟨by omega, by omega⟩, by omega, ?_⟩
    repeat refine Or.inl ?_
    refine ⟨_, _, cc, ?_⟩
    repeat refine Or.inl ?_
    refine ⟨_, _, cq, ?_⟩
    refine .inr (.inr ⟨false, [], rfl, _, _, _, _, _, Solve_fn (clausesL C (chosenL P l (l.getD (k : Int).toNat 0))) (by omega) C.length, fun y hy => ?_⟩)
    obtain rfl := SolvK.of_sat hy hRq eq
    repeat refine Or.inl ?_
    refine ⟨[], _, fun _ => k1, ?_⟩
    repeat refine Or.inl ?_
    refine ⟨fun h => (by cases h), fun _ => ?_⟩
    exact ⟨k + 1, [], by dsimp only; omega, by dsimp only; omega, rfl, rfl, rfl, rfl, rfl, ⟨rfl, wr (by omega) (by omega)⟩, trivial⟩
end Go.Proofs.Ytilhaifmfiobhaa
end
