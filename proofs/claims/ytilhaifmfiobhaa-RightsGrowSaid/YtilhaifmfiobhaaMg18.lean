/-
  Several texts in one: Y12, V1, V2.
-/
import Derived.Test.YtilhaifmfiobhaaMg17

section
/-
  ClaimConflict.
-/
namespace Go.Proofs.Ytilhaifmfiobhaa
open Go.Eng

theorem cl_ctr {C : List Cm} {P : List Pf} (hC : C.length < 2 ^ 62) (hP : P.length < 2 ^ 62) (hok : okCP C P = true) :
    Ctr Try.prog 38 [.rs 2 C.length (rowsM C), .rs 3 P.length (rowsP P)] [.row 25 2 (clausesL C P).length (rowsC (clausesL C P))] (.tup [.so 0, .i .i64 0]) := by
  have := Clauses_fn C P hC hP
  rw [okCP_cl hok] at this
  exact this
theorem has_first {C : List Cm} {P : List Pf} (hok : okCP C P = true) : hasW C P = (firstL (clausesL C P) C.length []).isSome := by
  unfold hasW
  rw [hok, Bool.true_and]
theorem first_none {C : List Cm} {P : List Pf} (hok : okCP C P = true) (h : hasW C P = false) : firstL (clausesL C P) C.length [] = none := by
  rw [has_first hok] at h
  cases e : firstL (clausesL C P) C.length [] with
  | none => rfl
  | some vs => rw [e] at h; cases h
theorem first_some {C : List Cm} {P : List Pf} (hok : okCP C P = true) (h : hasW C P = true) : ∃ vs, firstL (clausesL C P) C.length [] = some vs := by
  rw [has_first hok] at h
  exact Option.isSome_iff_exists.1 h
theorem asc_at {l : List Int} (h : l.Pairwise (· < ·)) {i j : Nat} (hij : i < j) (hj : j < l.length) : l.getD i 0 < l.getD j 0 := by
  have := List.pairwise_iff_getElem.1 h i j (by omega) hj hij
  rwa [← gdX (d := 0) (by omega), ← gdX (d := 0) hj] at this

set_option maxRecDepth 20000 in
set_option maxHeartbeats 8000000 in
theorem claimConflict_fn (C : List Cm) (P : List Pf) : Ctr Try.prog 12 [.rs 2 C.length (rowsM C), .rs 3 P.length (rowsP P)] [] (.b true) := by
  refine fn_of_exec tabOk Try.func12 (by kernel_rfl) rfl (N := Try.f12.ntmps) rfl (res := [.tmp 4]) rfl rfl [] ?_
  repeat refine Or.inl ?_
  refine ⟨[], _, smallC_fn, ?_⟩
  repeat refine Or.inl ?_
  refine ⟨[], _, few_fn C P 10 14, ?_⟩
  repeat refine Or.inl ?_
  refine ⟨[], _, fun hg => ClaimRight_fn C P (by have := few_false hg.1; omega) (by have := few_false hg.1; omega), ?_⟩
  repeat refine Or.inl ?_
  refine ⟨fun _ => RetIs.b rfl, fun h => ?_⟩
  have h : (!(decide ((C.length : Int) ≤ 10) && decide ((P.length : Int) ≤ 14)) || !rightCP C P) = false := h
  rw [Bool.or_eq_false_iff, Bool.not_eq_false' (b := rightCP C P)] at h
  obtain ⟨hfew, hr⟩ := h
  obtain ⟨hC, hP⟩ := few_false hfew
  have hR := rightCP_iff.1 hr
  have hok := ok_small hR (by omega)
  have hlen := (okCP_iff.1 hok).2
  have hRL := rightB_iff.2 (clausesL_right hR hlen)
  have f := Conflict_fn C P (by omega) (by omega)
  have cl := cl_ctr (C := C) (P := P) (by omega) (by omega) hok
  cases e0 : conflictY C P with
  | none =>
    rw [e0] at f
    obtain ⟨vs, e⟩ := first_some hok ((conY_none hok).1 e0)
    repeat refine Or.inl ?_
    refine ⟨_, _, f, ?_⟩
    repeat refine Or.inl ?_
    refine ⟨_, _, cl, ?_⟩
    repeat refine Or.inl ?_
    refine ⟨fun h => (by cases h), fun _ => ?_⟩
    refine .inr (.inr ⟨false, [], rfl, _, _, _, _, _, Solve_fn (clausesL C P) (by omega) C.length, fun y hy => ?_⟩)
    obtain rfl := SolvK.of_sat hy hRL e
    repeat refine Or.inl ?_
    refine ⟨fun h => (by cases h), fun _ => ?_⟩
    repeat refine Or.inl ?_
    refine ⟨fun _ => RetIs.b rfl, fun h => (by cases h)⟩
  | some l =>
    rw [e0] at f
    obtain ⟨hn, hS, _⟩ := conY_some hok e0
    have e := first_none hok hn
    have hle := confS_len hS
    have hne : 0 < l.length := List.length_pos_iff.2 (confS_ne hS)
    have hz : ((l.length : Int) == 0) = false := by rw [beq_eq_false_iff_ne]; omega
    repeat refine Or.inl ?_
    refine ⟨_, _, f, ?_⟩
    repeat refine Or.inl ?_
    refine ⟨_, _, cl, ?_⟩
    repeat refine Or.inl ?_
    refine ⟨fun h => (by cases h), fun _ => ?_⟩
    refine .inr (.inr ⟨false, [], rfl, _, _, _, _, _, Solve_fn (clausesL C P) (by omega) C.length, fun y hy => ?_⟩)
    obtain ⟨c0, rfl, _⟩ := SolvK.of_uns hy hRL e
    repeat refine Or.inl ?_
    refine ⟨fun h => ?_, fun _ => ?_⟩
    · have h : (((l.length : Int) == 0) != ((17 : Int) == 0)) = true := h
      rw [hz] at h
      cases h
    repeat refine Or.inl ?_
    refine ⟨fun h => ?_, fun _ => ?_⟩
    · have h : ((l.length : Int) == 0) = true := h
      rw [hz] at h
      cases h
    repeat refine Or.inl ?_
    refine ⟨[], Nat, fun k => k ≤ l.length, fun k => [⟨12, [], .i .i64 k⟩], fun _ => [], fun k => l.length - k, ⟨0, [], Nat.zero_le _, rfl, rfl, rfl, rfl, rfl, ⟨rfl, rfl⟩, trivial⟩, ?_⟩
    intro k hk
    have hk : k ≤ l.length := hk
    refine .inl ⟨fun hc => ?_, fun _ => ?_⟩
    · have hc := dlt hc
      have hc : (k : Int) < l.length := hc
      have ek : (k : Int).toNat = k := Int.toNat_natCast k
      have hx := hS.rng _ (getD_memX (l := l) (k := (k : Int).toNat) (by omega))
      have wk : decide ((k : Int) > 0) = true → IntKind.i64.wrap ((k : Int) - 1) = ((k - 1 : Nat) : Int) ∧ 0 < k := fun h => by
        rw [decide_eq_true_eq] at h
        rw [wr (by omega) (by omega)]
        omega
      repeat refine Or.inl ?_
      refine ⟨⟨by omega, by omega⟩, by omega, fun _ => ⟨by omega, by omega⟩, fun _ => by omega, fun hg => ⟨by rw [(wk hg.1).1]; omega, by rw [(wk hg.1).1]; have := (wk hg.1).2; omega⟩, fun hg => by rw [(wk hg.1).1]; have := (wk hg.1).2; omega, fun _ => ⟨by omega, by omega⟩, fun _ => by omega, ⟨fun h => ?_, fun _ => ?_⟩⟩
      · have h : ((decide (l.getD (k : Int).toNat 0 < 0) || decide (l.getD (k : Int).toNat 0 ≥ P.length)) || (decide ((k : Int) > 0) && decide (l.getD (IntKind.i64.wrap ((k : Int) - 1)).toNat 0 ≥ l.getD (k : Int).toNat 0))) = true := h
        simp only [Bool.or_eq_true, Bool.and_eq_true, decide_eq_true_eq] at h
        rcases h with h | ⟨h1, h2⟩
        · omega
        · obtain ⟨w1, w2⟩ := wk (decide_eq_true h1)
          rw [w1, ek, Int.toNat_natCast] at h2
          have := asc_at hS.asc (show k - 1 < k by omega) (by omega)
          omega
      · exact ⟨k + 1, [], by dsimp only; omega, by dsimp only; omega, rfl, rfl, rfl, rfl, rfl, ⟨rfl, wr (by omega) (by omega)⟩, trivial⟩
    have hch : chosenL P l (-1) = pickP P l := by
      unfold chosenL
      rw [without_out]
      intro hm
      have := hS.rng _ hm
      omega
    have c0' := Chosen_fn P (by omega) l (by omega) hS.rng (-1)
    rw [hch] at c0'
    have hpl : (pickP P l).length = l.length := by simp [pickP]
    have hokp := pick_ok hok hS.rng hle
    have cp := cl_ctr (C := C) (P := pickP P l) (by omega) (by omega) hokp
    have hlp := (okCP_iff.1 hokp).2
    have hRp := rightB_iff.2 (clausesL_right (okCP_iff.1 hokp).1 hlp)
    have ep := first_none hokp (by rw [pick_has hok hS.rng hle, hS.u]; rfl)
    repeat refine Or.inl ?_
    refine ⟨_, _, c0', ?_⟩
    repeat refine Or.inl ?_
    refine ⟨_, _, cp, ?_⟩
    refine .inr (.inr ⟨false, [], rfl, _, _, _, _, _, Solve_fn (clausesL C (pickP P l)) (by omega) C.length, fun y hy => ?_⟩)
    obtain ⟨c1, rfl, hc1⟩ := SolvK.of_uns hy hRp ep
    have hcl := hc1.len
    have r1 := Refute_fn (clausesL C (pickP P l)) (by omega) C.length c1 (by omega)
    rw [hRp, refB_iff.2 hc1] at r1
    repeat refine Or.inl ?_
    refine ⟨[], _, fun _ => r1, ?_⟩
    repeat refine Or.inl ?_
    refine ⟨fun h => (by cases h), fun _ => ?_⟩
    repeat refine Or.inl ?_
    refine ⟨[], Nat, fun k => k ≤ l.length, fun k => [⟨18, [], .i .i64 k⟩], fun _ => [], fun k => l.length - k, ⟨0, [], Nat.zero_le _, rfl, rfl, rfl, rfl, rfl, ⟨rfl, rfl⟩, trivial⟩, ?_⟩
    intro k hk
    have hk : k ≤ l.length := hk
    refine .inl ⟨fun hc => ?_, fun _ => RetIs.b rfl⟩
    have hc := dlt hc
    have hc : (k : Int) < l.length := hc
    have hxm := getD_memX (l := l) (k := (k : Int).toNat) (by omega)
    have cc := Chosen_fn P (by omega) l (by omega) hS.rng (l.getD (k : Int).toNat 0)
    have hwr := without_rg hS.rng (l.getD (k : Int).toNat 0)
    have hwl := without_le (l.getD (k : Int).toNat 0) l
    have hql : (chosenL P l (l.getD (k : Int).toNat 0)).length ≤ l.length := by unfold chosenL pickP; rw [List.length_map]; exact hwl
    have hokq : okCP C (chosenL P l (l.getD (k : Int).toNat 0)) = true := pick_ok hok hwr (by omega)
    have cq := cl_ctr (C := C) (P := chosenL P l (l.getD (k : Int).toNat 0)) (by omega) (by omega) hokq
    have hlq := (okCP_iff.1 hokq).2
    have hRq' := clausesL_right (okCP_iff.1 hokq).1 hlq
    have hRq := rightB_iff.2 hRq'
    obtain ⟨vs, eq⟩ := first_some hokq (by
      have := pick_has hok hwr (by omega)
      unfold chosenL
      rw [this]
      have h2 := hS.min _ hxm
      show (!unsC C P (without (l.getD (k : Int).toNat 0) l)) = true
      rw [without_eq]
      simpa using h2)
    have hgv := (firstL_some.1 eq).good
    have k1 := Check_fn (clausesL C (chosenL P l (l.getD (k : Int).toNat 0))) (by omega) C.length vs (by have := hgv.len; omega)
    rw [checkB_iff.2 ⟨hRq', by rw [Int.toNat_natCast]; exact hgv⟩] at k1
    repeat refine Or.inl ?_
    refine ⟨⟨by omega, by omega⟩, by omega, ?_⟩
    repeat refine Or.inl ?_
    refine ⟨_, _, cc, ?_⟩
    repeat refine Or.inl ?_
    refine ⟨_, _, cq, ?_⟩
    refine .inr (.inr ⟨false, [], rfl, _, _, _, _, _, Solve_fn (clausesL C (chosenL P l (l.getD (k : Int).toNat 0))) (by omega) C.length, fun y hy => ?_⟩)
    obtain rfl := SolvK.of_sat hy hRq eq
    repeat refine Or.inl ?_
    refine ⟨[], _, fun _ => k1, ?_⟩
    repeat refine Or.inl ?_
    refine ⟨fun h => (by cases h), fun _ => ?_⟩
    exact ⟨k + 1, [], by dsimp only; omega, by dsimp only; omega, rfl, rfl, rfl, rfl, rfl, ⟨rfl, wr (by omega) (by omega)⟩, trivial⟩
end Go.Proofs.Ytilhaifmfiobhaa
end

section
/-
  Rights: copies of proofs, proofs without one, numbers without those of another list; grants.
-/
namespace Go.Proofs.Ytilhaifmfiobhaa
open Go.Eng

/-! ### numbers that are not struck -/
def keepF (p : Int → Bool) (S : List Int) : List Int := S.filter fun k => !p k
theorem keepF_take (p : Int → Bool) (S : List Int) {k : Nat} (h : k < S.length) : keepF p (S.take (k + 1)) = if p (S.getD k 0) = true then keepF p (S.take k) else keepF p (S.take k) ++ [S.getD k 0] := by
  unfold keepF
  rw [List.take_succ_eq_append_getElem h, List.filter_append]
  have e : S.getD k 0 = S[k] := by simp [List.getD, h]
  rw [← e]
  by_cases hx : p (S.getD k 0) = true
  · rw [if_pos hx, List.filter_cons_of_neg (by rw [hx]; decide)]; simp
  · rw [if_neg hx, List.filter_cons_of_pos (by simpa using hx)]; simp
theorem keepF_len (p : Int → Bool) (S : List Int) : (keepF p S).length ≤ S.length := List.length_filter_le _ _
theorem firstF_at {S : List Int} {p : Int → Bool} (h : ∃ x ∈ S, p x = true) : ∃ k, k < S.length ∧ p (S.getD k 0) = true ∧ (∀ j, j < k → p (S.getD j 0) = false) ∧ idxF p S = k := by
  have key : ∀ m, m ≤ S.length → (∀ j, j < m → p (S.getD j 0) = false) ∨ ∃ k, k < m ∧ p (S.getD k 0) = true ∧ ∀ j, j < k → p (S.getD j 0) = false := by
    intro m
    induction m with
    | zero => exact fun _ => .inl fun j hj => by omega
    | succ m ih =>
      intro hm
      rcases ih (by omega) with h1 | ⟨k, h1, h2, h3⟩
      · by_cases he : p (S.getD m 0) = true
        · exact .inr ⟨m, by omega, he, h1⟩
        · refine .inl fun j hj => ?_
          by_cases hjm : j = m
          · rw [hjm]; simpa using he
          · exact h1 j (by omega)
      · exact .inr ⟨k, by omega, h2, h3⟩
  rcases key S.length (Nat.le_refl _) with h1 | ⟨k, h1, h2, h3⟩
  · obtain ⟨x, hx, hpx⟩ := h
    obtain ⟨j, hj, e⟩ := mem_getDX hx
    have := h1 j hj
    rw [e, hpx] at this
    cases this
  · exact ⟨k, h1, h2, h3, idxF_some 0 _ S k h1 h3 h2⟩
theorem keepF_head {S : List Int} {p : Int → Bool} : ∀ {k : Nat}, k ≤ S.length → (∀ j, j < k → p (S.getD j 0) = false) → keepF p (S.take k) = S.take k := by
  intro k hk h
  unfold keepF
  rw [List.filter_eq_self]
  intro y hy
  obtain ⟨j, hj, e⟩ := mem_getDX hy
  rw [List.length_take] at hj
  have : S.getD j 0 = y := by
    rw [← e]
    simp only [List.getD]
    rw [List.getElem?_take_of_lt (by omega)]
  rw [← this, h j (by omega)]
  rfl
/-- The row while the numbers are moved. -/
def movedF (p : Int → Bool) (S : List Int) (j q : Nat) : Int := if q < (keepF p (S.take j)).length then (keepF p (S.take j)).getD q 0 else S.getD q 0

set_option maxRecDepth 20000 in
set_option maxHeartbeats 4000000 in
theorem delF_some (S : List Int) (hS : S.length ≤ 1000000) (fid : FuncId) (c1 : List AV) (p : Int → Bool) (hp : ∀ x ∈ S, Ctr Try.prog fid [.i .i64 x, .rp c1] [] (.b (p x))) (hx : ∃ x ∈ S, p x = true) :
    CtrM Try.prog 91 false [.row 3 1 S.length (rowsI S)] [.so 0, .fn fid [.rp c1]] (fun _ : Unit => True) (fun _ => [.dead]) (fun _ => [.row 3 1 (keepF p S).length (rowsI (keepF p S))]) (fun _ => .so 1) := by
  refine fn_of_execM tabOk Try.func91 (by kernel_rfl) rfl (N := Try.f91.ntmps) rfl (res := [.tmp 4]) rfl false false [.row 3 1 S.length (rowsI S)] _ _ _ _ rfl (fun h => by cases h) [(999999, [.own 4])] ?_
  obtain ⟨k0, hk0, hk1, hk2, hk3⟩ := firstF_at hx
  repeat refine Or.inl ?_
  refine ⟨[], _, indexI1_fn S (by omega) fid c1 p hp, ?_⟩
  rw [hk3]
  repeat refine Or.inl ?_
  refine ⟨fun h => ?_, fun _ => ?_⟩
  · have h : ((k0 : Int) == -1) = true := h
    rw [beq_iff_eq] at h
    omega
  have w0 : keepF p (S.take k0) = S.take k0 := keepF_head (by omega) hk2
  have w1 : keepF p (S.take (k0 + 1)) = S.take k0 := by rw [keepF_take p S hk0, if_pos hk1, w0]
  have l0 : (S.take k0).length = k0 := by rw [List.length_take]; omega
  repeat refine Or.inl ?_
  refine ⟨[], Nat, fun j => k0 < j ∧ j ≤ S.length, fun j => [⟨6, [], .i .i64 j⟩, ⟨5, [], .i .i64 (keepF p (S.take j)).length⟩], fun j => [⟨0, [], .row 3 1 S.length fun q => [.i .i64 (movedF p S j q)]⟩], fun j => S.length - j,
    ⟨k0 + 1, [], ⟨by omega, by omega⟩, rfl, rfl, rfl, rfl, rfl, ⟨⟨rfl, wr (by omega) (by omega)⟩, ⟨rfl, ?_⟩⟩, ⟨rfl, rfl, rfl, fun q hq => ?_⟩⟩, ?_⟩
  · rw [w1, l0]
  · show [AV.i .i64 (S.getD q 0)] = [AV.i .i64 (movedF p S (k0 + 1) q)]
    unfold movedF
    rw [w1, l0]
    split
    · rename_i hq2
      have : (S.take k0).getD q 0 = S.getD q 0 := by
        simp only [List.getD]
        rw [List.getElem?_take_of_lt hq2]
      rw [this]
    · rfl
  rintro j ⟨hj1, hj2⟩
  have hwl : (keepF p (S.take j)).length < j := by
    have : ∀ d, k0 + 1 + d ≤ S.length → (keepF p (S.take (k0 + 1 + d))).length < k0 + 1 + d := by
      intro d
      induction d with
      | zero => intro _; rw [Nat.add_zero, w1, l0]; omega
      | succ d ih =>
        intro hd
        have := ih (by omega)
        rw [show k0 + 1 + (d + 1) = (k0 + 1 + d) + 1 by omega, keepF_take p S (by omega)]
        split
        · omega
        · rw [List.length_append]; simp; omega
    have := this (j - (k0 + 1)) (by omega)
    rwa [show k0 + 1 + (j - (k0 + 1)) = j by omega] at this
  refine .inl ⟨fun hc => ?_, fun hc => ?_⟩
  · have hc := dlt hc
    have hc : (j : Int) < S.length := hc
    have ej : (j : Int).toNat = j := Int.toNat_natCast j
    have hgj : movedF p S j (j : Int).toNat = S.getD j 0 := by
      unfold movedF
      rw [ej, if_neg (by omega)]
    have hwt := keepF_take p S (k := j) (by omega)
    have hjm : movedF p S j (j : Int).toNat ∈ S := by rw [hgj]; exact getD_memA 0 (by omega)
    repeat refine Or.inl ?_
    refine ⟨⟨by omega, by omega⟩, by omega, ?_⟩
    repeat refine Or.inl ?_
    refine ⟨[], _, hp _ (hjm), ?_⟩
    repeat refine Or.inl ?_
    refine ⟨fun h3 => ?_, fun h3 => ?_⟩
    · have h3 : (!(p (movedF p S j (j : Int).toNat))) = true := h3
      rw [hgj, Bool.not_eq_true'] at h3
      rw [if_neg (by rw [h3]; decide)] at hwt
      refine ⟨⟨by omega, by omega⟩, by omega, ?_⟩
      refine ⟨j + 1, [], ⟨by omega, by omega⟩, by dsimp only; omega, rfl, rfl, rfl, rfl, rfl, ⟨⟨rfl, wr (by omega) (by omega)⟩, ⟨rfl, ?_⟩⟩, ⟨rfl, rfl, rfl, fun q hq => ?_⟩⟩
      · rw [hwt, List.length_append, wr (by omega) (by omega)]
        rfl
      · show (if q = ((keepF p (S.take j)).length : Int).toNat then Go.Eng.over 0 [AV.i .i64 (movedF p S j (j : Int).toNat)] [AV.i .i64 (movedF p S j q)] else [AV.i .i64 (movedF p S j q)]) = [AV.i .i64 (movedF p S (j + 1) q)]
        rw [Int.toNat_natCast, hgj]
        unfold movedF
        rw [hwt, getD_snocI, List.length_append, List.length_singleton]
        by_cases h1 : q = (keepF p (S.take j)).length
        · have e1 : (if q < (keepF p (S.take j)).length + 1 then (if q < (keepF p (S.take j)).length then (keepF p (S.take j)).getD q 0 else if q = (keepF p (S.take j)).length then S.getD j 0 else 0) else S.getD q 0) = S.getD j 0 := by
            rw [if_pos (show q < (keepF p (S.take j)).length + 1 by omega), if_neg (show ¬ q < (keepF p (S.take j)).length by omega), if_pos h1]
          rw [e1, if_pos h1]
          rfl
        · rw [if_neg h1]
          by_cases h2 : q < (keepF p (S.take j)).length
          · rw [if_pos h2, if_pos (show q < (keepF p (S.take j)).length + 1 by omega), if_pos h2]
          · rw [if_neg h2, if_neg (show ¬ q < (keepF p (S.take j)).length + 1 by omega)]
    · have h3 : (!(p (movedF p S j (j : Int).toNat))) = false := h3
      rw [hgj, Bool.not_eq_false'] at h3
      rw [if_pos h3] at hwt
      refine ⟨j + 1, [], ⟨by omega, by omega⟩, by dsimp only; omega, rfl, rfl, rfl, rfl, rfl, ⟨⟨rfl, wr (by omega) (by omega)⟩, ⟨rfl, by rw [hwt]⟩⟩, ⟨rfl, rfl, rfl, fun q hq => ?_⟩⟩
      show [AV.i .i64 (movedF p S j q)] = [AV.i .i64 (movedF p S (j + 1) q)]
      unfold movedF
      rw [hwt]
  · have hc := dnlt hc
    have hc : (S.length : Int) ≤ j := hc
    obtain rfl : j = S.length := by omega
    have et : S.take S.length = S := List.take_length
    repeat refine Or.inl ?_
    refine ⟨⟨by omega, by omega, by omega⟩, ?_⟩
    repeat refine Or.inl ?_
    refine ⟨⟨by omega, by omega, by omega⟩, ?_⟩
    refine ⟨⟨(), [(1, 1)], trivial, ⟨⟨⟨rfl, rfl, rfl⟩, trivial⟩, ⟨⟨rfl, rfl, trivial, trivial⟩, ⟨rfl, rfl, trivial, ⟨rfl, rfl, ?_, fun q hq => ?_⟩⟩, trivial⟩, rfl⟩, rfl, fun _ => ⟨rfl, trivial, fun _ _ => rfl⟩⟩⟩
    · rw [et]
      omega
    · have hq : q < (keepF p S).length := hq
      show (if ((keepF p (S.take S.length)).length : Int).toNat ≤ q ∧ q < ((keepF p (S.take S.length)).length : Int).toNat + ((S.length : Int) - (keepF p (S.take S.length)).length).toNat then _ else [AV.i .i64 (movedF p S S.length q)]) = [AV.i .i64 ((keepF p S).getD q 0)]
      rw [if_neg (by rw [et]; omega)]
      unfold movedF
      rw [et, if_pos hq]

set_option maxRecDepth 20000 in
theorem delF_none (S : List Int) (hS : S.length ≤ 1000000) (fid : FuncId) (c1 : List AV) (p : Int → Bool) (hp : ∀ x ∈ S, Ctr Try.prog fid [.i .i64 x, .rp c1] [] (.b (p x))) (hno : ∀ x ∈ S, p x = false) :
    CtrM Try.prog 91 false [.row 3 1 S.length (rowsI S)] [.so 0, .fn fid [.rp c1]] (fun _ : Unit => True) (fun _ => [.row 3 1 S.length (rowsI S)]) (fun _ => []) (fun _ => .so 0) := by
  refine fn_of_execM tabOk Try.func91 (by kernel_rfl) rfl (N := Try.f91.ntmps) rfl (res := [.tmp 4]) rfl false false [.row 3 1 S.length (rowsI S)] _ _ _ _ rfl (fun h => by cases h) [] ?_
  have hi : idxF p S = -1 := idxF_none 0 p S fun j hj => hno _ (getD_memX hj)
  repeat refine Or.inl ?_
  refine ⟨[], _, indexI1_fn S (by omega) fid c1 p hp, ?_⟩
  rw [hi]
  repeat refine Or.inl ?_
  refine ⟨fun _ => ?_, fun h => by cases h⟩
  exact ⟨⟨(), [], trivial, ⟨⟨⟨rfl, rfl, rfl⟩, trivial⟩, ⟨⟨rfl, rfl, trivial, ⟨rfl, rfl, rfl, fun _ _ => rfl⟩⟩, trivial⟩, rfl⟩, rfl, fun _ => ⟨rfl, fun _ _ => rfl⟩⟩⟩

/-! ### one list without the numbers of another -/
def minusL (a b : List Int) : List Int := keepF (hasN b) a
set_option maxRecDepth 20000 in
theorem differ1_fn (b : List Int) (hb : b.length < 2^62) (x : Int) : Ctr Try.prog 127 [.i .i64 x, .rp [.rs 1 b.length (rowsI b)]] [] (.b (hasN b x)) := by
  refine fn_of_exec tabOk Try.func127 (by kernel_rfl) rfl (N := Try.f127.ntmps) rfl (res := [.tmp 3]) rfl rfl [] ?_
  repeat refine Or.inl ?_
  refine ⟨[], _, contains_fn b hb x, ?_⟩
  exact RetIs.b rfl

/-! ### copies of proofs, and proofs without one -/
theorem catP0 (f : Nat → List AV) (o : List Pf) : ∀ q, q < o.length → catG 0 f (rowsP o) q = rowsP o q := by
  intro q _
  unfold catG
  rw [if_neg (by omega), Nat.sub_zero]
set_option maxRecDepth 20000 in
theorem cloneP_fn (l : List Pf) (hl : l.length ≤ 1000000) : Ctr Try.prog 111 [.rs 3 l.length (rowsP l)] [.row 55 3 l.length (rowsP l)] (.so 0) := by
  refine fn_of_exec tabOk Try.func111 (by kernel_rfl) rfl (N := Try.f111.ntmps) rfl (res := [.tmp 2]) rfl rfl [(999999, [.nl 2 55 3])] ?_
  refine .inl fun c hc => ⟨fun h => ?_, fun h => ⟨fits (by omega), ?_⟩⟩
  · have h0 : l.length = 0 := hc (by cases c <;> first | rfl | cases h)
    exact RetIs.so rfl h0.symm (fun k hk => by omega) (fun k hk => by omega)
  · exact RetIs.so rfl (Nat.zero_add _) (fun k hk => catP0 _ l k hk) (fun _ _ => rfl)

theorem getD_erase (P : List Pf) (i q : Nat) : (P.eraseIdx i).getD q dPf = if q < i then P.getD q dPf else P.getD (q + 1) dPf := by
  simp only [List.getD]
  rw [List.getElem?_eraseIdx]
  split <;> rfl
set_option maxRecDepth 20000 in
set_option maxHeartbeats 4000000 in
theorem deleteP_fn (P : List Pf) (hP : P.length ≤ 1000000) (i : Nat) (hi : i < P.length) (j : Int) (hj : j = (i : Int) + 1) :
    CtrM Try.prog 114 false [.row 55 3 P.length (rowsP P)] [.so 0, .i .i64 i, .i .i64 j] (fun _ : Unit => True) (fun _ => [.dead]) (fun _ => [.row 55 3 (P.eraseIdx i).length (rowsP (P.eraseIdx i))]) (fun _ => .so 1) := by
  refine fn_of_execM tabOk Try.func114 (by kernel_rfl) rfl (N := Try.f114.ntmps) rfl (res := [.tmp 6]) rfl false false [.row 55 3 P.length (rowsP P)] _ _ _ _ rfl (fun h => by cases h) [(999999, [.own 6])] ?_
  subst hj
  repeat refine Or.inl ?_
  refine ⟨⟨by omega, by omega, by omega, by omega⟩, ?_⟩
  repeat refine Or.inl ?_
  refine ⟨fun h => ?_, fun _ => ?_⟩
  · have h : ((i : Int) == (i : Int) + 1) = true := h
    rw [beq_iff_eq] at h
    omega
  repeat refine Or.inl ?_
  refine ⟨⟨by omega, by omega, by omega⟩, ?_⟩
  repeat refine Or.inl ?_
  refine ⟨⟨by omega, by omega, by omega⟩, ?_⟩
  repeat refine Or.inl ?_
  refine ⟨by omega, ?_⟩
  repeat refine Or.inl ?_
  refine ⟨⟨by omega, by omega, by omega⟩, ?_⟩
  have hel : (P.eraseIdx i).length = P.length - 1 := by rw [List.length_eraseIdx, if_pos hi]
  refine ⟨⟨(), [(1, 2)], trivial, ⟨⟨⟨rfl, rfl, rfl⟩, trivial⟩, ⟨⟨rfl, rfl, trivial, trivial⟩, ⟨rfl, rfl, trivial, ⟨rfl, rfl, ?_, fun q hq => ?_⟩⟩, trivial⟩, rfl⟩, rfl, fun _ => ⟨rfl, trivial, fun _ _ => rfl⟩⟩⟩
  · rw [hel]
    omega
  · have hq : q < (P.eraseIdx i).length := hq
    have e0 : q + Int.toNat 0 = q := rfl
    dsimp only
    rw [e0, if_neg (by rw [hel] at hq; omega)]
    unfold overG rowsP
    rw [getD_erase]
    by_cases h : q < i
    · rw [if_pos h, if_neg (by omega)]
    · rw [if_neg h, if_pos (by rw [hel] at hq; omega)]
      congr 2
      omega
end Go.Proofs.Ytilhaifmfiobhaa
end

section
/-
  Rights: grants, and who has a right by them; plain Lean first, then the small functions.
-/
namespace Go.Proofs.Ytilhaifmfiobhaa
open Go.Eng

/-! ### grants -/
def badG (g : Gt) : Bool := ((((decide (g.grp < 0) || decide (g.grp ≥ 500)) || decide (g.per < 0)) || decide (g.per ≥ 2000)) || decide (g.rig < 0)) || decide (g.rig > 15)
def validG (G : List Gt) : Bool := !G.any badG
theorem badG_no {g : Gt} : badG g = false ↔ (0 ≤ g.grp ∧ g.grp < 500) ∧ (0 ≤ g.per ∧ g.per < 2000) ∧ (0 ≤ g.rig ∧ g.rig ≤ 15) := by
  unfold badG
  simp only [Bool.or_eq_false_iff, decide_eq_false_iff_not]
  constructor
  · rintro ⟨⟨⟨⟨⟨h1, h2⟩, h3⟩, h4⟩, h5⟩, h6⟩
    omega
  · rintro ⟨⟨h1, h2⟩, ⟨h3, h4⟩, h5, h6⟩
    refine ⟨⟨⟨⟨⟨?_, ?_⟩, ?_⟩, ?_⟩, ?_⟩, ?_⟩ <;> omega
theorem validG_mem {G : List Gt} (h : validG G = true) {g : Gt} (hg : g ∈ G) : (0 ≤ g.grp ∧ g.grp < 500) ∧ (0 ≤ g.per ∧ g.per < 2000) ∧ (0 ≤ g.rig ∧ g.rig ≤ 15) := by
  unfold validG at h
  rw [Bool.not_eq_true', List.any_eq_false] at h
  have := h g hg
  exact badG_no.1 (by simpa using this)
theorem validG_of {G : List Gt} (h : ∀ g ∈ G, badG g = false) : validG G = true := by
  unfold validG
  rw [Bool.not_eq_true', List.any_eq_false]
  intro g hg
  rw [h g hg]
  decide
theorem validG_snoc {G : List Gt} {g : Gt} : validG (G ++ [g]) = (validG G && !badG g) := by
  unfold validG
  rw [List.any_append, Bool.not_or]
  simp
def bitN (x : Int) (i : Nat) : Bool := x.toNat.testBit i
/-- Whether a grant says so. -/
def grB (grp p : Int) (i : Nat) (g : Gt) : Bool := ((g.grp == grp) && (g.per == p)) && bitN g.rig i
/-- Whether a person has a right in a group. -/
def hasG (G : List Gt) (grp p r : Int) : Bool := (List.range 4).all fun i => !bitN r i || G.any (grB grp p i)
theorem hasG_iff {G : List Gt} {grp p r : Int} : hasG G grp p r = true ↔ ∀ i, i < 4 → bitN r i = true → ∃ g ∈ G, g.grp = grp ∧ g.per = p ∧ bitN g.rig i = true := by
  unfold hasG grB
  simp only [List.all_eq_true, List.mem_range, Bool.or_eq_true, Bool.not_eq_true', List.any_eq_true, Bool.and_eq_true, beq_iff_eq]
  constructor
  · intro h i hi hb
    rcases h i hi with h1 | ⟨g, hg, h1⟩
    · rw [hb] at h1; cases h1
    · exact ⟨g, hg, h1.1.1, h1.1.2, h1.2⟩
  · intro h i hi
    cases hb : bitN r i with
    | false => exact .inl rfl
    | true =>
      obtain ⟨g, hg, h1, h2, h3⟩ := h i hi hb
      exact .inr ⟨g, hg, ⟨h1, h2⟩, h3⟩
theorem hasG_mono {G H : List Gt} (h : ∀ g ∈ G, g ∈ H) {grp p r : Int} (hh : hasG G grp p r = true) : hasG H grp p r = true := by
  rw [hasG_iff] at hh ⊢
  intro i hi hb
  obtain ⟨g, hg, h1⟩ := hh i hi hb
  exact ⟨g, h g hg, h1⟩
theorem bit_ex {r : Int} (h1 : 1 ≤ r) (h2 : r ≤ 15) : ∃ i, i < 4 ∧ bitN r i = true := by
  have : r = 1 ∨ r = 2 ∨ r = 3 ∨ r = 4 ∨ r = 5 ∨ r = 6 ∨ r = 7 ∨ r = 8 ∨ r = 9 ∨ r = 10 ∨ r = 11 ∨ r = 12 ∨ r = 13 ∨ r = 14 ∨ r = 15 := by omega
  rcases this with rfl | rfl | rfl | rfl | rfl | rfl | rfl | rfl | rfl | rfl | rfl | rfl | rfl | rfl | rfl <;> first | exact ⟨0, by decide, by decide⟩ | exact ⟨1, by decide, by decide⟩ | exact ⟨2, by decide, by decide⟩ | exact ⟨3, by decide, by decide⟩
theorem hasG_nil {grp p r : Int} (h1 : 1 ≤ r) (h2 : r ≤ 15) : hasG [] grp p r = false := by
  rw [← Bool.not_eq_true, hasG_iff]
  intro h
  obtain ⟨i, hi, hb⟩ := bit_ex h1 h2
  obtain ⟨g, hg, _⟩ := h i hi hb
  cases hg
theorem hasG_or {G : List Gt} {grp p a b : Int} (ha : 0 ≤ a ∧ a ≤ 15) (hb : 0 ≤ b ∧ b ≤ 15) : hasG G grp p (bitsI .or .i64 a b) = (hasG G grp p a && hasG G grp p b) := by
  rw [bits_or (by omega) (by omega), Bool.eq_iff_iff, Bool.and_eq_true, hasG_iff, hasG_iff, hasG_iff]
  have e : ∀ i, bitN ((a.toNat ||| b.toNat : Nat) : Int) i = (bitN a i || bitN b i) := fun i => by
    unfold bitN
    rw [Int.toNat_natCast, Nat.testBit_or]
  constructor
  · intro h
    exact ⟨fun i hi hh => h i hi (by rw [e, hh]; rfl), fun i hi hh => h i hi (by rw [e, hh, Bool.or_true])⟩
  · rintro ⟨h1, h2⟩ i hi hh
    rw [e, Bool.or_eq_true] at hh
    rcases hh with hh | hh
    · exact h1 i hi hh
    · exact h2 i hi hh

/-! ### what the grants of a group come to -/
def sumStep (grp : Int) (L : List (Int × Int)) (g : Gt) : List (Int × Int) := if g.grp = grp then mset L g.per (bitsI .or .i64 ((mget L g.per).getD 0) g.rig) else L
def sumsL (G : List Gt) (grp : Int) : List (Int × Int) := G.foldl (sumStep grp) []
theorem sumsL_take (G : List Gt) (grp : Int) {k : Nat} (h : k < G.length) : sumsL (G.take (k + 1)) grp = sumStep grp (sumsL (G.take k) grp) (G.getD k dGt) := by
  unfold sumsL
  rw [List.take_succ_eq_append_getElem h, List.foldl_append]
  simp [List.getD, h]
theorem sumsL_snoc (G : List Gt) (g : Gt) (grp : Int) : sumsL (G ++ [g]) grp = sumStep grp (sumsL G grp) g := by
  unfold sumsL
  rw [List.foldl_append]
  rfl
structure SumP (G : List Gt) (grp : Int) : Prop where
  rng : ∀ p, 0 ≤ (mget (sumsL G grp) p).getD 0 ∧ (mget (sumsL G grp) p).getD 0 ≤ 15
  bit : ∀ p i, bitN ((mget (sumsL G grp) p).getD 0) i = true ↔ ∃ g ∈ G, g.grp = grp ∧ g.per = p ∧ bitN g.rig i = true
  nd : (mkeys (sumsL G grp)).Nodup
theorem sumP (grp : Int) : ∀ n : Nat, ∀ G : List Gt, G.length = n → validG G = true → SumP G grp
  | 0, G, h, _ => by
    obtain rfl := List.eq_nil_of_length_eq_zero h
    refine ⟨fun p => ⟨Int.le_refl _, by show (0 : Int) ≤ 15; decide⟩, fun p i => ⟨fun h => ?_, fun ⟨g, hg, _⟩ => by cases hg⟩, List.nodup_nil⟩
    have h : (0 : Nat).testBit i = true := h
    simp at h
  | n + 1, G, h, hv => by
    obtain ⟨H, g, rfl⟩ : ∃ H g, G = H ++ [g] := ⟨G.dropLast, G.getLast (by intro e; rw [e] at h; cases h), (List.dropLast_concat_getLast _).symm⟩
    rw [validG_snoc, Bool.and_eq_true] at hv
    have ih := sumP grp n H (by simpa using h) hv.1
    have hg := badG_no.1 (by simpa using hv.2)
    have e := sumsL_snoc H g grp
    unfold sumStep at e
    by_cases hgr : g.grp = grp
    · rw [if_pos hgr] at e
      have hr := ih.rng g.per
      have hor := bits_or (x := (mget (sumsL H grp) g.per).getD 0) (y := g.rig) (by omega) (by omega)
      have hb : ∀ i, bitN (bitsI .or .i64 ((mget (sumsL H grp) g.per).getD 0) g.rig) i = (bitN ((mget (sumsL H grp) g.per).getD 0) i || bitN g.rig i) := fun i => by
        rw [hor]
        unfold bitN
        rw [Int.toNat_natCast, Nat.testBit_or]
      refine ⟨fun p => ?_, fun p i => ?_, by rw [e]; exact nodup_mset ih.nd _ _⟩
      · rw [e, mget_mset]
        by_cases hp : p = g.per
        · rw [if_pos hp, Option.getD_some, hor]
          have : ((mget (sumsL H grp) g.per).getD 0).toNat ||| g.rig.toNat < 2 ^ 4 := Nat.or_lt_two_pow (by omega) (by omega)
          omega
        · rw [if_neg hp]
          exact ih.rng p
      · rw [e, mget_mset]
        by_cases hp : p = g.per
        · rw [if_pos hp, Option.getD_some, hb, Bool.or_eq_true, ← hp, ih.bit p i]
          constructor
          · rintro (⟨g2, h1, h2⟩ | h1)
            · exact ⟨g2, List.mem_append_left _ h1, h2⟩
            · exact ⟨g, by simp, hgr, hp.symm, h1⟩
          · rintro ⟨g2, h1, h2, h3, h4⟩
            rcases List.mem_append.1 h1 with h1 | h1
            · exact .inl ⟨g2, h1, h2, h3, h4⟩
            · rw [List.mem_singleton.1 h1] at h4
              exact .inr h4
        · rw [if_neg hp, ih.bit p i]
          constructor
          · rintro ⟨g2, h1, h2⟩
            exact ⟨g2, List.mem_append_left _ h1, h2⟩
          · rintro ⟨g2, h1, h2, h3, h4⟩
            rcases List.mem_append.1 h1 with h1 | h1
            · exact ⟨g2, h1, h2, h3, h4⟩
            · rw [List.mem_singleton.1 h1] at h3
              exact absurd h3.symm hp
    · rw [if_neg hgr] at e
      refine ⟨fun p => by rw [e]; exact ih.rng p, fun p i => ?_, by rw [e]; exact ih.nd⟩
      rw [e, ih.bit p i]
      constructor
      · rintro ⟨g2, h1, h2⟩
        exact ⟨g2, List.mem_append_left _ h1, h2⟩
      · rintro ⟨g2, h1, h2, h3⟩
        rcases List.mem_append.1 h1 with h1 | h1
        · exact ⟨g2, h1, h2, h3⟩
        · rw [List.mem_singleton.1 h1] at h2
          exact absurd h2 hgr
/-- What is said of a person, by the sum of the grants. -/
def saidB (s r : Int) : Bool := bitsI .and .i64 s r == r
theorem saidB_iff {s r : Int} (hs : 0 ≤ s ∧ s ≤ 15) (hr : 0 ≤ r ∧ r ≤ 15) : saidB s r = true ↔ ∀ i, i < 4 → bitN r i = true → bitN s i = true := by
  unfold saidB
  rw [bits_and (by omega) (by omega), beq_iff_eq]
  have hr2 : r = (r.toNat : Int) := by omega
  constructor
  · intro h i _ hb
    have h : s.toNat &&& r.toNat = r.toNat := by omega
    unfold bitN at hb ⊢
    rw [← h, Nat.testBit_and, Bool.and_eq_true] at hb
    exact hb.1
  · intro h
    have : s.toNat &&& r.toNat = r.toNat := by
      refine Nat.eq_of_testBit_eq fun i => ?_
      rw [Nat.testBit_and]
      cases hb : r.toNat.testBit i with
      | false => rw [Bool.and_false]
      | true =>
        rw [Bool.and_true]
        have hi : i < 4 := by
          rcases Nat.lt_or_ge i 4 with h4 | h4
          · exact h4
          · have : r.toNat < 2 ^ i := Nat.lt_of_lt_of_le (show r.toNat < 2 ^ 4 by omega) (Nat.pow_le_pow_right (by decide) h4)
            rw [Nat.testBit_lt_two_pow this] at hb
            cases hb
        exact h i hi hb
    omega
theorem said_has {G : List Gt} (hv : validG G = true) {grp p r : Int} (h1 : 1 ≤ r) (h2 : r ≤ 15) : ((mget (sumsL G grp) p).isSome && saidB ((mget (sumsL G grp) p).getD 0) r) = hasG G grp p r := by
  have S := sumP grp _ G rfl hv
  have hs := saidB_iff (S.rng p) (show 0 ≤ r ∧ r ≤ 15 by omega)
  have hb : saidB ((mget (sumsL G grp) p).getD 0) r = hasG G grp p r := by
    rw [Bool.eq_iff_iff, hs, hasG_iff]
    constructor
    · exact fun h i hi hb => (S.bit p i).1 (h i hi hb)
    · exact fun h i hi hb => (S.bit p i).2 (h i hi hb)
  rw [hb]
  cases hm : mget (sumsL G grp) p with
  | some v => rfl
  | none =>
    rw [← hb, hm]
    have : saidB ((none : Option Int).getD 0) r = false := by
      rw [← Bool.not_eq_true, saidB_iff ⟨by decide, by decide⟩ (by omega)]
      intro h
      obtain ⟨i, hi, hb⟩ := bit_ex h1 h2
      have := h i hi hb
      unfold bitN at this
      simp at this
    rw [this]
    rfl

/-! ### the small functions -/
set_option maxRecDepth 20000 in
theorem valid1_fn (g : Gt) : Ctr Try.prog 130 [.ag g.av] [] (.b (badG g)) := by
  refine fn_of_exec tabOk Try.func130 (by kernel_rfl) rfl (N := Try.f130.ntmps) rfl (res := [.tmp 2]) rfl rfl [] ?_
  exact RetIs.b rfl
set_option maxRecDepth 20000 in
theorem valid_fn (G : List Gt) (hG : G.length < 2^62) : Ctr Try.prog 124 [.rs 3 G.length (rowsG G)] [] (.b (validG G)) := by
  refine fn_of_exec tabOk Try.func124 (by kernel_rfl) rfl (N := Try.f124.ntmps) rfl (res := [.tmp 2]) rfl rfl [] ?_
  repeat refine Or.inl ?_
  refine ⟨[], _, containsG0_fn G hG 130 badG (fun x _ => valid1_fn x), ?_⟩
  exact RetIs.b rfl
theorem few27_fn (C : List Cm) (P : List Pf) (G : List Gt) : Ctr Try.prog 59 [.rs 2 C.length (rowsM C), .rs 3 P.length (rowsP P), .rs 3 G.length (rowsG G)] [] (.b ((decide ((C.length : Int) ≤ 8) && decide ((P.length : Int) ≤ 10)) && decide ((G.length : Int) ≤ 12))) := by
  refine fn_of_exec tabOk Try.func59 (by kernel_rfl) rfl (N := Try.f59.ntmps) rfl (res := [.tmp 6]) rfl rfl [] ?_
  exact RetIs.b rfl
end Go.Proofs.Ytilhaifmfiobhaa
end
