/-
  Several texts in one: W17, W18.
-/
import Derived.Test.YtilhaifmfiobhaaMg16

section
/-
  SatFollows.
-/
namespace Go.Proofs.Ytilhaifmfiobhaa
open Go.Eng

theorem noL_snoc (lits : List Int) (k : Nat) (h : k < lits.length) : noL (lits.take (k + 1)) = noL (lits.take k) ++ [unit (opp (lits.getD k 0))] := by
  unfold noL
  rw [List.take_succ_eq_append_getElem h, List.map_append]
  simp [List.getD, h]
theorem opp_calc {x : Int} (h0 : 0 ≤ x) (h1 : x < 1000000) : IntKind.i64.wrap (IntKind.i64.wrap (x + 1) - IntKind.i64.wrap (2 * x.tmod 2)) = opp x := by
  rw [Int.tmod_eq_emod_of_nonneg h0, wr (n := x + 1) (by omega) (by omega), wr (n := 2 * (x % 2)) (by omega) (by omega), wr (by omega) (by omega)]
  rfl
theorem catI1 (f : Nat → List AV) (o : List Int) (c : Int) : ∀ q, q < (o ++ [c]).length → catG (0 + o.length) (catG 0 f (rowsI o)) (rowOf 1 [.i .i64 c]) q = rowsI (o ++ [c]) q := by
  intro q hq
  rw [← snocZ o c q hq, Nat.zero_add]
  unfold catG
  split
  · rw [if_neg (by omega), Nat.sub_zero]
  · rfl

set_option maxRecDepth 20000 in
set_option maxHeartbeats 4000000 in
theorem satFollows_fn (l : List Cl) (n : Int) (lits : List Int) (c : Cl) :
    Ctr Try.prog 3 [.rs 2 l.length (rowsC l), .i .i64 n, .rs 1 lits.length (rowsI lits), .ag c.av] [] (.b true) := by
  refine fn_of_exec tabOk Try.func3 (by kernel_rfl) rfl (N := Try.f3.ntmps) rfl (res := [.tmp 8]) rfl rfl [(6, [.sl 51 .u])] ?_
  repeat refine Or.inl ?_
  refine ⟨[], _, small_fn, ?_⟩
  repeat refine Or.inl ?_
  refine ⟨[], _, fun hg => rRight_fn l (by
    have hg : ((decide ((l.length : Int) > 100) || decide (n > 40)) || decide ((lits.length : Int) > 10)) = false := hg.1
    simp only [Bool.or_eq_false_iff, decide_eq_false_iff_not] at hg
    omega) n, ?_⟩
  have rc : Ctr Try.prog 22 [.rs 2 1 (rowOf 2 c.av), .i .i64 n] [] (.b (rightB [c] n)) :=
    Ctr.of_eq (args := [.rs 2 1 (rowsC [c]), .i .i64 n]) ⟨⟨rfl, rfl, one rfl⟩, AVEq.refl _⟩ (rRight_fn [c] (by simp) n)
  repeat refine Or.inl ?_
  refine ⟨[], _, fun _ => rc, ?_⟩
  repeat refine Or.inl ?_
  refine ⟨fun _ => RetIs.b rfl, fun h => ?_⟩
  have h : ((((decide ((l.length : Int) > 100) || decide (n > 40)) || decide ((lits.length : Int) > 10)) || !rightB l n) || !rightB [c] n) = false := h
  simp only [Bool.or_eq_false_iff, Bool.not_eq_false', decide_eq_false_iff_not] at h
  have hrt := h.1.2
  have hl : l.length < 2 ^ 62 := by omega
  have hll : lits.length ≤ 10 := by omega
  have hl1 : l.length ≤ 100 := by omega
  have hR := rightB_iff.1 hrt
  have hRc := rightB_iff.1 h.2
  obtain ⟨m, rfl⟩ := Int.eq_ofNat_of_zero_le hR.lo
  have hm40 : m ≤ 40 := by omega
  clear h
  have w2 : IntKind.i64.wrap (2 * (m : Int)) = 2 * m := wr (by omega) (by omega)
  repeat refine Or.inl ?_
  refine ⟨[], _, Follows_fn l hl m lits (by omega), ?_⟩
  refine ⟨fits (by omega), ?_⟩
  repeat refine Or.inl ?_
  refine ⟨trivial, ?_⟩
  repeat refine Or.inl ?_
  refine ⟨[], Nat, fun k => k ≤ lits.length ∧ ∀ j, j < k → 0 ≤ lits.getD j 0 ∧ lits.getD j 0 < 2 * (m : Int), fun k => [⟨12, [], .i .i64 k⟩, ⟨11, [], .so 3⟩], fun k => [⟨3, [], .row 25 2 (l ++ noL (lits.take k)).length (rowsC (l ++ noL (lits.take k)))⟩], fun k => lits.length - k,
    ⟨0, [], ⟨Nat.zero_le _, fun j hj => by omega⟩, rfl, rfl, rfl, rfl, rfl, ⟨⟨rfl, rfl⟩, rfl⟩, ⟨rfl, rfl, by simp [noL], fun q hq => ?_⟩⟩, ?_⟩
  · have e0 : l ++ noL (lits.take 0) = l := by simp [noL]
    have hq : q < (l ++ noL (lits.take 0)).length := hq
    show catG 0 _ (rowsC l) q = rowsC (l ++ noL (lits.take 0)) q
    rw [e0] at hq ⊢
    exact catC0 _ l q hq
  rintro k ⟨hk, hok⟩
  have hln : (l ++ noL (lits.take k)).length = l.length + k := by simp [noL]; omega
  refine .inl ⟨fun hc => ?_, fun hc => ?_⟩
  · have hc := dlt hc
    have ek : (k : Int).toNat = k := Int.toNat_natCast k
    repeat refine Or.inl ?_
    refine ⟨⟨by omega, by omega⟩, fun _ => ⟨by omega, by omega⟩, ?_⟩
    repeat refine Or.inl ?_
    refine ⟨fun h2 => RetIs.b ?_, fun h2 => ?_⟩
    · have h2 : (decide (lits.getD (k : Int).toNat 0 < 0) || decide (lits.getD (k : Int).toNat 0 ≥ IntKind.i64.wrap (2 * (m : Int)))) = true := h2
      rw [ek, w2, Bool.or_eq_true, decide_eq_true_eq, decide_eq_true_eq] at h2
      rw [follows_out (x := lits.getD k 0) (getD_memX (by omega)) (by omega)]
      rfl
    have h2 : (decide (lits.getD (k : Int).toNat 0 < 0) || decide (lits.getD (k : Int).toNat 0 ≥ IntKind.i64.wrap (2 * (m : Int)))) = false := h2
    rw [w2, Bool.or_eq_false_iff, decide_eq_false_iff_not, decide_eq_false_iff_not] at h2
    have oc := opp_calc (x := lits.getD (k : Int).toNat 0) (by omega) (by omega)
    repeat refine Or.inl ?_
    refine ⟨⟨by omega, by omega⟩, ⟨by omega, by omega⟩, by decide, ?_⟩
    repeat refine Or.inl ?_
    refine ⟨fits (by omega), ?_⟩
    refine ⟨k + 1, [(3, 5)], ⟨by omega, fun j hj => ?_⟩, by dsimp only; omega, rfl, rfl, rfl, rfl, rfl, ⟨⟨rfl, wr (by omega) (by omega)⟩, rfl⟩, ?_⟩
    · by_cases h : j = k
      · subst h
        rw [ek] at h2
        omega
      · exact hok j (by omega)
    · rw [oc, ek]
      exact snocC_row _ (unit (opp (lits.getD k 0))) (by rw [noL_snoc lits k (by omega), List.append_assoc])
  have hc := dnlt hc
  have etk : lits.take k = lits := List.take_of_length_le (by omega)
  rw [etk] at hln ⊢
  have hin : ∀ x ∈ lits, 0 ≤ x ∧ x < 2 * (m : Int) := fun x hx => by
    obtain ⟨j, hj, rfl⟩ := mem_getDX hx
    exact hok j (by omega)
  have hRw : RightP (l ++ noL lits) m := hR.append (noL_right hin) (by simp [noL]; omega)
  have hfu := follows_unsat hR hin
  rw [Int.toNat_natCast] at hfu
  have hRm : RightP (l ++ [c]) m := hR.append hRc.cl (by simp; omega)
  have f1 := follows_self hRm
  have hca := hRc.cl c (by simp)
  have av : ∀ f, AVEq (.rs 2 (l ++ [c]).length (rowsC (l ++ [c]))) (.rs 2 (0 + l.length + 1) (catG (0 + l.length) (catG 0 f (rowsC l)) (rowOf 2 c.av))) := fun f => snocC_av f l c rfl
  have avL : ∀ f, AVEq (.rs 1 (lits ++ [c.a]).length (rowsI (lits ++ [c.a]))) (.rs 1 (0 + lits.length + 1) (catG (0 + lits.length) (catG 0 f (rowsI lits)) (rowOf 1 [.i .i64 c.a]))) := fun f => ⟨rfl, by simp, catI1 f lits c.a⟩
  have F1 := Follows_fn (l ++ [c]) (by simp; omega) m [c.a, c.b] (by simp)
  rw [f1] at F1
  have F2 := Follows_fn (l ++ [c]) (by simp; omega) m lits (by omega)
  have F3 := Follows_fn l hl m (lits ++ [c.a]) (by simp; omega)
  have g2 : followsB l m lits = true → followsB (l ++ [c]) m lits = true := fun h => by
    have := follows_more (more := []) h hRm (by simp)
    rwa [List.append_nil] at this
  have g3 : followsB l m lits = true → followsB l m (lits ++ [c.a]) = true := fun h => by
    have := follows_more (m := []) (more := [c.a]) h (by rw [List.append_nil]; exact hR) (fun x hx => by rw [List.mem_singleton.1 hx]; exact hca.1)
    rwa [List.append_nil] at this
  refine .inr (.inr ⟨false, [], rfl, _, _, _, _, _, Solve_fn (l ++ noL lits) (by omega) m, fun y hy => ?_⟩)
  cases e : firstL (l ++ noL lits) m [] with
  | some vs =>
    obtain rfl := SolvK.of_sat hy (rightB_iff.2 hRw) e
    have hff : followsB l m lits = false := by
      rw [Bool.eq_false_iff]
      intro hf
      exact hfu.1 hf ⟨vs, (firstL_some.1 e).good⟩
    repeat refine Or.inl ?_
    refine ⟨fun h => ?_, fun _ => ?_⟩
    · have h : (followsB l m lits != ((0 : Int) == 17)) = true := h
      rw [hff] at h
      cases h
    repeat refine Or.inl ?_
    refine ⟨fits (by omega), fits (by omega), ?_⟩
    repeat refine Or.inl ?_
    refine ⟨[], _, fun _ => Ctr.of_eq (args := [.rs 2 (l ++ [c]).length (rowsC (l ++ [c])), .i .i64 m, .rs 1 2 (rowsI [c.a, c.b])]) ⟨av _, AVEq.refl _, ⟨rfl, rfl, two rfl rfl⟩⟩ F1, ?_⟩
    repeat refine Or.inl ?_
    refine ⟨[], _, fun _ => Ctr.of_eq (args := [.rs 2 (l ++ [c]).length (rowsC (l ++ [c])), .i .i64 m, .rs 1 lits.length (rowsI lits)]) ⟨av _, AVEq.refl _, AVEq.refl _⟩ F2, ?_⟩
    refine ⟨fun _ => fits (by omega), fun _ => fits (by omega), ?_⟩
    repeat refine Or.inl ?_
    refine ⟨[], _, fun _ => Ctr.of_eq (args := [.rs 2 l.length (rowsC l), .i .i64 m, .rs 1 (lits ++ [c.a]).length (rowsI (lits ++ [c.a]))]) ⟨AVEq.refl _, AVEq.refl _, avL _⟩ F3, ?_⟩
    refine RetIs.b ?_
    show (true && (true && (!followsB l m lits || (followsB (l ++ [c]) m lits && followsB l m (lits ++ [c.a]))))) = true
    rw [hff]
    rfl
  | none =>
    obtain ⟨c2, rfl, _⟩ := SolvK.of_uns hy (rightB_iff.2 hRw) e
    have hff : followsB l m lits = true := hfu.2 (firstL_none.1 e)
    repeat refine Or.inl ?_
    refine ⟨fun h => ?_, fun _ => ?_⟩
    · have h : (followsB l m lits != ((17 : Int) == 17)) = true := h
      rw [hff] at h
      cases h
    repeat refine Or.inl ?_
    refine ⟨fits (by omega), fits (by omega), ?_⟩
    repeat refine Or.inl ?_
    refine ⟨[], _, fun _ => Ctr.of_eq (args := [.rs 2 (l ++ [c]).length (rowsC (l ++ [c])), .i .i64 m, .rs 1 2 (rowsI [c.a, c.b])]) ⟨av _, AVEq.refl _, ⟨rfl, rfl, two rfl rfl⟩⟩ F1, ?_⟩
    repeat refine Or.inl ?_
    refine ⟨[], _, fun _ => Ctr.of_eq (args := [.rs 2 (l ++ [c]).length (rowsC (l ++ [c])), .i .i64 m, .rs 1 lits.length (rowsI lits)]) ⟨av _, AVEq.refl _, AVEq.refl _⟩ F2, ?_⟩
    refine ⟨fun _ => fits (by omega), fun _ => fits (by omega), ?_⟩
    repeat refine Or.inl ?_
    refine ⟨[], _, fun _ => Ctr.of_eq (args := [.rs 2 l.length (rowsC l), .i .i64 m, .rs 1 (lits ++ [c.a]).length (rowsI (lits ++ [c.a]))]) ⟨AVEq.refl _, AVEq.refl _, avL _⟩ F3, ?_⟩
    refine RetIs.b ?_
    show (true && (true && (!followsB l m lits || (followsB (l ++ [c]) m lits && followsB l m (lits ++ [c.a]))))) = true
    rw [g2 hff, g3 hff]
    simp
end Go.Proofs.Ytilhaifmfiobhaa
end

section
/-
  SatForced.
-/
namespace Go.Proofs.Ytilhaifmfiobhaa
open Go.Eng

theorem getD_forced (l : List Cl) (n : Nat) (vs : List Bool) {k : Nat} (h : k < vs.length) : (forcedL l n vs).getD k 0 = forcedAt l n vs k := by
  unfold forcedL
  simp [List.getD, h]
theorem unitsF_pos {u : Nat → Int} {k : Nat} (h : u k = 1) : unitsF u (k + 1) = unitsF u k ++ [unit (2 * (k : Int))] := by
  show unitsF u k ++ ((if u k = 1 then [unit (2 * (k : Int))] else []) ++ (if u k = 0 then [unit (2 * (k : Int) + 1)] else [])) = _
  rw [if_pos h, if_neg (by omega), List.append_nil]
theorem unitsF_neg {u : Nat → Int} {k : Nat} (h : u k = 0) : unitsF u (k + 1) = unitsF u k ++ [unit (2 * (k : Int) + 1)] := by
  show unitsF u k ++ ((if u k = 1 then [unit (2 * (k : Int))] else []) ++ (if u k = 0 then [unit (2 * (k : Int) + 1)] else [])) = _
  rw [if_neg (by omega), if_pos h, List.nil_append]
theorem unitsF_not {u : Nat → Int} {k : Nat} (h : u k ≠ 1) (h0 : u k ≠ 0) : unitsF u (k + 1) = unitsF u k := by
  show unitsF u k ++ ((if u k = 1 then [unit (2 * (k : Int))] else []) ++ (if u k = 0 then [unit (2 * (k : Int) + 1)] else [])) = _
  rw [if_neg h, if_neg h0, List.append_nil, List.append_nil]

set_option maxRecDepth 20000 in
set_option maxHeartbeats 4000000 in
theorem satForced_fn (l : List Cl) (n : Int) : Ctr Try.prog 4 [.rs 2 l.length (rowsC l), .i .i64 n] [] (.b true) := by
  refine fn_of_exec tabOk Try.func4 (by kernel_rfl) rfl (N := Try.f4.ntmps) rfl (res := [.tmp 4]) rfl rfl [(13, [.sl 87 .u])] ?_
  repeat refine Or.inl ?_
  refine ⟨[], _, small_fn, ?_⟩
  repeat refine Or.inl ?_
  refine ⟨[], _, fun hg => rRight_fn l (by
    have hg : (decide ((l.length : Int) > 100) || decide (n > 40)) = false := hg.1
    simp only [Bool.or_eq_false_iff, decide_eq_false_iff_not] at hg
    omega) n, ?_⟩
  repeat refine Or.inl ?_
  refine ⟨fun _ => RetIs.b rfl, fun h => ?_⟩
  have h : ((decide ((l.length : Int) > 100) || decide (n > 40)) || !rightB l n) = false := h
  simp only [Bool.or_eq_false_iff, Bool.not_eq_false', decide_eq_false_iff_not] at h
  have hrt := h.2
  have hl : l.length < 2 ^ 62 := by omega
  have hl1 : l.length ≤ 100 := by omega
  have hR := rightB_iff.1 hrt
  obtain ⟨m, rfl⟩ := Int.eq_ofNat_of_zero_le hR.lo
  have hm40 : m ≤ 40 := by omega
  clear h
  have f := Forced_fn l hl m
  cases e : firstL l m [] with
  | none =>
    rw [forcedY_uns hrt e] at f
    repeat refine Or.inl ?_
    refine ⟨_, _, f, ?_⟩
    refine .inr (.inr ⟨false, [], rfl, _, _, _, _, _, Solve_fn l hl m, fun y hy => ?_⟩)
    obtain ⟨c, rfl, _⟩ := SolvK.of_uns hy hrt e
    repeat refine Or.inl ?_
    refine ⟨fun h => ?_, fun _ => ?_⟩
    · have h : (((17 : Int) != 17) || ((((17 : Int) == 0) != (((0 : Int) == m) && ((0 : Int) == m))) && decide ((m : Int) > 0))) = true := h
      simp at h
      omega
    repeat refine Or.inl ?_
    refine ⟨fun _ => RetIs.b rfl, fun h => (by cases h)⟩
  | some vs =>
    rw [forcedY_sat hrt e, Int.toNat_natCast] at f
    have f : Ctr Try.prog 25 [.rs 2 l.length (rowsC l), .i .i64 m] [.row 3 1 (forcedL l m vs).length (rowsI (forcedL l m vs))] (.tup [.so 0, .i .i64 0]) := f
    have hF := firstL_some.1 e
    have hvl : vs.length = m := hF.good.len
    have hfl : (forcedL l m vs).length = m := by simp [forcedL, hvl]
    repeat refine Or.inl ?_
    refine ⟨_, _, f, ?_⟩
    refine .inr (.inr ⟨false, [], rfl, _, _, _, _, _, Solve_fn l hl m, fun y hy => ?_⟩)
    obtain rfl := SolvK.of_sat hy hrt e
    repeat refine Or.inl ?_
    refine ⟨fun h => ?_, fun _ => ?_⟩
    · have h : (((0 : Int) != 0) || ((((0 : Int) == 0) != (((((forcedL l m vs).length : Nat) : Int) == m) && (((vs.length : Nat) : Int) == m))) && decide ((m : Int) > 0))) = true := h
      rw [hfl, hvl] at h
      simp at h
    repeat refine Or.inl ?_
    refine ⟨fun h => (by cases h), fun _ => ?_⟩
    repeat refine Or.inl ?_
    refine ⟨fun h => ?_, fun _ => ?_⟩
    · have h : (((((forcedL l m vs).length : Nat) : Int) != m) || (((vs.length : Nat) : Int) != m)) = true := h
      rw [hfl, hvl] at h
      simp at h
    refine ⟨fits (by omega), ?_⟩
    repeat refine Or.inl ?_
    refine ⟨trivial, ?_⟩
    have hmore : ∀ k, k ≤ m → (l ++ unitsF (forcedAt l m vs) k).length ≤ 140 := fun k hk => by
      have := unitsF_len (forcedAt l m vs) k
      rw [List.length_append]
      omega
    repeat refine Or.inl ?_
    refine ⟨[], Nat, fun k => k ≤ m, fun k => [⟨12, [], .i .i64 k⟩, ⟨11, [], .so 3⟩], fun k => [⟨3, [], .row 25 2 (l ++ unitsF (forcedAt l m vs) k).length (rowsC (l ++ unitsF (forcedAt l m vs) k))⟩], fun k => m - k,
      ⟨0, [], Nat.zero_le _, rfl, rfl, rfl, rfl, rfl, ⟨⟨rfl, rfl⟩, rfl⟩, ⟨rfl, rfl, by simp [unitsF], fun q hq => ?_⟩⟩, ?_⟩
    · have e0 : l ++ unitsF (forcedAt l m vs) 0 = l := by simp [unitsF]
      have hq : q < (l ++ unitsF (forcedAt l m vs) 0).length := hq
      show catG 0 _ (rowsC l) q = rowsC (l ++ unitsF (forcedAt l m vs) 0) q
      rw [e0] at hq ⊢
      exact catC0 _ l q hq
    intro k hk
    have hk : k ≤ m := hk
    have hln := hmore k hk
    refine .inl ⟨fun hc => ?_, fun hc => ?_⟩
    · have hc := dlt hc
      have hc : (k : Int) < m := hc
      have ek : (k : Int).toNat = k := Int.toNat_natCast k
      have w2 : IntKind.i64.wrap (2 * (k : Int)) = 2 * k := wr (by omega) (by omega)
      have w3 : IntKind.i64.wrap (IntKind.i64.wrap (2 * (k : Int)) + 1) = 2 * k + 1 := by rw [w2]; exact wr (by omega) (by omega)
      have gf := getD_forced l m vs (k := k) (by omega)
      have fy := forced_yes (v := k) hR hc (by rw [Int.toNat_natCast]; exact e)
      have fo := forced_no (v := k) hR hc (by rw [Int.toNat_natCast]; exact e)
      have fr := forced_rng (l := l) (n := m) (v := k) (by rw [Int.toNat_natCast]; exact e)
      rw [Int.toNat_natCast] at fy fo fr
      repeat refine Or.inl ?_
      refine ⟨[], _, Follows_one l hl m (2 * (k : Int)) _ w2, ?_⟩
      repeat refine Or.inl ?_
      refine ⟨[], _, Follows_one l hl m (2 * (k : Int) + 1) _ w3, ?_⟩
      repeat refine Or.inl ?_
      refine ⟨⟨by omega, by omega⟩, by omega, fun _ => ⟨by omega, by omega⟩, fun _ => by omega, fun _ => ⟨by omega, by omega⟩, fun _ => by omega, fun _ => ⟨by omega, by omega⟩, fun _ => by omega, fun _ => ⟨by omega, by omega⟩, fun _ => by omega, fun _ => ⟨by omega, by omega⟩, fun _ => by omega, fun _ => ⟨by omega, by omega⟩, fun _ => by omega, ⟨fun h => ?_, fun _ => ?_⟩⟩
      · have h : (((((followsB l m [2 * (k : Int)] != ((forcedL l m vs).getD (k : Int).toNat 0 == 1)) || (followsB l m [2 * (k : Int) + 1] != ((forcedL l m vs).getD (k : Int).toNat 0 == 0))) || decide ((forcedL l m vs).getD (k : Int).toNat 0 < -1)) || decide ((forcedL l m vs).getD (k : Int).toNat 0 > 1)) || (decide ((forcedL l m vs).getD (k : Int).toNat 0 ≥ 0) && (vs.getD (k : Int).toNat false != ((forcedL l m vs).getD (k : Int).toNat 0 == 1)))) = true := h
        rw [ek, gf, fy, fo] at h
        have b : ∀ x y : Int, decide (x = y) = (x == y) := fun x y => by rw [Bool.eq_iff_iff, decide_eq_true_eq, beq_iff_eq]
        rw [b, b, bne_self_eq_false, bne_self_eq_false, decide_eq_false (by omega), decide_eq_false (by omega)] at h
        by_cases h0 : 0 ≤ forcedAt l m vs k
        · rw [fr.2.2 h0, b, bne_self_eq_false, Bool.and_false] at h
          cases h
        · rw [decide_eq_false (by omega)] at h
          cases h
      repeat refine Or.inl ?_
      refine ⟨fun h2 => ?_, fun h2 => ?_⟩
      · have h2 : followsB l m [2 * (k : Int)] = true := h2
        rw [fy, decide_eq_true_eq] at h2
        refine ⟨fits (by omega), ?_⟩
        repeat refine Or.inl ?_
        refine ⟨fun h3 => ?_, fun _ => ?_⟩
        · have h3 : followsB l m [2 * (k : Int) + 1] = true := h3
          rw [fo, decide_eq_true_eq] at h3
          omega
        refine ⟨k + 1, [(3, 7)], by dsimp only; omega, by dsimp only; omega, rfl, rfl, rfl, rfl, rfl, ⟨⟨rfl, wr (by omega) (by omega)⟩, rfl⟩, ?_⟩
        rw [w2]
        exact snocC_row _ (unit (2 * (k : Int))) (by rw [unitsF_pos h2, List.append_assoc])
      · have h2 : followsB l m [2 * (k : Int)] = false := h2
        rw [fy, decide_eq_false_iff_not] at h2
        repeat refine Or.inl ?_
        refine ⟨fun h3 => ?_, fun h3 => ?_⟩
        · have h3 : followsB l m [2 * (k : Int) + 1] = true := h3
          rw [fo, decide_eq_true_eq] at h3
          refine ⟨fits (by omega), ?_⟩
          refine ⟨k + 1, [(3, 7)], by dsimp only; omega, by dsimp only; omega, rfl, rfl, rfl, rfl, rfl, ⟨⟨rfl, wr (by omega) (by omega)⟩, rfl⟩, ?_⟩
          rw [w3]
          exact snocC_row _ (unit (2 * (k : Int) + 1)) (by rw [unitsF_neg h3, List.append_assoc])
        · have h3 : followsB l m [2 * (k : Int) + 1] = false := h3
          rw [fo, decide_eq_false_iff_not] at h3
          refine ⟨k + 1, [], by dsimp only; omega, by dsimp only; omega, rfl, rfl, rfl, rfl, rfl, ⟨⟨rfl, wr (by omega) (by omega)⟩, rfl⟩, ?_⟩
          have := unitsF_not (u := forcedAt l m vs) h2 h3
          have ao : AOEq (.row 25 2 (l ++ unitsF (forcedAt l m vs) (k + 1)).length (rowsC (l ++ unitsF (forcedAt l m vs) (k + 1)))) (.row 25 2 (l ++ unitsF (forcedAt l m vs) k).length (rowsC (l ++ unitsF (forcedAt l m vs) k))) := by
            rw [this]
            exact AOEq.refl _
          exact ao
    · have hc := dnlt hc
      have hc : (m : Int) ≤ k := hc
      obtain rfl : k = m := by omega
      have fa := forced_again hR (by omega) (show firstL l (k : Int).toNat [] = some vs by rw [Int.toNat_natCast]; exact e)
      rw [Int.toNat_natCast] at fa
      have F := Forced_fn (l ++ unitsF (forcedAt l k vs) k) (by omega) k
      rw [fa] at F
      repeat refine Or.inl ?_
      refine ⟨_, _, F, ?_⟩
      repeat refine Or.inl ?_
      refine ⟨[], _, fun _ => ints26_same (forcedL l k vs) (by omega), ?_⟩
      exact RetIs.b rfl
end Go.Proofs.Ytilhaifmfiobhaa
end
