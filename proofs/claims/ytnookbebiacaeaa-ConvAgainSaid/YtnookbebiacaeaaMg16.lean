/-
  Several texts in one: Cve.
-/
import Derived.Test.YtnookbebiacaeaaMg15

section
/-
  Conversations: the law Again.
-/
namespace Go.Proofs.Ytnookbebiacaeaa
open Go.Eng

theorem snocN_row (t : TypeId) (l : List Int) (x : Int) : AOEq (.row t 1 (l ++ [x]).length (rI (l ++ [x]))) (.row t 1 (l.length + 1) (catG l.length (rI l) (rowOf 1 [.i .i64 x]))) := by
  obtain ⟨_, _, h1, h2⟩ := snocI_row2 l x
  exact ⟨rfl, rfl, h1, h2⟩
theorem few_ev {e : Ev} (h : fewE e = true) : e.cs.length ≤ 10 ∧ e.fs.length ≤ 10 ∧ e.x.size ≤ 300 := by
  unfold fewE at h
  simp only [Bool.and_eq_true, decide_eq_true_eq] at h
  omega
theorem okE_L {E : List Ev} (h : okE E) : okL E := fun e he => by
  have := (h.2 e he).cs.1
  have := (h.2 e he).fs
  omega
set_option maxRecDepth 20000 in
set_option maxHeartbeats 64000000 in
theorem convAgain_fn (l : List Ev) (hl : l.length < 2^63) (x1 : Int) (s : ByteArray) : Ctr Try.prog 18 [.rs 12 l.length (rE l), .i .i64 x1, .s s] [] (.b true) := by
  refine fn_of_exec tabOk Try.func18 (by kernel_rfl) rfl (N := Try.f18.ntmps) rfl (res := [.tmp 6]) rfl rfl [(1000007, [.nl 9 3 1]), (1000008, [.nl 10 29 1])] ?_
  repeat refine Or.inl ?_
  refine ⟨[], _, small71_fn, ?_⟩
  repeat refine Or.inl ?_
  refine ⟨[], _, fewAll_fn l hl 20, ?_⟩
  refine ⟨fun h => RetIs.b rfl, fun h => ?_⟩
  have h : (!fewAll l 20 || decide ((s.size : Int) > 300)) = false := h
  rw [Bool.or_eq_false_iff, Bool.not_eq_false', decide_eq_false_iff_not] at h
  obtain ⟨hn, hfe⟩ := fewAll_of h.1
  have hs := h.2
  have hev : ∀ k, k < l.length → (l.getD k dE).cs.length ≤ 10 ∧ (l.getD k dE).fs.length ≤ 10 ∧ (l.getD k dE).x.size ≤ 300 := fun k hk => few_ev (hfe _ (getD_memE hk))
  have aoD0 : AOEq (delO []) (delO []) := AOEq.refl _
  refine Or.inr (Or.inr ?_)
  refine ⟨true, [], rfl, Unit, _, _, _, _, new_fn, fun _ _ => ?_⟩
  repeat refine Or.inl ?_
  refine ⟨fun h => (by cases h), fun _ => ?_⟩
  repeat refine Or.inl ?_
  refine ⟨[], Nat, fun j => j ≤ l.length, fun j => [⟨11, [], .i .i64 j⟩, ⟨9, [], .so 5⟩, ⟨10, [], .so 6⟩],
    fun j => [⟨0, [], .cells 182 [.so 1, .mo 2, .mo 4]⟩, ⟨1, [], rowO (cvTo l j)⟩, ⟨2, [], ownO (cvTo l j) 3⟩, ⟨3, [], .dead⟩, ⟨4, [], delO (cvTo l j)⟩, ⟨5, [], .row 3 1 (idTo l j).length (rI (idTo l j))⟩, ⟨6, [], .row 29 1 (stTo l j).length (rI (stTo l j))⟩], fun j => l.length - j,
    ⟨0, [], Nat.zero_le _, rfl, rfl, rfl, rfl, rfl, ⟨⟨rfl, rfl⟩, rfl, rfl⟩, ⟨AOEq.refl _, AOEq.refl _, AOEq.own _ _, AOEq.refl _, AOEq.refl _, ⟨rfl, rfl, rfl, fun k hk => absurd hk (Nat.not_lt_zero k)⟩, ⟨rfl, rfl, rfl, fun k hk => absurd hk (Nat.not_lt_zero k)⟩⟩⟩, ?_⟩
  intro j hj
  have hj : j ≤ l.length := hj
  have hF := cvTo_cok l j
  refine .inl ⟨fun hc => ?_, fun hc => ?_⟩
  · have hc := dlt hc
    have hc : (j : Int) < l.length := hc
    have ej : (j : Int).toNat = j := Int.toNat_natCast j
    have he := hev (j : Int).toNat (by omega)
    have hil := idTo_len l j
    have hsl := stTo_len l j
    repeat refine Or.inl ?_
    refine ⟨⟨by omega, by omega⟩, ?_⟩
    refine Or.inr (Or.inr ?_)
    refine ⟨true, [0, 1, 2, 3, 4], rfl, Unit, _, _, _, _, add_fn (cvTo l j) hF.ok (l.getD (j : Int).toNat dE) (by omega) (by omega), fun _ _ => ?_⟩
    repeat refine Or.inl ?_
    refine ⟨fits (by omega), ?_⟩
    repeat refine Or.inl ?_
    refine ⟨fits (by omega), ?_⟩
    have hsn : cvTo l (j + 1) = (addC (cvTo l j) (l.getD (j : Int).toNat dE)).1 := by rw [ej]; exact cvTo_snoc (by omega)
    have hid : idTo l (j + 1) = idTo l j ++ [(addC (cvTo l j) (l.getD (j : Int).toNat dE)).2.1] := by rw [ej]; exact idTo_snoc l j
    have hst : stTo l (j + 1) = stTo l j ++ [(addC (cvTo l j) (l.getD (j : Int).toNat dE)).2.2] := by rw [ej]; exact stTo_snoc l j
    have aoR : AOEq (rowO (cvTo l (j + 1))) (rowO (addC (cvTo l j) (l.getD (j : Int).toNat dE)).1) := by rw [hsn]; exact AOEq.refl _
    have aoO : AOEq (ownO (cvTo l (j + 1)) 8) (ownO (addC (cvTo l j) (l.getD (j : Int).toNat dE)).1 8) := by rw [hsn]; exact AOEq.own _ _
    have aoD : AOEq (delO (cvTo l (j + 1))) (delO (addC (cvTo l j) (l.getD (j : Int).toNat dE)).1) := by rw [hsn]; exact AOEq.refl _
    have aoI : AOEq (.row 3 1 (idTo l (j + 1)).length (rI (idTo l (j + 1)))) (.row 3 1 ((idTo l j).length + 1) (catG (idTo l j).length (rI (idTo l j)) (rowOf 1 [.i .i64 (addC (cvTo l j) (l.getD (j : Int).toNat dE)).2.1]))) := by rw [hid]; exact snocN_row 3 _ _
    have aoS : AOEq (.row 29 1 (stTo l (j + 1)).length (rI (stTo l (j + 1)))) (.row 29 1 ((stTo l j).length + 1) (catG (stTo l j).length (rI (stTo l j)) (rowOf 1 [.i .i64 (addC (cvTo l j) (l.getD (j : Int).toNat dE)).2.2]))) := by rw [hst]; exact snocN_row 29 _ _
    refine ⟨j + 1, [(1, 7), (3, 8), (5, 10), (6, 12)], (by show j + 1 ≤ l.length; omega), by dsimp only; omega, rfl, rfl, rfl, rfl, rfl, ⟨⟨rfl, wr (by omega) (by omega)⟩, rfl, rfl⟩, ⟨AOEq.refl _, aoR, aoO, AOEq.refl _, aoD, aoI, aoS⟩⟩
  · have hc := dnlt hc
    have hje : j = l.length := by
      have hc : (l.length : Int) ≤ j := hc
      omega
    have hil := idTo_len l j
    have hsl := stTo_len l j
    have hE := eraseC_cok hF x1
    have hEl := hE.ok.1
    refine Or.inr (Or.inr ?_)
    refine ⟨true, [0, 1, 2, 3, 4], rfl, Unit, _, _, _, _, erase_fn (cvTo l j) hF.ok x1, fun _ _ => ?_⟩
    refine Or.inr (Or.inr ?_)
    refine ⟨true, [0, 1, 2, 3, 4], rfl, Unit, _, _, _, _, all_fn (eraseC (cvTo l j) x1).1 hE.ok, fun _ _ => ?_⟩
    repeat refine Or.inl ?_
    rw [hje] at hil hsl hE hEl hF
    subst hje
    have aoDF : AOEq (delO (eraseC (cvTo l l.length) x1).1) (delO (eraseC (cvTo l l.length) x1).1) := AOEq.refl _
    refine ⟨[], Nat, fun k => k ≤ l.length, fun k => [⟨15, [], .i .i64 ((k : Int) - 1)⟩],
      fun _ => [⟨0, [], .cells 182 [.so 1, .mo 2, .mo 4]⟩, ⟨1, [], rowO (eraseC (cvTo l l.length) x1).1⟩, ⟨2, [], ownO (eraseC (cvTo l l.length) x1).1 3⟩, ⟨3, [], .dead⟩, ⟨4, [], delO (eraseC (cvTo l l.length) x1).1⟩], fun k => k,
      ⟨l.length, [], Nat.le_refl _, rfl, rfl, rfl, rfl, rfl, ⟨rfl, wr (by omega) (by omega)⟩, ⟨AOEq.refl _, AOEq.refl _, AOEq.own _ _, AOEq.refl _, aoDF⟩⟩, ?_⟩
    intro k hk
    have hk : k ≤ l.length := hk
    refine .inl ⟨fun hc2 => ?_, fun hc2 => ?_⟩
    · have hc2 : decide ((k : Int) - 1 ≥ 0) = true := hc2
      rw [decide_eq_true_eq] at hc2
      have he := hev ((k : Int) - 1).toNat (by omega)
      have w : IntKind.i64.wrap ((k : Int) - 1 - 1) = ((k - 1 : Nat) : Int) - 1 := by rw [wr (by omega) (by omega)]; omega
      repeat refine Or.inl ?_
      refine ⟨⟨by omega, by omega⟩, by omega, ?_⟩
      refine ⟨fun h1 => ?_, fun h1 => ?_⟩
      · refine ⟨k - 1, [], (by show k - 1 ≤ l.length; omega), by dsimp only; omega, rfl, rfl, rfl, rfl, rfl, ⟨rfl, w⟩, ⟨AOEq.refl _, AOEq.refl _, AOEq.own _ _, AOEq.refl _, aoDF⟩⟩
      have h1 : ((stTo l l.length).getD ((k : Int) - 1).toNat 0 != 0) = false := h1
      have hag := (again_at l (j := ((k : Int) - 1).toNat) (by omega) (beq_of h1)).erased x1
      repeat refine Or.inl ?_
      refine ⟨⟨by omega, by omega⟩, ?_⟩
      repeat refine Or.inl ?_
      refine ⟨fun h2 => ?_, fun h2 => ?_⟩
      · have h2 : (((l.getD ((k : Int) - 1).toNat dE).k == 0) || ((l.getD ((k : Int) - 1).toNat dE).k == 1)) = true := h2
        rw [Bool.or_eq_true, beq_iff_eq, beq_iff_eq] at h2
        have hag2 := hag.text h2 (x := s) (by omega)
        refine Or.inr (Or.inr ?_)
        refine ⟨true, [0, 1, 2, 3, 4], rfl, Unit, _, _, _, _, add_ex (e := { l.getD ((k : Int) - 1).toNat dE with x := s }) hE.ok hag2.add (by show (l.getD ((k : Int) - 1).toNat dE).cs.length < _; omega) (by show (l.getD ((k : Int) - 1).toNat dE).fs.length < _; omega), fun _ _ => ?_⟩
        repeat refine Or.inl ?_
        refine ⟨⟨by omega, by omega⟩, by omega, ?_⟩
        refine ⟨fun h3 => ?_, fun h3 => ?_⟩
        · exfalso
          have h3 : (((idTo l l.length).getD ((k : Int) - 1).toNat 0 != (idTo l l.length).getD ((k : Int) - 1).toNat 0) || ((0 : Int) != 0)) = true := h3
          simp at h3
        · refine ⟨k - 1, [(1, 9), (3, 10)], (by show k - 1 ≤ l.length; omega), by dsimp only; omega, rfl, rfl, rfl, rfl, rfl, ⟨rfl, w⟩, ⟨AOEq.refl _, AOEq.refl _, AOEq.own _ _, AOEq.refl _, aoDF⟩⟩
      · refine Or.inr (Or.inr ?_)
        refine ⟨true, [0, 1, 2, 3, 4], rfl, Unit, _, _, _, _, add_ex (e := l.getD ((k : Int) - 1).toNat dE) hE.ok hag.add (by omega) (by omega), fun _ _ => ?_⟩
        repeat refine Or.inl ?_
        refine ⟨⟨by omega, by omega⟩, by omega, ?_⟩
        refine ⟨fun h3 => ?_, fun h3 => ?_⟩
        · exfalso
          have h3 : (((idTo l l.length).getD ((k : Int) - 1).toNat 0 != (idTo l l.length).getD ((k : Int) - 1).toNat 0) || ((0 : Int) != 0)) = true := h3
          simp at h3
        · refine ⟨k - 1, [(1, 9), (3, 10)], (by show k - 1 ≤ l.length; omega), by dsimp only; omega, rfl, rfl, rfl, rfl, rfl, ⟨rfl, w⟩, ⟨AOEq.refl _, AOEq.refl _, AOEq.own _ _, AOEq.refl _, aoDF⟩⟩
    · have hkF := okE_L hE.ok
      refine Or.inr (Or.inl ⟨⟨⟨rfl, rfl⟩, trivial⟩, ?_⟩)
      refine Or.inr (Or.inr ?_)
      refine ⟨true, [0, 1, 2, 3, 4], rfl, Unit, _, _, _, _, all_fn (eraseC (cvTo l l.length) x1).1 hE.ok, fun _ _ => ?_⟩
      repeat refine Or.inl ?_
      refine ⟨[], _, fun _ => same80_fn (eraseC (cvTo l l.length) x1).1 (eraseC (cvTo l l.length) x1).1 (by omega) (by omega) hkF hkF, ?_⟩
      refine RetIs.b ?_
      rw [decide_eq_true rfl]
      rfl
end Go.Proofs.Ytnookbebiacaeaa
end
