/-
  Several texts in one: Cvw, Cvx.
-/
import Derived.Test.YtnookbebiacaeaaMg16

section
/-
  Conversations: what the law Tells goes through, in plain Lean; the contracts with a named outcome.
-/
namespace Go.Proofs.Ytnookbebiacaeaa
open Go.Eng

theorem live_of_open {l : List Ev} (h : openS l = 0) : Live l := by
  have key : ∀ j, j ≤ l.length → openSt (l.take j) (l.drop j) = openS l ∧ ∀ i, i < j → addC (l.take i) (l.getD i dE) = (l.take (i + 1), ((i : Int), 0)) := by
    intro j
    induction j with
    | zero => exact fun _ => ⟨rfl, fun i hi => absurd hi (Nat.not_lt_zero i)⟩
    | succ j ih =>
      intro hj
      obtain ⟨h1, h2⟩ := ih (by omega)
      have hs := open_step l j (by omega) h1
      have hl : (l.take j).length = j := by rw [List.length_take]; omega
      by_cases c1 : (addC (l.take j) (l.getD j dE)).2.2 = 0
      · rw [if_neg (fun h => h c1)] at hs
        by_cases c2 : (addC (l.take j) (l.getD j dE)).2.1 = j
        · rw [if_neg (fun h => h c2)] at hs
          refine ⟨hs, fun i hi => ?_⟩
          by_cases hij : i = j
          · subst hij
            have h3 := addC_new c1 (by rw [c2, hl])
            rw [← take_snocE (by omega)] at h3
            refine Prod.ext h3 (Prod.ext c2 c1)
          · exact h2 i (by omega)
        · rw [if_pos c2] at hs
          rw [h] at hs
          cases hs
      · rw [if_pos c1] at hs
        rw [h] at hs
        exact absurd hs c1
  exact (key l.length (Nat.le_refl _)).2
theorem cok_of_live {l : List Ev} (h : Live l) : Cok l := by
  have := copy_cok l
  rwa [live_copy h] at this
theorem live_right {E : List Ev} (h : Live E) {j : Nat} (hj : j < E.length) : rightE (E.getD j dE) = true := by
  cases hr : rightE (E.getD j dE)
  · have h1 := h j hj
    unfold addC at h1
    rw [if_pos hr] at h1
    have h2 := congrArg (fun x : List Ev × (Int × Int) => x.2.2) h1
    cases h2
  · rfl
theorem live_erase {E : List Ev} (h : Live E) (i : Int) : Live (eraseC E i).1 := by
  unfold eraseC
  split
  · exact h
  show Live (eraseTo E i E.length)
  intro j hj
  rw [eraseTo_len] at hj
  have hb : ((eraseTo E i E.length).take j).map bareE = (E.take j).map bareE := by rw [List.map_take, List.map_take, eraseTo_bare]
  have hg := eraseTo_getD E i E.length j hj
  have hz : bareE ((eraseTo E i E.length).getD j dE) = bareE (E.getD j dE) := by
    rw [hg]
    split
    · exact bare_bare _
    · rfl
  have hr : rightE ((eraseTo E i E.length).getD j dE) = rightE (E.getD j dE) := by
    rw [hg]
    split
    · rw [live_right h hj]
      exact right_bare (live_right h hj)
    · rfl
  obtain ⟨h1, h2⟩ := add_sim hb hz hr
  rw [h j hj] at h1 h2
  have hl : (E.take j).length = j := by rw [List.length_take]; omega
  have hl1 : (E.take (j + 1)).length = j + 1 := by rw [List.length_take]; omega
  refine Prod.ext ?_ h1
  rcases h2 with ⟨h2, _⟩ | ⟨_, h2⟩
  · have h2 : E.take (j + 1) = E.take j := h2
    rw [h2] at hl1
    omega
  · rw [h2, take_snocE (by rw [eraseTo_len]; exact hj)]
theorem erase_len (E : List Ev) (i : Int) : (eraseC E i).1.length = E.length := by
  unfold eraseC
  split
  · rfl
  · exact eraseTo_len _ _ _
theorem addC_len (E : List Ev) (e : Ev) : (addC E e).1.length ≤ E.length + 1 := by
  rcases addC_shape (E := E) (e := e) with h' | ⟨h', _⟩
  · rw [h']; omega
  · rw [h']; simp
def teS (E0 l : List Ev) (er : Int) : Nat → List Ev
  | 0 => E0
  | j + 1 => if j = l.length / 2 then (eraseC (addC (teS E0 l er j) (l.getD j dE)).1 er).1 else (addC (teS E0 l er j) (l.getD j dE)).1
theorem te_live {E0 : List Ev} (h : Live E0) (l : List Ev) (er : Int) : ∀ j, Live (teS E0 l er j)
  | 0 => h
  | j + 1 => by
    unfold teS
    split
    · exact live_erase (addC_live (te_live h l er j) _) er
    · exact addC_live (te_live h l er j) _
theorem te_len (E0 l : List Ev) (er : Int) : ∀ j, (teS E0 l er j).length ≤ E0.length + j
  | 0 => Nat.le_refl _
  | j + 1 => by
    have := te_len E0 l er j
    have := addC_len (teS E0 l er j) (l.getD j dE)
    unfold teS
    split
    · rw [erase_len]; omega
    · omega

/-! ### contracts, their outcome named -/
theorem add_fn' (E : List Ev) (hE : okE E) (e : Ev) (h1 : e.cs.length < 2^62) (h2 : e.fs.length < 2^62) {F : List Ev} (hF : F = (addC E e).1) :
    CtrM Try.prog 74 true [.cells 182 [.so 1, .mo 2, .mo 4], rowO E, ownO E 3, .dead, delO E] [.p 0 0, .ag e.av] (fun _ : Unit => True) (fun _ => [.cells 182 [.so 5, .mo 2, .mo 4], .dead, ownO F 6, .dead, delO F]) (fun _ => [rowO F, .dead]) (fun _ => .tup [.i .i64 (addC E e).2.1, .i .i64 (addC E e).2.2]) := by
  subst hF
  exact add_fn E hE e h1 h2
theorem radd_fn' (E : List Ev) (hE : okE E) (e : Ev) (h1 : e.cs.length < 2^62) (h2 : e.fs.length < 2^62) {F : List Ev} (hF : F = (addC E e).1) :
    CtrM Try.prog 90 true [.cells 119 [.so 1], rowO E] [.p 0 0, .ag e.av] (fun _ : Unit => True) (fun _ => [.cells 119 [.so 2], .dead]) (fun _ => [rowO F]) (fun _ => .tup [.i .i64 (addC E e).2.1, .i .i64 (addC E e).2.2]) := by
  subst hF
  exact radd_fn E hE e h1 h2
theorem erase_fn' (E : List Ev) (hE : okE E) (i : Int) {F : List Ev} (hF : F = (eraseC E i).1) : CtrM Try.prog 76 true [.cells 182 [.so 1, .mo 2, .mo 4], rowO E, ownO E 3, .dead, delO E] [.p 0 0, .i .i64 i] (fun _ : Unit => True) (fun _ => [.cells 182 [.so 1, .mo 2, .mo 4], rowO F, ownO F 3, .dead, delO F]) (fun _ => []) (fun _ => .i .i64 (eraseC E i).2) := by
  subst hF
  exact erase_fn E hE i
theorem rerase_fn' (E : List Ev) (hE : okE E) (i : Int) {F : List Ev} (hF : F = (eraseC E i).1) : CtrM Try.prog 91 true [.cells 119 [.so 1], rowO E] [.p 0 0, .i .i64 i] (fun _ : Unit => True) (fun _ => [.cells 119 [.so 1], rowO F]) (fun _ => []) (fun _ => .i .i64 (eraseC E i).2) := by
  subst hF
  exact rerase_fn E hE i
theorem open_yes_fn' (l : List Ev) (hl : l.length < 2^62) (hk : okL l) (h0 : openS l = 0) {F : List Ev} (hF : F = l) :
    CtrM Try.prog 87 true [] [.rs 12 l.length (rE l)] (fun _ : Unit => True) (fun _ => []) (fun _ => [.cells 182 [.so 1, .mo 2, .mo 4], rowO F, ownO F 3, .dead, delO F]) (fun _ => .tup [.p 0 0, .i .i64 0]) := by
  subst hF
  exact open_yes_fn F hl hk h0
theorem ropen_yes_fn' (l : List Ev) (hl : l.length < 2^62) (hk : okL l) (h0 : openS l = 0) {F : List Ev} (hF : F = l) :
    CtrM Try.prog 88 true [] [.rs 12 l.length (rE l)] (fun _ : Unit => True) (fun _ => []) (fun _ => [.cells 119 [.so 1], rowO F]) (fun _ => .tup [.p 0 0, .i .i64 0]) := by
  subst hF
  have h := ropen_fn F hl hk
  have e1 : (fun _ : Unit => ropenO F) = fun _ => [.cells 119 [.so 1], rowO F] := by funext _; exact ropen_yes h0
  have e2 : (fun _ : Unit => openR F) = fun _ => .tup [.p 0 0, .i .i64 0] := by funext _; exact (open_yes h0).2
  rw [e1, e2] at h
  exact h
theorem open_no_fn (l : List Ev) (hl : l.length < 2^62) (hk : okL l) (h0 : openS l ≠ 0) :
    CtrM Try.prog 87 true [] [.rs 12 l.length (rE l)] (fun _ : Unit => True) (fun _ => []) (fun _ => []) (fun _ => .tup [.val (.pointer none), .i .i64 (openS l)]) := by
  have h := open_fn l hl hk
  have e1 : (fun _ : Unit => openO l) = fun _ => [] := by funext _; exact (open_no rfl h0).1
  have e2 : (fun _ : Unit => openR l) = fun _ => .tup [.val (.pointer none), .i .i64 (openS l)] := by funext _; exact (open_no rfl h0).2
  rw [e1, e2] at h
  exact h
theorem ropen_no_fn (l : List Ev) (hl : l.length < 2^62) (hk : okL l) (h0 : openS l ≠ 0) :
    CtrM Try.prog 88 true [] [.rs 12 l.length (rE l)] (fun _ : Unit => True) (fun _ => []) (fun _ => []) (fun _ => .tup [.val (.pointer none), .i .i64 (openS l)]) := by
  have h := ropen_fn l hl hk
  have e1 : (fun _ : Unit => ropenO l) = fun _ => [] := by funext _; exact ropen_no rfl h0
  have e2 : (fun _ : Unit => openR l) = fun _ => .tup [.val (.pointer none), .i .i64 (openS l)] := by funext _; exact (open_no rfl h0).2
  rw [e1, e2] at h
  exact h
theorem new_fn' {F : List Ev} (hF : F = []) : CtrM Try.prog 73 true [] [] (fun _ : Unit => True) (fun _ => []) (fun _ => [.cells 182 [.so 1, .mo 2, .mo 4], rowO F, ownO F 3, .dead, delO F]) (fun _ => .p 0 0) := by
  subst hF
  exact new_fn
theorem rnew_fn' {F : List Ev} (hF : F = []) : CtrM Try.prog 89 true [] [] (fun _ : Unit => True) (fun _ => []) (fun _ => [.cells 119 [.so 1], rowO F]) (fun _ => .p 0 0) := by
  subst hF
  exact rnew_fn
end Go.Proofs.Ytnookbebiacaeaa
end

section
/-
  Conversations: the law Tells.
-/
namespace Go.Proofs.Ytnookbebiacaeaa
open Go.Eng

set_option maxRecDepth 20000 in
set_option maxHeartbeats 64000000 in
theorem convTells_fn (l : List Ev) (hl : l.length < 2^63) (x1 x2 x3 : Int) (f : List Ev) (hf : f.length < 2^63) : Ctr Try.prog 20 [.rs 12 l.length (rE l), .i .i64 x1, .i .i64 x2, .i .i64 x3, .rs 12 f.length (rE f)] [] (.b true) := by
  refine fn_of_exec tabOk Try.func20 (by kernel_rfl) rfl (N := Try.f20.ntmps) rfl (res := [.tmp 10]) rfl rfl [] ?_
  repeat refine Or.inl ?_
  refine ⟨[], _, small71_fn, ?_⟩
  repeat refine Or.inl ?_
  refine ⟨[], _, fewAll_fn l hl 20, ?_⟩
  repeat refine Or.inl ?_
  refine ⟨[], _, fun _ => fewAll_fn f hf 20, ?_⟩
  repeat refine Or.inl ?_
  refine ⟨fun h => RetIs.b rfl, fun h => ?_⟩
  have h : (!fewAll l 20 || !fewAll f 20) = false := h
  rw [Bool.or_eq_false_iff, Bool.not_eq_false', Bool.not_eq_false'] at h
  obtain ⟨hn, hfe⟩ := fewAll_of h.1
  obtain ⟨hn2, hfe2⟩ := fewAll_of h.2
  have hev : ∀ k, k < l.length → (l.getD k dE).cs.length ≤ 10 ∧ (l.getD k dE).fs.length ≤ 10 ∧ (l.getD k dE).x.size ≤ 300 := fun k hk => few_ev (hfe _ (getD_memE hk))
  have hkf : okL f := fun e he => by have := few_ev (hfe2 e he); omega
  obtain ⟨E0, hE0⟩ : ∃ E0, E0 = if openS f = 0 then f else [] := ⟨_, rfl⟩
  have hL0 : Live E0 := by
    rw [hE0]
    split
    · exact live_of_open (by assumption)
    · exact live_nil
  have hl0 : E0.length ≤ 20 := by
    rw [hE0]
    split
    · omega
    · simp
  rcases Decidable.em (openS f = 0) with hop | hop
  rw [if_pos hop] at hE0
  refine Or.inr (Or.inr ?_)
  refine ⟨true, [], rfl, Unit, _, _, _, _, open_yes_fn' f (by omega) hkf hop hE0, fun _ _ => ?_⟩
  refine Or.inr (Or.inr ?_)
  refine ⟨true, [], rfl, Unit, _, _, _, _, ropen_yes_fn' f (by omega) hkf hop hE0, fun _ _ => ?_⟩
  repeat refine Or.inl ?_
  refine ⟨fun h => (by exfalso; cases h), fun _ => ?_⟩
  repeat refine Or.inl ?_
  refine ⟨fun h => (by exfalso; cases h), fun _ => ?_⟩
  repeat refine Or.inl ?_
  refine ⟨fun h => (by exfalso; cases h), fun _ => ?_⟩
  rotate_left
  rw [if_neg hop] at hE0
  refine Or.inr (Or.inr ?_)
  refine ⟨true, [], rfl, Unit, _, _, _, _, open_no_fn f (by omega) hkf hop, fun _ _ => ?_⟩
  refine Or.inr (Or.inr ?_)
  refine ⟨true, [], rfl, Unit, _, _, _, _, ropen_no_fn f (by omega) hkf hop, fun _ _ => ?_⟩
  repeat refine Or.inl ?_
  refine ⟨fun h => (by exfalso; have h : ((openS f != openS f) || (true != true)) = true := h; simp at h), fun _ => ?_⟩
  repeat refine Or.inl ?_
  refine ⟨fun _ => ?_, fun h => (by exfalso; cases h)⟩
  refine Or.inr (Or.inr ?_)
  refine ⟨true, [], rfl, Unit, _, _, _, _, new_fn' hE0, fun _ _ => ?_⟩
  refine Or.inr (Or.inr ?_)
  refine ⟨true, [], rfl, Unit, _, _, _, _, rnew_fn' hE0, fun _ _ => ?_⟩
  repeat refine Or.inl ?_
  refine ⟨fun h => (by exfalso; cases h), fun _ => ?_⟩
  all_goals
    have aoR0 : AOEq (rowO (teS E0 l x3 0)) (rowO E0) := AOEq.refl _
    have aoD0 : AOEq (delO (teS E0 l x3 0)) (delO E0) := AOEq.refl _
    have aoO0 : AOEq (ownO (teS E0 l x3 0) 3) (ownO E0 3) := AOEq.own _ _
    repeat refine Or.inl ?_
    refine ⟨[], Nat, fun j => j ≤ l.length, fun j => [⟨16, [], .i .i64 j⟩],
      fun j => [⟨0, [], .cells 182 [.so 1, .mo 2, .mo 4]⟩, ⟨1, [], rowO (teS E0 l x3 j)⟩, ⟨2, [], ownO (teS E0 l x3 j) 3⟩, ⟨3, [], .dead⟩, ⟨4, [], delO (teS E0 l x3 j)⟩, ⟨5, [], .cells 119 [.so 6]⟩, ⟨6, [], rowO (teS E0 l x3 j)⟩], fun j => l.length - j,
      ⟨0, [], Nat.zero_le _, rfl, rfl, rfl, rfl, rfl, ⟨rfl, rfl⟩, ⟨AOEq.refl _, aoR0, aoO0, AOEq.refl _, aoD0, AOEq.refl _, aoR0⟩⟩, ?_⟩
    intro j hj
    have hj : j ≤ l.length := hj
    have hL := te_live hL0 l x3 j
    have hLl := te_len E0 l x3 j
    have hC := cok_of_live hL
    refine .inl ⟨fun hc => ?_, fun hc => ?_⟩
    · have hc := dlt hc
      have hc : (j : Int) < l.length := hc
      have ej : (j : Int).toNat = j := Int.toNat_natCast j
      have he := hev (j : Int).toNat (by omega)
      obtain ⟨F, hF⟩ : ∃ F, F = teS E0 l x3 (j + 1) := ⟨_, rfl⟩
      have hLF : Live F := by rw [hF]; exact te_live hL0 l x3 (j + 1)
      have hLFl : F.length ≤ 41 := by rw [hF]; have := te_len E0 l x3 (j + 1); omega
      have hCF := cok_of_live hLF
      have hq : IntKind.i64.wrap ((l.length : Int).tdiv 2) = ((l.length / 2 : Nat) : Int) := by
        rw [Int.tdiv_eq_ediv_of_nonneg (by omega), wr (by omega) (by omega)]
        omega
      have hid0 : (addC (teS E0 l x3 j) (l.getD (j : Int).toNat dE)).2.1 = (addC (teS E0 l x3 j) (l.getD (j : Int).toNat dE)).2.1 := rfl
      repeat refine Or.inl ?_
      refine ⟨⟨by omega, by omega⟩, ?_⟩
      rcases Decidable.em (j = l.length / 2) with hmid | hmid
      have hFm : F = (eraseC (addC (teS E0 l x3 j) (l.getD (j : Int).toNat dE)).1 x3).1 := by rw [hF, ej]; show (if _ then _ else _) = _; rw [if_pos hmid]
      have hC1 := addC_cok hC (l.getD (j : Int).toNat dE)
      have hm : ((j : Int) == IntKind.i64.wrap ((l.length : Int).tdiv 2)) = true := by rw [hq, beq_iff_eq]; omega
      refine Or.inr (Or.inr ?_)
      refine ⟨true, [0, 1, 2, 3, 4], rfl, Unit, _, _, _, _, add_fn' (teS E0 l x3 j) hC.ok (l.getD (j : Int).toNat dE) (by omega) (by omega) rfl, fun _ _ => ?_⟩
      repeat refine Or.inl ?_
      refine ⟨⟨by omega, by omega⟩, ?_⟩
      refine Or.inr (Or.inr ?_)
      refine ⟨true, [5, 6], rfl, Unit, _, _, _, _, radd_fn' (teS E0 l x3 j) hC.ok (l.getD (j : Int).toNat dE) (by omega) (by omega) rfl, fun _ _ => ?_⟩
      repeat refine Or.inl ?_
      refine ⟨by decide, ?_⟩
      refine Or.inr (Or.inl ⟨⟨⟨rfl, hm⟩, trivial⟩, ?_⟩)
      refine Or.inr (Or.inr ?_)
      refine ⟨true, [0, 7, 2, 8, 4], rfl, Unit, _, _, _, _, erase_fn' _ hC1.ok x3 hFm, fun _ _ => ?_⟩
      refine Or.inr (Or.inl ⟨⟨⟨rfl, hm⟩, trivial⟩, ?_⟩)
      refine Or.inr (Or.inr ?_)
      refine ⟨true, [5, 9], rfl, Unit, _, _, _, _, rerase_fn' _ hC1.ok x3 hFm, fun _ _ => ?_⟩
      repeat refine Or.inl ?_
      refine ⟨fun h => (by exfalso; simp at h), fun _ => ?_⟩
      rotate_left
      have hFm : F = (addC (teS E0 l x3 j) (l.getD (j : Int).toNat dE)).1 := by rw [hF, ej]; show (if _ then _ else _) = _; rw [if_neg hmid]
      have hm : ((j : Int) == IntKind.i64.wrap ((l.length : Int).tdiv 2)) = false := by rw [hq, beq_eq_false_iff_ne]; omega
      refine Or.inr (Or.inr ?_)
      refine ⟨true, [0, 1, 2, 3, 4], rfl, Unit, _, _, _, _, add_fn' (teS E0 l x3 j) hC.ok (l.getD (j : Int).toNat dE) (by omega) (by omega) hFm, fun _ _ => ?_⟩
      repeat refine Or.inl ?_
      refine ⟨⟨by omega, by omega⟩, ?_⟩
      refine Or.inr (Or.inr ?_)
      refine ⟨true, [5, 6], rfl, Unit, _, _, _, _, radd_fn' (teS E0 l x3 j) hC.ok (l.getD (j : Int).toNat dE) (by omega) (by omega) hFm, fun _ _ => ?_⟩
      repeat refine Or.inl ?_
      refine ⟨by decide, ?_⟩
      refine Or.inr (Or.inr ⟨⟨⟨rfl, hm⟩, trivial⟩, .i .i64 0, ?_⟩)
      refine Or.inr (Or.inr ⟨⟨⟨rfl, hm⟩, trivial⟩, .i .i64 0, ?_⟩)
      repeat refine Or.inl ?_
      refine ⟨fun h => (by exfalso; simp at h), fun _ => ?_⟩
      all_goals
        have hpl := past_len hCF (addC (teS E0 l x3 j) (l.getD (j : Int).toNat dE)).2.1
        have aoR : AOEq (rowO (teS E0 l x3 (j + 1))) (rowO F) := by rw [← hF]; exact AOEq.refl _
        have aoO : AOEq (ownO (teS E0 l x3 (j + 1)) 8) (ownO F 8) := by rw [← hF]; exact AOEq.own _ _
        have aoD : AOEq (delO (teS E0 l x3 (j + 1))) (delO F) := by rw [← hF]; exact AOEq.refl _
        repeat refine Or.inl ?_
        refine ⟨[], _, fun _ => len_fn F, ?_⟩
        repeat refine Or.inl ?_
        refine ⟨_, _, fun _ => past_fn F hCF _, ?_⟩
        repeat refine Or.inl ?_
        refine ⟨_, _, fun _ => rpast_fn F hCF _, ?_⟩
        repeat refine Or.inl ?_
        refine ⟨[], _, fun _ => ints82_fn (pastL F (addC (teS E0 l x3 j) (l.getD (j : Int).toNat dE)).2.1) (pastL F (addC (teS E0 l x3 j) (l.getD (j : Int).toNat dE)).2.1) (by omega) (by omega), ?_⟩
        repeat refine Or.inl ?_
        refine ⟨fun h => (by exfalso; simp at h), fun _ => ?_⟩
        refine ⟨j + 1, [(1, 7), (3, 8), (6, 9)], (by show j + 1 ≤ l.length; omega), by dsimp only; omega, rfl, rfl, rfl, rfl, rfl, ⟨rfl, wr (by omega) (by omega)⟩, ⟨AOEq.refl _, aoR, aoO, AOEq.refl _, aoD, AOEq.refl _, aoR⟩⟩
    · have hc := dnlt hc
      have hc : (l.length : Int) ≤ j := hc
      have hok := okE_L hC.ok
      have hpl := past_len hC x2
      have hgl : (getC (teS E0 l x3 j) x1).1.cs.length < 2^62 ∧ (getC (teS E0 l x3 j) x1).1.fs.length < 2^62 := by
        unfold getC
        split
        · exact ⟨by decide, by decide⟩
        · rename_i hz
          unfold zP at hz
          rw [Bool.or_eq_true, decide_eq_true_eq, decide_eq_true_eq] at hz
          exact hok _ (getD_memE (by omega))
      refine Or.inr (Or.inr ?_)
      refine ⟨true, [0, 1, 2, 3, 4], rfl, Unit, _, _, _, _, get_fn (teS E0 l x3 j) hC.ok x1, fun _ _ => ?_⟩
      refine Or.inr (Or.inr ?_)
      refine ⟨true, [5, 6], rfl, Unit, _, _, _, _, rget_fn (teS E0 l x3 j) hC.ok x1, fun _ _ => ?_⟩
      refine Or.inr (Or.inr ?_)
      refine ⟨true, [0, 1, 2, 3, 4], rfl, Unit, _, _, _, _, copy_live_fn (teS E0 l x3 j) hC.ok (live_copy hL), fun _ _ => ?_⟩
      repeat refine Or.inl ?_
      refine ⟨[], _, fun _ => same95_fn (getC (teS E0 l x3 j) x1).1 (getC (teS E0 l x3 j) x1).1 hgl.1 hgl.1 hgl.2 hgl.2, ?_⟩
      repeat refine Or.inl ?_
      refine ⟨[], _, fun _ => before_fn (teS E0 l x3 j) hC x1 x2, ?_⟩
      repeat refine Or.inl ?_
      refine ⟨[], _, fun _ => rbefore_fn (teS E0 l x3 j) hC x1 x2, ?_⟩
      repeat refine Or.inl ?_
      refine ⟨_, _, fun _ => past_fn (teS E0 l x3 j) hC x2, ?_⟩
      repeat refine Or.inl ?_
      refine ⟨_, _, fun _ => rpast_fn (teS E0 l x3 j) hC x2, ?_⟩
      repeat refine Or.inl ?_
      refine ⟨[], _, fun _ => ints82_fn (pastL (teS E0 l x3 j) x2) (pastL (teS E0 l x3 j) x2) (by omega) (by omega), ?_⟩
      repeat refine Or.inl ?_
      refine ⟨fun h => (by exfalso; simp at h), fun _ => ?_⟩
      refine Or.inr (Or.inl ⟨⟨⟨rfl, rfl⟩, trivial⟩, ?_⟩)
      refine Or.inr (Or.inr ?_)
      refine ⟨true, [0, 1, 2, 3, 4], rfl, Unit, _, _, _, _, all_fn (teS E0 l x3 j) hC.ok, fun _ _ => ?_⟩
      refine Or.inr (Or.inl ⟨⟨⟨rfl, rfl⟩, trivial⟩, ?_⟩)
      refine Or.inr (Or.inr ?_)
      refine ⟨true, [5, 6], rfl, Unit, _, _, _, _, rall_fn (teS E0 l x3 j) hC.ok, fun _ _ => ?_⟩
      repeat refine Or.inl ?_
      refine ⟨[], _, fun _ => same80_fn (teS E0 l x3 j) (teS E0 l x3 j) (by omega) (by omega) hok hok, ?_⟩
      refine Or.inr (Or.inl ⟨⟨⟨rfl, by simp⟩, trivial⟩, ?_⟩)
      refine Or.inr (Or.inr ?_)
      refine ⟨true, [9, 10, 11, 12, 13], rfl, Unit, _, _, _, _, all_fn (teS E0 l x3 j) hC.ok, fun _ _ => ?_⟩
      refine Or.inr (Or.inl ⟨⟨⟨rfl, by simp⟩, trivial⟩, ?_⟩)
      refine Or.inr (Or.inr ?_)
      refine ⟨true, [5, 6], rfl, Unit, _, _, _, _, rall_fn (teS E0 l x3 j) hC.ok, fun _ _ => ?_⟩
      repeat refine Or.inl ?_
      refine ⟨[], _, fun _ => same80_fn (teS E0 l x3 j) (teS E0 l x3 j) (by omega) (by omega) hok hok, ?_⟩
      refine RetIs.b ?_
      simp
end Go.Proofs.Ytnookbebiacaeaa
end
