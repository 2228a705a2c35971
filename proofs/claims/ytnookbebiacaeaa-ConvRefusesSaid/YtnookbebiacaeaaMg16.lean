/-
  Several texts in one: Cvi.
-/
import Derived.Test.YtnookbebiacaeaaMg15

section
/-
  Conversations: the law Refuses.
-/
namespace Go.Proofs.Ytnookbebiacaeaa
open Go.Eng

/-- An adding is refused, or it is taken. -/
theorem add_two (E : List Ev) (e : Ev) : (∃ st, st ≠ 0 ∧ addC E e = (E, (0, st)) ∧ (st = 2 ↔ rightE e = false) ∧ (st = 5 → e.s < (idsOf E e.a).length) ∧ (st ≠ 2 → st ≠ 5 → ¬ e.s < (idsOf E e.a).length)) ∨
    (∃ E' id, addC E e = (E', (id, 0)) ∧ rightE e = true ∧ e.s ≤ (idsOf E e.a).length ∧ (e.s = (idsOf E e.a).length → id = E.length ∧ delB E e.t = false ∧ delB E e.q = false ∧ e.t < E.length ∧ e.q < E.length) ∧ (e.s < (idsOf E e.a).length → E' = E)) := by
  rcases addC_cases E e with ⟨hr, h⟩ | ⟨hr, ⟨hs, h | h⟩ | ⟨hs, ⟨st, hst, h⟩ | ⟨hs2, hm, h1, h2, h⟩⟩⟩
  · exact .inl ⟨2, by decide, h, ⟨fun _ => hr, fun _ => rfl⟩, fun h => (by cases h), fun h => absurd rfl h⟩
  · exact .inl ⟨5, by decide, h, ⟨fun h => (by cases h), fun h => (by rw [hr] at h; cases h)⟩, fun _ => hs, fun _ h => absurd rfl h⟩
  · exact .inr ⟨_, _, h, hr, by omega, fun h => (by omega), fun _ => rfl⟩
  · exact .inl ⟨st, by omega, h, ⟨fun h => (by omega), fun h => (by rw [hr] at h; cases h)⟩, fun h => (by omega), fun _ _ => hs⟩
  · have hm := miss_no hm
    exact .inr ⟨_, _, h, hr, by omega, fun _ => ⟨rfl, h1, h2, hm.1, hm.2.1⟩, fun h => by omega⟩
set_option maxRecDepth 20000 in
set_option maxHeartbeats 64000000 in
theorem convRefuses_fn (l : List Ev) (hl : l.length < 2^63) : Ctr Try.prog 19 [.rs 12 l.length (rE l)] [] (.b true) := by
  refine fn_of_exec tabOk Try.func19 (by kernel_rfl) rfl (N := Try.f19.ntmps) rfl (res := [.tmp 2]) rfl rfl [] ?_
  repeat refine Or.inl ?_
  refine ⟨[], _, small71_fn, ?_⟩
  repeat refine Or.inl ?_
  refine ⟨[], _, fewAll_fn l hl 20, ?_⟩
  refine ⟨fun h => RetIs.b rfl, fun h => ?_⟩
  have h : (!fewAll l 20) = false := h
  rw [Bool.not_eq_false'] at h
  obtain ⟨hn, hfe⟩ := fewAll_of h
  have hev : ∀ k, k < l.length → (l.getD k dE).cs.length ≤ 10 ∧ (l.getD k dE).fs.length ≤ 10 ∧ (l.getD k dE).x.size ≤ 300 := fun k hk => few_ev (hfe _ (getD_memE hk))
  have aoD0 : AOEq (delO []) (delO []) := AOEq.refl _
  refine Or.inr (Or.inr ?_)
  refine ⟨true, [], rfl, Unit, _, _, _, _, new_fn, fun _ _ => ?_⟩
  repeat refine Or.inl ?_
  refine ⟨fun h => (by cases h), fun _ => ?_⟩
  repeat refine Or.inl ?_
  refine ⟨[], Nat, fun j => j ≤ l.length, fun j => [⟨5, [], .i .i64 j⟩],
    fun j => [⟨0, [], .cells 182 [.so 1, .mo 2, .mo 4]⟩, ⟨1, [], rowO (cvTo l j)⟩, ⟨2, [], ownO (cvTo l j) 3⟩, ⟨3, [], .dead⟩, ⟨4, [], delO (cvTo l j)⟩], fun j => l.length - j,
    ⟨0, [], Nat.zero_le _, rfl, rfl, rfl, rfl, rfl, ⟨rfl, rfl⟩, ⟨AOEq.refl _, AOEq.refl _, AOEq.own _ _, AOEq.refl _, aoD0⟩⟩, ?_⟩
  intro j hj
  have hj : j ≤ l.length := hj
  have hF := cvTo_cok l j
  have hFl := cvTo_le l j
  refine .inl ⟨fun hc => ?_, fun hc => RetIs.b rfl⟩
  have hc := dlt hc
  have hc : (j : Int) < l.length := hc
  have ej : (j : Int).toNat = j := Int.toNat_natCast j
  have he := hev (j : Int).toNat (by omega)
  have hagA : (addC (cvTo l j) (l.getD (j : Int).toNat dE)).2.2 = 0 → AgI _ _ _ := AgI.of_add (E := cvTo l j) (e := l.getD (j : Int).toNat dE)
  have hsn : cvTo l (j + 1) = (addC (cvTo l j) (l.getD (j : Int).toNat dE)).1 := by rw [ej]; exact cvTo_snoc (by omega)
  have hkF := okE_L hF.ok
  have hF' := addC_cok hF (l.getD (j : Int).toNat dE)
  refine Or.inl ?_
  refine Or.inr (Or.inr ?_)
  refine ⟨true, [0, 1, 2, 3, 4], rfl, Unit, _, _, _, _, all_fn (cvTo l j) hF.ok, fun _ _ => ?_⟩
  repeat refine Or.inl ?_
  refine ⟨⟨by omega, by omega⟩, ?_⟩
  have hcases := add_two (cvTo l j) (l.getD (j : Int).toNat dE)
  refine Or.inr (Or.inr ?_)
  refine ⟨true, [0, 1, 2, 3, 4], rfl, Unit, _, _, _, _, add_fn (cvTo l j) hF.ok (l.getD (j : Int).toNat dE) (by omega) (by omega), fun _ _ => ?_⟩
  repeat refine Or.inl ?_
  refine ⟨[], Nat, fun k => k ≤ (cvTo l j).length, fun k => [⟨9, [], .i .i64 (ownN (cvTo l j) (l.getD (j : Int).toNat dE).a k)⟩, ⟨10, [], .b (goneN (cvTo l j) (l.getD (j : Int).toNat dE) k)⟩, ⟨11, [], .i .i64 k⟩], fun _ => [], fun k => (cvTo l j).length - k,
    ⟨0, [], Nat.zero_le _, rfl, rfl, rfl, rfl, rfl, ⟨⟨rfl, ownN_zero (cvTo l j) (l.getD (j : Int).toNat dE).a⟩, goneN_zero (cvTo l j) (l.getD (j : Int).toNat dE), rfl, rfl⟩, trivial⟩, ?_⟩
  intro k hk
  have hk : k ≤ (cvTo l j).length := hk
  refine .inl ⟨fun hc2 => ?_, fun hc2 => ?_⟩
  · have hc2 := dlt hc2
    have hc2 : (k : Int) < (cvTo l j).length := hc2
    have ek : (k : Int).toNat = k := Int.toNat_natCast k
    have hon := ownN_le (cvTo l j) (l.getD (j : Int).toNat dE).a k
    have hos := ownN_succ (E := cvTo l j) (a := (l.getD (j : Int).toNat dE).a) (k := k) (by omega)
    have hgs := goneN_succ (E := cvTo l j) (e := l.getD (j : Int).toNat dE) (k := k) (by omega)
    refine Or.inl ?_
    refine Or.inr ⟨[], Unit, fun _ => True, fun _ => [⟨9, [], .i .i64 (ownN (cvTo l j) (l.getD (j : Int).toNat dE).a (k + 1))⟩], fun _ => [], ?_, fun _ _ => ?_⟩
    · repeat refine Or.inl ?_
      refine ⟨⟨by omega, by omega⟩, by omega, ?_⟩
      refine ⟨⟨by omega, by omega⟩, ?_⟩
      refine ⟨fun h1 => ?_, fun h1 => ?_⟩
      · have h1 : (((cvTo l j).getD (k : Int).toNat dE).a == (l.getD (j : Int).toNat dE).a) = true := h1
        rw [ek] at h1
        rw [if_pos h1] at hos
        refine ⟨(), [], trivial, rfl, rfl, rfl, rfl, rfl, ⟨rfl, ?_⟩, trivial⟩
        rw [wr (by omega) (by omega)]
        exact hos.symm
      · have h1 : (((cvTo l j).getD (k : Int).toNat dE).a == (l.getD (j : Int).toNat dE).a) = false := h1
        rw [ek] at h1
        rw [if_neg (by rw [h1]; decide)] at hos
        exact ⟨(), [], trivial, rfl, rfl, rfl, rfl, rfl, ⟨rfl, hos.symm⟩, trivial⟩
    repeat refine Or.inl ?_
    refine ⟨fun _ => ⟨by omega, by omega⟩, fun _ => by omega, ?_⟩
    refine ⟨fun _ => ⟨by omega, by omega⟩, fun _ => by omega, ?_⟩
    refine ⟨fun _ => ⟨by omega, by omega⟩, ?_⟩
    refine ⟨fun _ => ⟨by omega, by omega⟩, fun _ => by omega, ?_⟩
    refine ⟨fun _ => ⟨by omega, by omega⟩, ?_⟩
    have hgs2 : (goneN (cvTo l j) (l.getD (j : Int).toNat dE) k || ((((cvTo l j).getD (k : Int).toNat dE).k == 2) && ((((cvTo l j).getD (k : Int).toNat dE).t == (l.getD (j : Int).toNat dE).t) || (((cvTo l j).getD (k : Int).toNat dE).t == (l.getD (j : Int).toNat dE).q)))) = goneN (cvTo l j) (l.getD (j : Int).toNat dE) (k + 1) := by rw [ek]; exact hgs.symm
    refine ⟨k + 1, [], (by show k + 1 ≤ (cvTo l j).length; omega), by dsimp only; omega, rfl, rfl, rfl, rfl, rfl, ⟨⟨rfl, rfl⟩, hgs2, rfl, wr (by omega) (by omega)⟩, trivial⟩
  · have hc2 := dnlt hc2
    have hke : k = (cvTo l j).length := by
      have hc2 : ((cvTo l j).length : Int) ≤ k := hc2
      omega
    have hon := ownN_all (cvTo l j) (l.getD (j : Int).toNat dE).a
    have hgo := goneN_all (cvTo l j) (l.getD (j : Int).toNat dE)
    rw [← hke] at hon hgo
    repeat refine Or.inl ?_
    refine ⟨⟨by omega, by omega⟩, ?_⟩
    repeat refine Or.inl ?_
    refine ⟨[], _, right_fn (l.getD (j : Int).toNat dE) (by omega) (by omega), ?_⟩
    repeat refine Or.inl ?_
    refine ⟨fun h1 => ?_, fun _ => ?_⟩
    · exfalso
      have h1 : ((((addC (cvTo l j) (l.getD (j : Int).toNat dE)).2.2 == 2)) != (!rightE (l.getD (j : Int).toNat dE))) = true := h1
      rcases hcases with ⟨st, hst0, hadd, hst2, hst5, hstn⟩ | ⟨E', id, hadd, hright, hs, hsame, hless⟩
      · rw [hadd] at h1
        have h1 : (((st == 2)) != (!rightE (l.getD (j : Int).toNat dE))) = true := h1
        cases hr : rightE (l.getD (j : Int).toNat dE)
        · rw [hst2.2 hr, hr] at h1; cases h1
        · have : (st == 2) = false := by rw [beq_eq_false_iff_ne]; intro h; rw [hst2.1 h] at hr; cases hr
          rw [this, hr] at h1; cases h1
      · rw [hadd, hright] at h1; cases h1
    repeat refine Or.inl ?_
    refine ⟨fun h2 => ?_, fun h2 => ?_⟩
    · have h2 : ((addC (cvTo l j) (l.getD (j : Int).toNat dE)).2.2 != 0) = true := h2
      have h2 := bne_of h2
      rcases hcases with ⟨st, hst0, hadd, hst2, hst5, hstn⟩ | ⟨E', id, hadd, hright, hs, hsame, hless⟩
      rotate_left
      · exfalso; rw [hadd] at h2; exact h2 rfl
      have hE' : (addC (cvTo l j) (l.getD (j : Int).toNat dE)).1 = cvTo l j := by rw [hadd]
      have hid0 : (addC (cvTo l j) (l.getD (j : Int).toNat dE)).2.1 = 0 := by rw [hadd]
      have hst0 : (addC (cvTo l j) (l.getD (j : Int).toNat dE)).2.2 = st := by rw [hadd]
      have hkF' := okE_L hF'.ok
      have hFl' := hF'.ok.1
      refine Or.inl ?_
      refine Or.inr (Or.inl ⟨⟨⟨rfl, by rw [hid0]; rfl⟩, trivial⟩, ?_⟩)
      refine Or.inr (Or.inr ?_)
      refine ⟨true, [0, 6, 2, 7, 4], rfl, Unit, _, _, _, _, all_fn (addC (cvTo l j) (l.getD (j : Int).toNat dE)).1 hF'.ok, fun _ _ => ?_⟩
      repeat refine Or.inl ?_
      refine ⟨[], _, fun _ => same80_fn (addC (cvTo l j) (l.getD (j : Int).toNat dE)).1 (cvTo l j) (by omega) (by omega) hkF' hkF, ?_⟩
      repeat refine Or.inl ?_
      refine ⟨fun _ => ⟨by omega, by omega⟩, ?_⟩
      refine ⟨fun _ => ⟨by omega, by omega⟩, ?_⟩
      refine ⟨fun h3 => ?_, fun _ => ?_⟩
      · exfalso
        have h3 : (((((addC (cvTo l j) (l.getD (j : Int).toNat dE)).2.1 != 0) || (!decide ((addC (cvTo l j) (l.getD (j : Int).toNat dE)).1 = cvTo l j))) || (((addC (cvTo l j) (l.getD (j : Int).toNat dE)).2.2 == 5) && decide ((l.getD (j : Int).toNat dE).s ≥ ownN (cvTo l j) (l.getD (j : Int).toNat dE).a k))) || ((((addC (cvTo l j) (l.getD (j : Int).toNat dE)).2.2 != 2) && ((addC (cvTo l j) (l.getD (j : Int).toNat dE)).2.2 != 5)) && decide ((l.getD (j : Int).toNat dE).s < ownN (cvTo l j) (l.getD (j : Int).toNat dE).a k))) = true := h3
        rw [hE', hid0, hst0, hon, decide_eq_true rfl] at h3
        simp only [Bool.or_eq_true, Bool.and_eq_true, bne_iff_ne, beq_iff_eq, decide_eq_true_eq, Bool.not_true] at h3
        rcases h3 with ((h3 | h3) | h3) | h3
        · exact h3 rfl
        · cases h3
        · have := hst5 h3.1; omega
        · exact hstn h3.1.1 h3.1.2 h3.2
      have aoR : AOEq (rowO (cvTo l (j + 1))) (rowO (addC (cvTo l j) (l.getD (j : Int).toNat dE)).1) := by rw [hsn]; exact AOEq.refl _
      have aoO : AOEq (ownO (cvTo l (j + 1)) 7) (ownO (addC (cvTo l j) (l.getD (j : Int).toNat dE)).1 7) := by rw [hsn]; exact AOEq.own _ _
      have aoD : AOEq (delO (cvTo l (j + 1))) (delO (addC (cvTo l j) (l.getD (j : Int).toNat dE)).1) := by rw [hsn]; exact AOEq.refl _
      refine ⟨j + 1, [(1, 6), (3, 7)], (by show j + 1 ≤ l.length; omega), by dsimp only; omega, rfl, rfl, rfl, rfl, rfl, ⟨rfl, wr (by omega) (by omega)⟩, ⟨AOEq.refl _, aoR, aoO, AOEq.refl _, aoD⟩⟩
    · have h2 : ((addC (cvTo l j) (l.getD (j : Int).toNat dE)).2.2 != 0) = false := h2
      have h2 := beq_of h2
      rcases hcases with ⟨st, hst0, hadd, hst2, hst5, hstn⟩ | ⟨E', id, hadd, hright, hs, hsame, hless⟩
      · exfalso; rw [hadd] at h2; exact hst0 h2
      have hE' : (addC (cvTo l j) (l.getD (j : Int).toNat dE)).1 = E' := by rw [hadd]
      have hid0 : (addC (cvTo l j) (l.getD (j : Int).toNat dE)).2.1 = id := by rw [hadd]
      have hag := hagA h2
      have hrg := hag.rng
      repeat refine Or.inl ?_
      refine ⟨⟨by omega, by omega⟩, ?_⟩
      refine ⟨fun _ => ⟨by omega, by omega⟩, ?_⟩
      refine ⟨fun _ => ⟨by omega, by omega⟩, ?_⟩
      refine ⟨fun _ => ⟨by omega, by omega⟩, ?_⟩
      refine ⟨fun _ => ⟨by omega, by omega⟩, ?_⟩
      repeat refine Or.inl ?_
      refine ⟨[], _, fun _ => len_fn (addC (cvTo l j) (l.getD (j : Int).toNat dE)).1, ?_⟩
      repeat refine Or.inl ?_
      refine ⟨fun h3 => ?_, fun _ => ?_⟩
      · exfalso
        have h3 : ((decide ((l.getD (j : Int).toNat dE).s > ownN (cvTo l j) (l.getD (j : Int).toNat dE).a k) || (((l.getD (j : Int).toNat dE).s == ownN (cvTo l j) (l.getD (j : Int).toNat dE).a k) && (((((addC (cvTo l j) (l.getD (j : Int).toNat dE)).2.1 != ((cvTo l j).length : Int)) || goneN (cvTo l j) (l.getD (j : Int).toNat dE) k) || decide ((l.getD (j : Int).toNat dE).t ≥ ((cvTo l j).length : Int))) || decide ((l.getD (j : Int).toNat dE).q ≥ ((cvTo l j).length : Int))))) || (decide ((l.getD (j : Int).toNat dE).s < ownN (cvTo l j) (l.getD (j : Int).toNat dE).a k) && (((addC (cvTo l j) (l.getD (j : Int).toNat dE)).1.length : Int) != ((cvTo l j).length : Int)))) = true := h3
        rw [hE', hid0, hon, hgo] at h3
        simp only [Bool.or_eq_true, Bool.and_eq_true, bne_iff_ne, beq_iff_eq, decide_eq_true_eq] at h3
        rcases h3 with (h3 | ⟨h3, h4⟩) | ⟨h3, h4⟩
        · omega
        · obtain ⟨q1, q2, q3, q4, q5⟩ := hsame h3
          rw [q2, q3] at h4
          rcases h4 with ((h4 | h4) | h4) | h4
          · exact h4 q1
          · rcases h4 with h4 | h4 <;> cases h4
          · omega
          · omega
        · rw [hless h3] at h4
          exact h4 rfl
      refine Or.inr (Or.inr ?_)
      refine ⟨true, [0, 6, 2, 7, 4], rfl, Unit, _, _, _, _, get_fn (addC (cvTo l j) (l.getD (j : Int).toNat dE)).1 hF'.ok (addC (cvTo l j) (l.getD (j : Int).toNat dE)).2.1, fun _ _ => ?_⟩
      have hz : zP (addC (cvTo l j) (l.getD (j : Int).toNat dE)).1 (addC (cvTo l j) (l.getD (j : Int).toNat dE)).2.1 = false := by
        unfold zP
        rw [Bool.or_eq_false_iff, decide_eq_false_iff_not, decide_eq_false_iff_not]
        omega
      have hge := get_of hz
      have hx := hF'.ok.2 _ (getD_memE (l := (addC (cvTo l j) (l.getD (j : Int).toNat dE)).1) (k := (addC (cvTo l j) (l.getD (j : Int).toNat dE)).2.1.toNat) (by omega))
      repeat refine Or.inl ?_
      refine ⟨fun _ => ⟨by omega, by omega⟩, ?_⟩
      repeat refine Or.inl ?_
      refine ⟨[], _, fun _ => alike_fn (getC (addC (cvTo l j) (l.getD (j : Int).toNat dE)).1 (addC (cvTo l j) (l.getD (j : Int).toNat dE)).2.1).1 (l.getD (j : Int).toNat dE) (by rw [hge]; exact hx.fit) (by unfold Ev.fit; omega), ?_⟩
      repeat refine Or.inl ?_
      refine ⟨fun h4 => ?_, fun _ => ?_⟩
      · exfalso
        have h4 : ((!(getC (addC (cvTo l j) (l.getD (j : Int).toNat dE)).1 (addC (cvTo l j) (l.getD (j : Int).toNat dE)).2.1).2) || (!alikeE (getC (addC (cvTo l j) (l.getD (j : Int).toNat dE)).1 (addC (cvTo l j) (l.getD (j : Int).toNat dE)).2.1).1 (l.getD (j : Int).toNat dE))) = true := h4
        rw [hge] at h4
        have h4 : ((!true) || (!alikeE ((addC (cvTo l j) (l.getD (j : Int).toNat dE)).1.getD (addC (cvTo l j) (l.getD (j : Int).toNat dE)).2.1.toNat dE) (l.getD (j : Int).toNat dE))) = true := h4
        rw [hag.alike] at h4
        cases h4
      have aoR : AOEq (rowO (cvTo l (j + 1))) (rowO (addC (cvTo l j) (l.getD (j : Int).toNat dE)).1) := by rw [hsn]; exact AOEq.refl _
      have aoO : AOEq (ownO (cvTo l (j + 1)) 7) (ownO (addC (cvTo l j) (l.getD (j : Int).toNat dE)).1 7) := by rw [hsn]; exact AOEq.own _ _
      have aoD : AOEq (delO (cvTo l (j + 1))) (delO (addC (cvTo l j) (l.getD (j : Int).toNat dE)).1) := by rw [hsn]; exact AOEq.refl _
      refine ⟨j + 1, [(1, 6), (3, 7)], (by show j + 1 ≤ l.length; omega), by dsimp only; omega, rfl, rfl, rfl, rfl, rfl, ⟨rfl, wr (by omega) (by omega)⟩, ⟨AOEq.refl _, aoR, aoO, AOEq.refl _, aoD⟩⟩
end Go.Proofs.Ytnookbebiacaeaa
end
