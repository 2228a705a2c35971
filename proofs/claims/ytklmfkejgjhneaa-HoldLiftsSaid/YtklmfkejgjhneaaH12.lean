/-
  Holds: HoldKeeps, and what more holds and orders do.
-/
import Derived.Test.YtklmfkejgjhneaaH11
namespace Go.Proofs.Ytklmfkejgjhneaa
open Go.Eng

theorem asked_mem {l : List Ord} {event now a b : Int} : Asked l event now a b = true ↔ ∃ o ∈ l, askP event now a b o = true := by
  unfold Asked
  rw [List.any_eq_true]
theorem dec_asked {h : List Hld} {l : List Ord} {k now : Int} (hd : Decide h l k now ≠ 0) : (Asked l k now 1 3 || Asked l k now 0 2) = true := by
  unfold Decide at hd
  cases h1 : Asked l k now 1 3 <;> cases h2 : Asked l k now 0 2 <;> simp [h1, h2] at hd ⊢
theorem mem_Due {h : List Hld} {l : List Ord} {now k : Int} : k ∈ Due h l now ↔ Decide h l k now ≠ 0 := by
  unfold Due
  rw [setI_mem]
  unfold dueL
  simp only [List.mem_map, List.mem_filter, bne_iff_ne]
  constructor
  · rintro ⟨o, ⟨_, hd⟩, rfl⟩
    exact hd
  · intro hd
    have ha := dec_asked hd
    rw [← askedAll, List.any_eq_true] at ha
    obtain ⟨o, ho, hk⟩ := ha
    have he : o.ev = k := by
      unfold okO noO at hk
      simp only [Bool.not_eq_true', Bool.or_eq_false_iff, bne_eq_false_iff_eq] at hk
      exact hk.1.1.1
    exact ⟨o, ⟨ho, by rw [he]; exact hd⟩, he⟩
theorem Due_asc (h : List Hld) (l : List Ord) (now : Int) : (Due h l now).Pairwise (· < ·) := setI_asc _
theorem okO_eq2 (event now : Int) (o : Ord) : (o.ev == event && decide (o.step ≤ now) && decide (o.kind ≥ 0) && decide (o.kind < 4)) = okO event now o := by
  unfold okO noO
  rw [Bool.eq_iff_iff]
  simp only [Bool.not_eq_true', Bool.or_eq_false_iff, bne_eq_false_iff_eq, decide_eq_false_iff_not, Bool.and_eq_true, beq_iff_eq, decide_eq_true_eq]
  omega
theorem keeps_law (h : List Hld) (l : List Ord) (event now : Int) :
    ((Decide h l event now == 1) != (l.any (okO event now) && !Held h event now) || ((Decide h l event now == 2) != (l.any (stO event now) && Held h event now)) || ((Decide h l event now == 0) != (!l.any (okO event now) || (Held h event now && !l.any (stO event now))))) = false := by
  rw [askedAll, strongAll]
  unfold Decide
  cases Held h event now <;> cases Asked l event now 1 3 <;> cases Asked l event now 0 2 <;> rfl
theorem le47 {n sz : Nat} (h : n ≤ 1000000) (hs : sz ≤ 1000 := by decide) : n * sz ≤ 140737488355328 := Nat.le_trans (Nat.mul_le_mul h hs) (by decide)
theorem getD_mem {l : List Int} {k : Nat} (h : k < l.length) : l.getD k 0 ∈ l := by
  simp [List.getD, h]
theorem asc_get {l : List Int} (h : l.Pairwise (· < ·)) {i j : Nat} (hij : i < j) (hj : j < l.length) : l.getD i 0 < l.getD j 0 := by
  have := List.pairwise_iff_getElem.1 h i j (by omega) hj hij
  simpa [List.getD, hj, show i < l.length by omega] using this

set_option maxRecDepth 20000 in
set_option maxHeartbeats 8000000 in
theorem holdKeeps_fn (h : List Hld) (l : List Ord) (event now : Int) :
    Ctr Try.prog 12 [.rs 4 h.length (rowsH h), .rs 4 l.length (rowsO l), .i .i64 event, .i .i64 now] [] (.b true) := by
  refine fn_of_exec tabOk Try.func12 (by kernel_rfl) rfl (N := Try.f12.ntmps) rfl (res := [.tmp 8]) rfl rfl [] ?_
  refine .inl ⟨[], _, smallH_fn, ?_⟩
  repeat refine Or.inl ?_
  refine ⟨[], _, Few_fn h l, ⟨fun hf => RetIs.b rfl, fun hf => ?_⟩⟩
  have hf : (!FewH h l) = false := hf
  have hf : FewH h l = true := by simpa using hf
  rw [FewH_iff] at hf
  obtain ⟨h20, l20⟩ := hf
  have hh : h.length < 2 ^ 62 := by omega
  have hl : l.length < 2 ^ 62 := by omega
  have hl2 : l.length < 2 ^ 40 := by omega
  refine .inl ⟨[], _, Held_fn h hh event now, ?_⟩
  refine .inl ⟨[], Nat, fun k => k ≤ l.length, fun k => [⟨13, [], .i .i64 k⟩, ⟨11, [], .b ((l.take k).any (okO event now))⟩, ⟨12, [], .b ((l.take k).any (stO event now))⟩], fun _ => [], fun k => l.length - k,
    ⟨0, [], Nat.zero_le _, rfl, rfl, rfl, rfl, rfl, ⟨⟨rfl, rfl⟩, rfl, rfl⟩, trivial⟩, ?_⟩
  intro k hk
  refine .inl ⟨fun hc => ?_, fun hc => ?_⟩
  · have hc := dlt hc
    have ek : (k : Int).toNat = k := Int.toNat_natCast k
    have a1 := any_takeG dO l (okO event now) k (by omega)
    have a2 := any_takeG dO l (stO event now) k (by omega)
    repeat refine Or.inl ?_
    refine ⟨⟨by omega, by omega⟩, ⟨fun h2 => ?_, fun h2 => ?_⟩⟩
    · have h2 : ((l.getD (k : Int).toNat dO).ev == event && decide ((l.getD (k : Int).toNat dO).step ≤ now) && decide ((l.getD (k : Int).toNat dO).kind ≥ 0) && decide ((l.getD (k : Int).toNat dO).kind < 4)) = true := h2
      rw [ek, okO_eq2] at h2
      have b1 : true = (l.take (k + 1)).any (okO event now) := by rw [a1, h2]; simp
      have b2 : ((l.take k).any (stO event now) || (l.getD (k : Int).toNat dO).kind == 3 || (l.getD (k : Int).toNat dO).kind == 1) = (l.take (k + 1)).any (stO event now) := by
        rw [a2, ek]
        unfold okO at h2
        unfold stO
        rw [h2]
        simp [Bool.or_assoc]
      exact ⟨k + 1, [], by dsimp only; omega, by dsimp only; omega, rfl, rfl, rfl, rfl, rfl, ⟨⟨rfl, wr (by omega) (by omega)⟩, b1, b2⟩, trivial⟩
    · have h2 : ((l.getD (k : Int).toNat dO).ev == event && decide ((l.getD (k : Int).toNat dO).step ≤ now) && decide ((l.getD (k : Int).toNat dO).kind ≥ 0) && decide ((l.getD (k : Int).toNat dO).kind < 4)) = false := h2
      rw [ek, okO_eq2] at h2
      have b1 : (l.take k).any (okO event now) = (l.take (k + 1)).any (okO event now) := by rw [a1, h2]; simp
      have b2 : (l.take k).any (stO event now) = (l.take (k + 1)).any (stO event now) := by
        rw [a2]
        unfold okO at h2
        unfold stO
        rw [h2]
        simp
      exact ⟨k + 1, [], by dsimp only; omega, by dsimp only; omega, rfl, rfl, rfl, rfl, rfl, ⟨⟨rfl, wr (by omega) (by omega)⟩, b1, b2⟩, trivial⟩
  · have hc := dnlt hc
    have hk2 : l.take k = l := List.take_of_length_le (by omega)
    rw [hk2]
    refine .inl ⟨[], _, Decide_fn h hh l hl event now, ?_⟩
    repeat refine Or.inl ?_
    refine ⟨fun h2 => ?_, fun _ => ?_⟩
    · exfalso
      have h2 : ((Decide h l event now == 1) != (l.any (okO event now) && !Held h event now) || ((Decide h l event now == 2) != (l.any (stO event now) && Held h event now)) || ((Decide h l event now == 0) != (!l.any (okO event now) || (Held h event now && !l.any (stO event now))))) = true := h2
      rw [keeps_law] at h2
      cases h2
    have hA := Due_asc h l now
    have hM : ∀ k, k ∈ Due h l now ↔ Decide h l k now ≠ 0 := fun k => mem_Due
    have hlen := Due_len h l now
    refine .inl ⟨_, _, Due_fn h hh l hl2 now, ?_⟩
    generalize Due h l now = D at *
    refine .inl ⟨[], Nat, fun q => q ≤ D.length, fun q => [⟨18, [], .i .i64 q⟩, ⟨17, [], .b ((D.take q).any (· == event))⟩], fun _ => [], fun q => D.length - q,
      ⟨0, [], Nat.zero_le _, rfl, rfl, rfl, rfl, rfl, ⟨⟨rfl, rfl⟩, rfl⟩, trivial⟩, ?_⟩
    intro q hq
    refine .inl ⟨fun hc => ?_, fun hc => ?_⟩
    · have hc := dlt hc
      have eq : (q : Int).toNat = q := Int.toNat_natCast q
      have hw : 0 < q → IntKind.i64.wrap ((q : Int) - 1) = (q : Int) - 1 := fun _ => wr (by omega) (by omega)
      have hmx : 0 < q → (max (IntKind.i64.wrap ((q : Int) - 1)) 0).toNat = q - 1 := fun h => by rw [hw h]; omega
      have hs := any_takeG 0 D (· == event) q (by omega)
      have hin : D.getD q 0 ∈ D := getD_mem (by omega)
      have hne : Decide h l (D.getD q 0) now ≠ 0 := (hM _).1 hin
      repeat refine Or.inl ?_
      refine ⟨fun _ => by omega, fun _ => by omega, ?_⟩
      repeat refine Or.inl ?_
      refine ⟨fun _ => by omega, fun _ => by omega, fun hg => ?_, fun hg => ?_, fun _ => by omega, fun _ => by omega, ?_⟩
      · have hg : decide ((q : Int) > 0) = true := hg.1
        have := of_decide_eq_true hg
        rw [hw (by omega)]
        omega
      · have hg : decide ((q : Int) > 0) = true := hg.1
        have := of_decide_eq_true hg
        rw [hw (by omega)]
        omega
      repeat refine Or.inl ?_
      refine ⟨[], _, fun _ => Decide_fn h hh l hl _ now, ⟨fun h2 => ?_, fun h2 => ?_⟩⟩
      · exfalso
        have h2 : ((decide ((q : Int) > 0) && decide (D.getD (q : Int).toNat 0 ≤ D.getD (max (IntKind.i64.wrap ((q : Int) - 1)) 0).toNat 0)) || Decide h l (D.getD (q : Int).toNat 0) now == 0) = true := h2
        rw [eq] at h2
        simp only [Bool.or_eq_true, Bool.and_eq_true, decide_eq_true_eq, beq_iff_eq] at h2
        rcases h2 with ⟨h3, h4⟩ | h3
        · rw [hmx (by omega)] at h4
          have := asc_get hA (show q - 1 < q by omega) (by omega)
          omega
        · exact hne h3
      · refine ⟨q + 1, [], by dsimp only; omega, by dsimp only; omega, rfl, rfl, rfl, rfl, rfl, ⟨⟨rfl, wr (by omega) (by omega)⟩, ?_⟩, trivial⟩
        show ((D.take q).any (· == event) || (D.getD (q : Int).toNat 0 == event)) = (D.take (q + 1)).any (· == event)
        rw [hs, eq]
    · have hc := dnlt hc
      have hq2 : D.take q = D := List.take_of_length_le (by omega)
      rw [hq2]
      refine RetIs.b ?_
      show (true && (D.any (· == event) == (Decide h l event now != 0))) = true
      have e : D.any (· == event) = (Decide h l event now != 0) := by
        rw [Bool.eq_iff_iff, bne_iff_ne, ← hM]
        exact hasI_iff
      rw [e]
      simp

theorem any_mono {α : Type} {p q : α → Bool} {l m : List α} (h : ∀ x ∈ l, p x = true → x ∈ m ∧ q x = true) (hl : l.any p = true) : m.any q = true := by
  rw [List.any_eq_true] at hl ⊢
  obtain ⟨x, hx, hp⟩ := hl
  exact ⟨x, (h x hx hp).1, (h x hx hp).2⟩
theorem more_hold (h : List Hld) (g : Hld) (l : List Ord) (k now : Int) : (Decide (h ++ [g]) l k now ≠ 0 → Decide h l k now ≠ 0) ∧ (Decide (h ++ [g]) l k now = 1 → Decide h l k now = 1) := by
  have hH : Held h k now = true → Held (h ++ [g]) k now = true := fun hh => by
    unfold Held at hh ⊢
    rw [List.any_append, hh]
    rfl
  unfold Decide
  cases h1 : Held h k now <;> cases h2 : Held (h ++ [g]) k now <;> cases Asked l k now 1 3 <;> cases Asked l k now 0 2 <;> first
    | (rw [hH h1] at h2; cases h2; done)
    | decide
theorem more_ord (h : List Hld) (l : List Ord) (o : Ord) (k now : Int) : Decide h l k now ≠ 0 → Decide h (l ++ [o]) k now ≠ 0 := by
  have hA : ∀ a b, Asked l k now a b = true → Asked (l ++ [o]) k now a b = true := fun a b hh => by
    unfold Asked at hh ⊢
    rw [List.any_append, hh]
    rfl
  unfold Decide
  have h1 := hA 1 3
  have h2 := hA 0 2
  cases Held h k now <;> cases h3 : Asked l k now 1 3 <;> cases h4 : Asked l k now 0 2 <;> cases h5 : Asked (l ++ [o]) k now 1 3 <;> cases h6 : Asked (l ++ [o]) k now 0 2 <;> first
    | (rw [h1 h3] at h5; cases h5; done)
    | (rw [h2 h4] at h6; cases h6; done)
    | decide
theorem free_due {l : List Ord} {now : Int} {o : Ord} (ho : o ∈ l) (hc : (decide (o.step ≤ now) && decide (o.kind ≥ 0) && decide (o.kind < 4)) = true) : o.ev ∈ Due [] l now := by
  rw [mem_Due]
  have h1 : l.any (okO o.ev now) = true := by
    rw [List.any_eq_true]
    refine ⟨o, ho, ?_⟩
    rw [← okO_eq2, beq_self_eq_true, Bool.true_and]
    exact hc
  rw [askedAll] at h1
  have e : Decide [] l o.ev now = 1 := by
    unfold Decide
    rw [if_pos (show Held [] o.ev now = false from rfl), if_pos h1]
  rw [e]
  decide
theorem Ctr.of_nil {f : FuncId} {sz : Nat} {get : Nat → List AV} {args : List AV} {os : List AO} {r : AV} (c : Ctr Try.prog f (.rs sz 0 get :: args) os r) : Ctr Try.prog f (.val (.slice none 0 0) :: args) os r := by
  refine ⟨c.1, fun w vs hl hr => c.2 w vs hl fun j h1 h2 => ?_⟩
  cases j with
  | zero =>
    have := hr 0 (by simp) h2
    simp only [List.getElem_cons_zero] at this
    generalize vs[0] = v at this ⊢
    cases this
    exact .rsnil _ _
  | succ j => exact hr (j + 1) (by simpa using h1) h2
theorem snocH (l : List Hld) (v : Hld) : ∀ k, k < (l ++ [v]).length → catG (0 + l.length) (catG 0 (rowOf 4 []) (rowsH l)) (rowOf 4 v.av) k = rowsH (l ++ [v]) k := by
  intro k hk
  unfold catG rowsH
  by_cases h : k < l.length
  · rw [if_pos (by omega), if_neg (by omega)]
    simp [List.getD, List.getElem?_append_left h]
  · rw [if_neg (by omega)]
    have : k = l.length := by simp at hk; omega
    subst this
    simp [List.getD]
    rfl
theorem snocO (l : List Ord) (v : Ord) : ∀ k, k < (l ++ [v]).length → catG (0 + l.length) (catG 0 (rowOf 4 []) (rowsO l)) (rowOf 4 v.av) k = rowsO (l ++ [v]) k := by
  intro k hk
  unfold catG rowsO
  by_cases h : k < l.length
  · rw [if_pos (by omega), if_neg (by omega)]
    simp [List.getD, List.getElem?_append_left h]
  · rw [if_neg (by omega)]
    have : k = l.length := by simp at hk; omega
    subst this
    simp [List.getD]
    rfl

end Go.Proofs.Ytklmfkejgjhneaa
