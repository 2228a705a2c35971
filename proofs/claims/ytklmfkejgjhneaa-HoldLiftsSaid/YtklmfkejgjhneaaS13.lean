/-
  ScanChanges: what it computes, and why that is true.
-/
import Derived.Test.YtklmfkejgjhneaaS11
import Derived.Test.YtklmfkejgjhneaaS12
namespace Go.Proofs.Ytklmfkejgjhneaa
open Go.Eng

theorem asc_ext {a b : List Int} (ha : a.Pairwise (· < ·)) (hb : b.Pairwise (· < ·)) (h : ∀ k, k ∈ a ↔ k ∈ b) : a = b := by
  have hp : a.Perm b := (List.perm_ext_iff_of_nodup (ha.imp fun hab => by omega) (hb.imp fun hab => by omega)).2 h
  rw [← sortI_asc ha, ← sortI_asc hb]
  exact Go.mergeSort_of_perm_i hp
theorem asc_Changed (l : List Ver) (f t : Int) : (Changed l f t).Pairwise (· < ·) := by
  rw [Changed_eq]
  exact (rChg_inv l f t l [] List.Pairwise.nil).1
theorem Bad_none {l : List Ver} {k : Int} (h : ∀ v ∈ l, v.name ≠ k) (f : Int) : Bad l k f = false := by
  have : mget (badL l f) k = none := bad_none l [] h
  unfold Bad
  rw [this]
  rfl
theorem mem_Changed (l : List Ver) (f t k : Int) : k ∈ Changed l f t ↔ Bad l k f ≠ Bad l k t := by
  rw [Changed_eq]
  have b : k ∈ rChg l f t l ↔ k ∈ ([] : List Int) ∨ ∃ v ∈ l, v.name = k ∧ rBad l k f ≠ rBad l k t := (rChg_inv l f t l [] List.Pairwise.nil).2 k
  rw [b]
  simp only [← Bad_eq, List.not_mem_nil, false_or]
  constructor
  · rintro ⟨_, _, _, h⟩
    exact h
  · intro h
    by_cases he : ∃ v ∈ l, v.name = k
    · obtain ⟨v, hv, hn⟩ := he
      exact ⟨v, hv, hn, h⟩
    · exfalso
      have hn : ∀ v ∈ l, v.name ≠ k := fun v hv hk => he ⟨v, hv, hk⟩
      rw [Bad_none hn, Bad_none hn] at h
      exact h rfl
theorem Changed_odd (l : List Ver) (one two three : Int) : Changed l one three = oddL (Changed l one two) (Changed l two three) := by
  have h := oddF_asc _ _ _ (Nat.le_refl _) (asc_Changed l one two) (asc_Changed l two three)
  refine asc_ext (asc_Changed _ _ _) h.1 fun k => ?_
  have h2 : k ∈ oddL (Changed l one two) (Changed l two three) ↔ _ := h.2 k
  rw [h2, mem_Changed, mem_Changed, mem_Changed]
  cases Bad l k one <;> cases Bad l k two <;> cases Bad l k three <;> simp
theorem Changed_symm (l : List Ver) (one two : Int) : Changed l one two = Changed l two one :=
  asc_ext (asc_Changed _ _ _) (asc_Changed _ _ _) fun k => by
    rw [mem_Changed, mem_Changed]
    exact ne_comm
theorem Changed_self (l : List Ver) (one : Int) : Changed l one one = [] :=
  asc_ext (asc_Changed _ _ _) List.Pairwise.nil fun k => by
    rw [mem_Changed]
    simp
theorem any_take (l : List Int) (name : Int) (k : Nat) (h : k < l.length) : (l.take (k + 1)).any (· == name) = ((l.take k).any (· == name) || (l.getD k 0 == name)) := by
  rw [List.take_succ_eq_append_getElem h, List.any_append]
  simp [List.getD, h]
theorem Changed_len (l : List Ver) (f t : Int) : (Changed l f t).length ≤ l.length := by
  rw [Changed_eq]
  exact rChg_len l f t l
theorem oddL_len (a b : List Int) : (oddL a b).length ≤ a.length + b.length := oddF_len _ _ _

set_option maxRecDepth 20000 in
set_option maxHeartbeats 8000000 in
theorem changes_fn (l : List Ver) (hwf : ∀ v ∈ l, (Lit.int .i64 v.name).wf = true) (one two three name : Int) :
    Ctr Try.prog 9 [.rs 3 l.length (rowsV l), .i .i64 one, .i .i64 two, .i .i64 three, .i .i64 name] [] (.b true) := by
  refine fn_of_exec tabOk Try.func9 (by kernel_rfl) rfl (N := Try.f9.ntmps) rfl (res := [.tmp 10]) rfl rfl [] ?_
  refine .inl ⟨[], _, small_fn, .inl ⟨fun h => RetIs.b rfl, fun h => ?_⟩⟩
  have h : decide ((l.length : Int) > 60) = false := h
  have h60 : l.length ≤ 60 := by simp at h; omega
  have nl : l.length < 2 ^ 62 := by omega
  have nb : l.length * 24 ≤ 140737488355328 := by omega
  have hA := asc_Changed l one two
  have lA := Changed_len l one two
  have lB := Changed_len l two three
  have lC := Changed_len l one three
  have lD := Changed_len l two one
  have lO := oddL_len (Changed l one two) (Changed l two three)
  refine .inl ⟨_, _, changed_fn l nb hwf one two, .inl ⟨_, _, changed_fn l nb hwf two three, .inl ⟨_, _, changed_fn l nb hwf one three, ?_⟩⟩⟩
  have hO := Changed_odd l one two three
  have hM := mem_Changed l one two name
  have hS := Changed_symm l one two
  have hX := Changed_self l one
  have cX := changed_fn l nb hwf one one
  have cD := changed_fn l nb hwf two one
  generalize eA : Changed l one two = A at *
  generalize eB : Changed l two three = B at *
  refine .inl ⟨[], Nat, fun k => k ≤ A.length, fun k => [⟨16, [], .i .i64 k⟩, ⟨15, [], .b ((A.take k).any (· == name))⟩], fun _ => [], fun k => A.length - k,
    ⟨0, [], Nat.zero_le _, rfl, rfl, rfl, rfl, rfl, ⟨⟨rfl, rfl⟩, rfl⟩, trivial⟩, ?_⟩
  intro k hk
  have hw : 0 < k → IntKind.i64.wrap ((k : Int) - 1) = (k : Int) - 1 := fun _ => wr (by omega) (by omega)
  refine .inl ⟨fun hc => ?_, fun hc => ?_⟩
  · have hc := dlt hc
    have hs := any_take A name k (by omega)
    have ek : (k : Int).toNat = k := Int.toNat_natCast k
    refine Or.inl (Or.inl ⟨fun hg => ?_, fun hg => ?_, fun hg => ?_, fun hg => ?_, ⟨fun h2 => ?_, fun h2 => ?_⟩⟩)
    · have hg : decide ((k : Int) > 0) = true := hg.1
      have := of_decide_eq_true hg
      rw [hw (by omega)]
      omega
    · have hg : decide ((k : Int) > 0) = true := hg.1
      have := of_decide_eq_true hg
      rw [hw (by omega)]
      omega
    · omega
    · omega
    · exfalso
      have h2 : (decide ((k : Int) > 0) && decide (A.getD (IntKind.i64.wrap ((k : Int) - 1)).toNat 0 ≥ A.getD (k : Int).toNat 0)) = true := h2
      rw [Bool.and_eq_true] at h2
      have h3 := of_decide_eq_true h2.1
      have h4 := of_decide_eq_true h2.2
      have e1 : ((k : Int) - 1).toNat = k - 1 := by omega
      rw [hw (by omega), e1, ek] at h4
      have h5 := List.pairwise_iff_getElem.1 hA (k - 1) k (by omega) (by omega) (by omega)
      simp only [List.getD, List.getElem?_eq_getElem (show k - 1 < A.length by omega), List.getElem?_eq_getElem (show k < A.length by omega), Option.getD_some] at h4
      omega
    · refine ⟨fun hg => by omega, fun hg => by omega, ?_⟩
      refine ⟨k + 1, [], by dsimp only; omega, by dsimp only; omega, rfl, rfl, rfl, rfl, rfl, ⟨⟨rfl, wr (by omega) (by omega)⟩, ?_⟩, trivial⟩
      show ((A.take k).any (· == name) || (A.getD (k : Int).toNat 0 == name)) = (A.take (k + 1)).any (· == name)
      rw [hs, ek]
  · have hc := dnlt hc
    have hk2 : A.take k = A := List.take_of_length_le (by omega)
    rw [hk2]
    refine .inl (.inl ⟨[], _, Bad_fn l nl name one, .inl ⟨[], _, Bad_fn l nl name two, ⟨fun h2 => ?_, fun h2 => ?_⟩⟩⟩)
    · exfalso
      have h2 : (A.any (· == name) != (Bad l name one != Bad l name two)) = true := h2
      have h3 : A.any (· == name) = (Bad l name one != Bad l name two) := by
        rw [Bool.eq_iff_iff, List.any_eq_true, bne_iff_ne, ← hM]
        constructor
        · rintro ⟨x, hx, he⟩
          rw [beq_iff_eq] at he
          rw [← he]
          exact hx
        · intro h4
          exact ⟨name, h4, by simp⟩
      rw [h3] at h2
      simp at h2
    · refine .inl ⟨_, _, fun _ => odd_fn A B (by omega) (by omega), .inl ⟨[], _, fun _ => ints_fn (Changed l one three) (oddL A B) (by omega) (by omega), .inl ⟨_, _, fun _ => cD, .inl ⟨[], _, fun _ => ints_fn A (Changed l two one) (by omega) (by omega), .inl ⟨_, _, fun _ => cX, ?_⟩⟩⟩⟩⟩
      refine RetIs.b ?_
      rw [← hO, ← hS, hX]
      simp
end Go.Proofs.Ytklmfkejgjhneaa
