/-
  Holds: Decide.
-/
import Derived.Test.YtklmfkejgjhneaaH4
namespace Go.Proofs.Ytklmfkejgjhneaa
open Go.Eng

def noO (event now : Int) (o : Ord) : Bool := o.ev != event || decide (o.step > now) || decide (o.kind < 0) || decide (o.kind ≥ 4)
def okO (event now : Int) (o : Ord) : Bool := !noO event now o
def stO (event now : Int) (o : Ord) : Bool := !noO event now o && (o.kind == 3 || o.kind == 1)
theorem okO_eq (event now : Int) (o : Ord) : okO event now o = (askP event now 1 3 o || askP event now 0 2 o) := by
  unfold okO noO askP
  rw [Bool.eq_iff_iff]
  simp only [Bool.not_eq_true', Bool.or_eq_false_iff, bne_eq_false_iff_eq, decide_eq_false_iff_not, Bool.or_eq_true, Bool.and_eq_true, beq_iff_eq, decide_eq_true_eq]
  omega
theorem stO_eq (event now : Int) (o : Ord) : stO event now o = askP event now 1 3 o := by
  unfold stO noO askP
  rw [Bool.eq_iff_iff]
  simp only [Bool.not_eq_true', Bool.or_eq_false_iff, bne_eq_false_iff_eq, decide_eq_false_iff_not, Bool.or_eq_true, Bool.and_eq_true, beq_iff_eq, decide_eq_true_eq]
  omega
theorem any_or {α : Type} (p q : α → Bool) (l : List α) : l.any (fun x => p x || q x) = (l.any p || l.any q) := by
  induction l with
  | nil => rfl
  | cons x r ih => simp only [List.any_cons, ih]; cases p x <;> cases q x <;> simp
theorem askedAll (l : List Ord) (event now : Int) : l.any (okO event now) = (Asked l event now 1 3 || Asked l event now 0 2) := by
  unfold Asked
  rw [← any_or]
  congr 1
  funext o
  exact okO_eq event now o
theorem strongAll (l : List Ord) (event now : Int) : l.any (stO event now) = Asked l event now 1 3 := by
  unfold Asked
  congr 1
  funext o
  exact stO_eq event now o

set_option maxRecDepth 20000 in
set_option maxHeartbeats 4000000 in
theorem Decide_fn (h : List Hld) (hh : h.length < 2^62) (l : List Ord) (hl : l.length < 2^62) (event now : Int) : Ctr Try.prog 48 [.rs 4 h.length (rowsH h), .rs 4 l.length (rowsO l), .i .i64 event, .i .i64 now] [] (.i .i64 (Decide h l event now)) := by
  refine fn_of_exec tabOk Try.func48 (by kernel_rfl) rfl (N := Try.f48.ntmps) rfl (res := [.tmp 8]) rfl rfl [] ?_
  refine .inl ⟨[], Nat, fun k => k ≤ l.length, fun k => [⟨16, [], .i .i64 k⟩, ⟨9, [], .b ((l.take k).any (okO event now))⟩, ⟨10, [], .b ((l.take k).any (stO event now))⟩], fun _ => [], fun k => l.length - k,
    ⟨0, [], Nat.zero_le _, rfl, rfl, rfl, rfl, rfl, ⟨⟨rfl, rfl⟩, rfl, rfl⟩, trivial⟩, ?_⟩
  intro k hk
  refine .inl ⟨fun hc => ?_, fun hc => ?_⟩
  · have hc := dlt hc
    have ek : (k : Int).toNat = k := Int.toNat_natCast k
    have a1 := any_takeG dO l (okO event now) k (by omega)
    have a2 := any_takeG dO l (stO event now) k (by omega)
    refine Or.inl ⟨⟨by omega, by omega⟩, Or.inl ⟨fun h2 => ?_, fun h2 => ?_⟩⟩
    · have h2 : noO event now (l.getD (k : Int).toNat dO) = true := h2
      rw [ek] at h2
      have b1 : (l.take (k + 1)).any (okO event now) = (l.take k).any (okO event now) := by rw [a1]; unfold okO; rw [h2]; simp
      have b2 : (l.take (k + 1)).any (stO event now) = (l.take k).any (stO event now) := by rw [a2]; unfold stO; rw [h2]; simp
      exact ⟨k + 1, [], by dsimp only; omega, by dsimp only; omega, rfl, rfl, rfl, rfl, rfl, ⟨⟨rfl, wr (by omega) (by omega)⟩, b1.symm, b2.symm⟩, trivial⟩
    · have h2 : noO event now (l.getD (k : Int).toNat dO) = false := h2
      have b1 : true = (l.take (k + 1)).any (okO event now) := by rw [ek] at h2; rw [a1]; unfold okO; rw [h2]; simp
      have b2 : ((l.take k).any (stO event now) || (l.getD (k : Int).toNat dO).kind == 3 || (l.getD (k : Int).toNat dO).kind == 1) = (l.take (k + 1)).any (stO event now) := by
        rw [a2, ek]
        rw [ek] at h2
        unfold stO
        rw [h2]
        simp [Bool.or_assoc]
      exact ⟨k + 1, [], by dsimp only; omega, by dsimp only; omega, rfl, rfl, rfl, rfl, rfl, ⟨⟨rfl, wr (by omega) (by omega)⟩, b1, b2⟩, trivial⟩
  · have hc := dnlt hc
    have hk2 : l.take k = l := List.take_of_length_le (by omega)
    rw [hk2, askedAll, strongAll]
    refine Or.inl (Or.inl ⟨[], _, Held_fn h hh event now, ?_⟩)
    repeat refine Or.inl ?_
    refine ⟨fun h2 => ?_, fun h2 => ?_⟩
    · refine RetIs.i ?_
      have h2 : ((Asked l event now 1 3 || Asked l event now 0 2) && !Held h event now) = true := h2
      rw [Bool.and_eq_true] at h2
      unfold Decide
      rw [if_pos (by simpa using h2.2), if_pos h2.1]
    · have h2 : ((Asked l event now 1 3 || Asked l event now 0 2) && !Held h event now) = false := h2
      refine ⟨fun h3 => ?_, fun h3 => ?_⟩
      · refine RetIs.i ?_
        have h3 : Asked l event now 1 3 = true := h3
        unfold Decide
        rw [h3] at h2
        rw [if_neg (by simp at h2; simp [h2]), if_pos h3]
      · refine RetIs.i ?_
        have h3 : Asked l event now 1 3 = false := h3
        unfold Decide
        rw [h3] at h2 ⊢
        cases hH : Held h event now <;> simp [hH] at h2 ⊢
        exact h2
end Go.Proofs.Ytklmfkejgjhneaa
