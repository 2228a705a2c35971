/-
  LevelsBatch: what it computes, and why that is true.
-/
import Derived.Test.YtilkcfabbilcbaaL1
namespace Go.Proofs.Ytilkcfabbilcbaa
open Go.Eng

/-- What LevelsBatch computes. -/
def batch (l : List Note) (a b w : Int) : Bool :=
  if l.length > 40 ∨ valid l = false then true else
  if ((decide (a < b) && decide (Low l true a w < Low l true b w)) || decide (Low l true a w < Low l false a w)) = true then false else
  High l a w == High l a w && (!Right l true || Right l false)
set_option maxRecDepth 20000 in
theorem batch_fn (l : List Note) (a b w : Int) : Ctr Try.prog 7 [.rs 5 l.length (rowsN l), .i .i64 a, .i .i64 b, .i .i64 w] [] (.b (batch l a b w)) := by
  refine fn_of_exec tabOk Try.func7 (by kernel_rfl) rfl (N := Try.f7.ntmps) rfl (res := [.tmp 8]) rfl rfl ?_
  refine .inl ⟨[], _, small_fn, .inl (.inl ⟨[], _, fun hc => rValid_fn l (by have h := of_decide_eq_false hc.1; omega), ⟨fun h => ?_, fun h => ?_⟩⟩)⟩
  · refine RetIs.b ?_
    unfold batch
    rw [if_pos]
    simp at h
    cases hv : valid l
    · exact .inr rfl
    · left; rw [hv] at h; simp at h; omega
  · simp at h
    have hl : l.length < 2^62 := by omega
    refine .inl ⟨[], _, Low_fn l hl true a w, .inl (.inl ⟨[], _, fun _ => Low_fn l hl true b w, .inl ⟨[], _, fun _ => Low_fn l hl false a w, ⟨fun h2 => ?_, fun h2 => ?_⟩⟩⟩)⟩
    · refine RetIs.b ?_
      unfold batch
      rw [if_neg (by rw [h.2]; simp; omega), if_pos h2]
    · refine .inl ⟨[], _, fun _ => High_fn l hl true a w, .inl ⟨[], _, fun _ => High_fn l hl false a w, .inl ⟨[], _, fun _ => Right_fn l hl true, .inl ⟨[], _, fun _ => Right_fn l hl false, ?_⟩⟩⟩⟩
      refine RetIs.b ?_
      unfold batch
      rw [if_neg (by rw [h.2]; simp; omega), if_neg (by rw [Bool.not_eq_true]; exact h2)]
      simp
end Go.Proofs.Ytilkcfabbilcbaa
