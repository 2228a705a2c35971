/-
  ScanTells: what it computes.
-/
import Derived.Test.YtklmfkejgjhneaaS9
namespace Go.Proofs.Ytklmfkejgjhneaa
open Go.Eng

theorem addV_len (l : List Ver) (v : Ver) : (addV l v).1.length ≤ l.length + 1 := by
  unfold addV
  split
  · simp
  · split
    · simp
    · split
      · simp
      · split <;> simp

set_option maxRecDepth 20000 in
set_option maxHeartbeats 4000000 in
theorem tells_fn (l : List Ver) (hwf : ∀ v ∈ l, (Lit.int .i64 v.name).wf = true) (v : Ver) (name f t : Int) :
    Ctr Try.prog 7 [.rs 3 l.length (rowsV l), .ag v.av, .i .i64 name, .i .i64 f, .i .i64 t] [] (.b true) := by
  refine fn_of_exec tabOk Try.func7 (by kernel_rfl) rfl (N := Try.f7.ntmps) rfl (res := [.tmp 10]) rfl rfl [] ?_
  refine .inl ⟨[], _, small_fn, .inl ⟨fun h => RetIs.b rfl, fun h => ?_⟩⟩
  have h : decide ((l.length : Int) > 60) = false := h
  have h60 : l.length ≤ 60 := by simp at h; omega
  have nl : l.length < 2 ^ 62 := by omega
  have nb : l.length * 24 ≤ 140737488355328 := by omega
  have ha := addV_len l v
  have hr := rChg_len l f t l
  refine .inl ⟨_, _, Add_fn l nl v, .inl ⟨_, _, rAdd_fn l nl v, .inl ⟨_, _, fun _ => same_fn (addV l v).1 (rAdd l v).1 (by omega) (by rw [← Add_eq]; omega), ?_⟩⟩⟩
  refine .inl ⟨_, _, fun _ => Bad_fn l nl name f, .inl ⟨_, _, fun _ => rBad_fn l nl name f, .inl ⟨_, _, fun _ => changed_fn l nb hwf f t, .inl ⟨_, _, fun _ => rChanged_fn l nb f t, .inl ⟨_, _, fun _ => ints_fn (Changed l f t) (rChg l f t l) (by rw [Changed_eq]; omega) (by omega), ?_⟩⟩⟩⟩⟩
  refine RetIs.b ?_
  rw [Add_eq, Bad_eq, Changed_eq]
  simp

end Go.Proofs.Ytklmfkejgjhneaa
