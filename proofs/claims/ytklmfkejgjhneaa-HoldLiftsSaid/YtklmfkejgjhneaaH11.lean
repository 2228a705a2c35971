/-
  Holds: the small examples, and HoldTells.
-/
import Derived.Test.YtklmfkejgjhneaaH10
namespace Go.Proofs.Ytklmfkejgjhneaa
open Go.Eng

def exH : List Hld := [⟨0, 4, 10, -1⟩]
def exO : List Ord := [⟨0, 4, 0, 5⟩, ⟨3, 4, 0, 20⟩]
set_option maxRecDepth 20000 in
set_option maxHeartbeats 4000000 in
theorem smallH_fn : Ctr Try.prog 40 [] [] (.b true) := by
  refine fn_of_exec tabOk Try.func40 (by kernel_rfl) rfl (N := Try.f40.ntmps) rfl (res := [.tmp 0]) rfl rfl [(3, [.eq 0 (.row 70 4 exH.length (rowsH exH)), .eq 1 (.row 67 4 exO.length (rowsO exO))])] ?_
  have hh : exH.length < 2 ^ 62 := by decide
  have ho : exO.length < 2 ^ 62 := by decide
  have ho2 : exO.length < 2 ^ 40 := by decide
  have hb : exH.length * 32 ≤ 140737488355328 := by decide
  have hL : (Lift exH 0 25).1.length < 2 ^ 62 := by decide
  have cD : Due exH exO 5 = [4] := by unfold Due; rw [← insAll_eq]; decide
  have i1 : Ctr Try.prog 51 [.rs 1 (Due exH exO 5).length (rowsI (Due exH exO 5)), .rs 1 1 (rowOf 1 [.i .i64 4])] [] (.b true) := by
    have h := intsH_fn (Due exH exO 5) [4] (by rw [cD]; decide) (by decide)
    rw [decide_eq_true cD] at h
    exact Ctr.of_eq (args := [.rs 1 (Due exH exO 5).length (rowsI (Due exH exO 5)), .rs 1 1 (rowsI [4])]) ⟨AVEq.refl _, ⟨rfl, rfl, one rfl⟩⟩ h
  refine ⟨⟨rfl, rfl, rfl, one rfl⟩, ⟨rfl, rfl, rfl, two rfl rfl⟩, ?_⟩
  refine .inl ⟨_, _, Lift_fn exH hb 0 25, ?_⟩
  refine .inl ⟨[], _, Decide_fn exH hh exO ho 4 4, .inl ⟨[], _, fun _ => Decide_fn exH hh exO ho 4 5, .inl ⟨[], _, fun _ => Decide_fn exH hh exO ho 4 10, .inl ⟨[], _, fun _ => Decide_fn exH hh exO ho 4 20, ?_⟩⟩⟩⟩
  refine .inl ⟨[], _, fun _ => Decide_fn (Lift exH 0 25).1 hL exO ho 4 30, .inl ⟨[], _, fun _ => RightH_fn exH hh, .inl ⟨[], _, fun _ => Held_fn exH hh 4 10, .inl ⟨_, _, fun _ => Due_fn exH hh exO ho2 5, .inl ⟨[], _, fun _ => i1, ?_⟩⟩⟩⟩⟩
  refine RetIs.b ?_
  decide

theorem FewH_iff {h : List Hld} {l : List Ord} : FewH h l = true ↔ h.length ≤ 20 ∧ l.length ≤ 20 := by simp [FewH]
theorem Lift_len (l : List Hld) (id now : Int) : (Lift l id now).1.length = l.length := by
  unfold Lift
  split
  · rfl
  · split
    · rfl
    · unfold liftK
      split
      · rfl
      · split
        · rfl
        · simp

set_option maxRecDepth 20000 in
set_option maxHeartbeats 8000000 in
theorem holdTells_fn (h : List Hld) (l : List Ord) (event id now : Int) :
    Ctr Try.prog 11 [.rs 4 h.length (rowsH h), .rs 4 l.length (rowsO l), .i .i64 event, .i .i64 id, .i .i64 now] [] (.b true) := by
  refine fn_of_exec tabOk Try.func11 (by kernel_rfl) rfl (N := Try.f11.ntmps) rfl (res := [.tmp 10]) rfl rfl [] ?_
  refine .inl ⟨[], _, smallH_fn, ?_⟩
  repeat refine Or.inl ?_
  refine ⟨[], _, Few_fn h l, ⟨fun hf => RetIs.b rfl, fun hf => ?_⟩⟩
  have hf : (!FewH h l) = false := hf
  have hf : FewH h l = true := by simpa using hf
  rw [FewH_iff] at hf
  obtain ⟨h20, l20⟩ := hf
  have hh : h.length < 2 ^ 62 := by omega
  have hl : l.length < 2 ^ 62 := by omega
  have hl2 : l.length < 2 ^ 40 := by omega
  have hb : h.length * 32 ≤ 140737488355328 := by omega
  have hL := Lift_len h id now
  have hD := Due_len h l now
  have hD2 := insAll_len (dueL h l now l)
  have hD3 := dueL_len h l now l
  refine .inl ⟨_, _, Lift_fn h hb id now, .inl ⟨_, _, rLift_fn h hb id now, ?_⟩⟩
  refine .inl ⟨[], _, RightH_fn h hh, .inl ⟨[], _, rRightH_fn h hh, .inl ⟨[], _, fun _ => Held_fn h hh event now, .inl ⟨[], _, fun _ => rHeld_fn h hh event now, ?_⟩⟩⟩⟩
  refine .inl ⟨[], _, fun _ => Decide_fn h hh l hl event now, .inl ⟨[], _, fun _ => rDecide_fn h hh l hl event now, ?_⟩⟩
  refine .inl ⟨[], _, fun _ => sameH_fn (Lift h id now).1 (Lift h id now).1 (by omega) (by omega), .inl ⟨_, _, fun _ => Due_fn h hh l hl2 now, .inl ⟨_, _, fun _ => rDue_fn h hh l hl2 now, .inl ⟨[], _, fun _ => intsH_fn (Due h l now) (insAll (dueL h l now l)) (by omega) (by omega), ?_⟩⟩⟩⟩
  refine RetIs.b ?_
  rw [show insAll (dueL h l now l) = Due h l now from insAll_eq _]
  simp
end Go.Proofs.Ytklmfkejgjhneaa
