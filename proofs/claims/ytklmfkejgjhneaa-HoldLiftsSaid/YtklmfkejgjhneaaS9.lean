/-
  Verdicts: the small examples.
-/
import Derived.Test.YtklmfkejgjhneaaS8
import Derived.Test.YtklmfkejgjhneaaS7
namespace Go.Proofs.Ytklmfkejgjhneaa
open Go.Eng

theorem three {p : Nat → Prop} (h0 : p 0) (h1 : p 1) (h2 : p 2) : ∀ k, k < 3 → p k := by
  intro k hk
  match k, hk with
  | 0, _ => exact h0
  | 1, _ => exact h1
  | 2, _ => exact h2
theorem two {p : Nat → Prop} (h0 : p 0) (h1 : p 1) : ∀ k, k < 2 → p k := by
  intro k hk
  match k, hk with
  | 0, _ => exact h0
  | 1, _ => exact h1
theorem one {p : Nat → Prop} (h0 : p 0) : ∀ k, k < 1 → p k := by
  intro k hk
  match k, hk with
  | 0, _ => exact h0
def exL : List Ver := [⟨7, 2, true⟩, ⟨8, 3, true⟩, ⟨7, 5, false⟩]
theorem exL_wf : ∀ v ∈ exL, (Lit.int .i64 v.name).wf = true := by decide
theorem changed_fn (l : List Ver) (hl : l.length * 24 ≤ 140737488355328) (hwf : ∀ v ∈ l, (Lit.int .i64 v.name).wf = true) (f t : Int) :
    Ctr Try.prog 37 [.rs 3 l.length (rowsV l), .i .i64 f, .i .i64 t] [.row 3 1 (Changed l f t).length (rowsI (Changed l f t))] (.so 0) := Changed_fn sortsKeys l hl hwf f t

set_option maxRecDepth 20000 in
set_option maxHeartbeats 4000000 in
theorem small_fn : Ctr Try.prog 30 [] [] (.b true) := by
  refine fn_of_exec tabOk Try.func30 (by kernel_rfl) rfl (N := Try.f30.ntmps) rfl (res := [.tmp 0]) rfl rfl [(2, [.eq 0 (.row 45 3 exL.length (rowsV exL))])] ?_
  have hx : exL.length < 2 ^ 62 := by decide
  have hx2 : exL.length * 24 ≤ 140737488355328 := by decide
  refine ⟨⟨rfl, rfl, rfl, three rfl rfl rfl⟩, .inl ⟨_, _, Add_fn exL hx ⟨9, 4, false⟩, .inl ⟨_, _, Add_fn exL hx ⟨9, 5, false⟩, ?_⟩⟩⟩
  refine .inl ⟨_, _, Bad_fn exL hx 7 1, .inl ⟨_, _, fun _ => Bad_fn exL hx 7 2, .inl ⟨_, _, fun _ => Bad_fn exL hx 7 4, .inl ⟨_, _, fun _ => Bad_fn exL hx 7 5, .inl ⟨_, _, fun _ => Bad_fn exL hx 9 9, ?_⟩⟩⟩⟩⟩
  have c1 : Changed exL 1 4 = [7, 8] := by rw [Changed_eq]; decide
  have c2 : Changed exL 4 9 = [7] := by rw [Changed_eq]; decide
  have c3 : Changed exL 1 9 = [8] := by rw [Changed_eq]; decide
  have i1 : Ctr Try.prog 36 [.rs 1 (Changed exL 1 4).length (rowsI (Changed exL 1 4)), .rs 1 2 (rowOf 1 [.i .i64 7, .i .i64 8])] [] (.b true) := by
    have h := ints_fn (Changed exL 1 4) [7, 8] (by rw [c1]; decide) (by decide)
    rw [decide_eq_true c1] at h
    exact Ctr.of_eq (args := [.rs 1 (Changed exL 1 4).length (rowsI (Changed exL 1 4)), .rs 1 2 (rowsI [7, 8])]) ⟨AVEq.refl _, ⟨rfl, rfl, two rfl rfl⟩⟩ h
  have i2 : Ctr Try.prog 36 [.rs 1 (Changed exL 4 9).length (rowsI (Changed exL 4 9)), .rs 1 1 (rowOf 1 [.i .i64 7])] [] (.b true) := by
    have h := ints_fn (Changed exL 4 9) [7] (by rw [c2]; decide) (by decide)
    rw [decide_eq_true c2] at h
    exact Ctr.of_eq (args := [.rs 1 (Changed exL 4 9).length (rowsI (Changed exL 4 9)), .rs 1 1 (rowsI [7])]) ⟨AVEq.refl _, ⟨rfl, rfl, one rfl⟩⟩ h
  have i3 : Ctr Try.prog 36 [.rs 1 (Changed exL 1 9).length (rowsI (Changed exL 1 9)), .rs 1 1 (rowOf 1 [.i .i64 8])] [] (.b true) := by
    have h := ints_fn (Changed exL 1 9) [8] (by rw [c3]; decide) (by decide)
    rw [decide_eq_true c3] at h
    exact Ctr.of_eq (args := [.rs 1 (Changed exL 1 9).length (rowsI (Changed exL 1 9)), .rs 1 1 (rowsI [8])]) ⟨AVEq.refl _, ⟨rfl, rfl, one rfl⟩⟩ h
  refine .inl ⟨_, _, changed_fn exL hx2 exL_wf 1 4, .inl ⟨[], _, i1, .inl ⟨_, _, fun _ => changed_fn exL hx2 exL_wf 4 9, .inl ⟨[], _, fun _ => i2, .inl ⟨_, _, fun _ => changed_fn exL hx2 exL_wf 1 9, .inl ⟨[], _, fun _ => i3, ?_⟩⟩⟩⟩⟩⟩
  refine RetIs.b ?_
  simp only [Bad_eq]
  decide
end Go.Proofs.Ytklmfkejgjhneaa
