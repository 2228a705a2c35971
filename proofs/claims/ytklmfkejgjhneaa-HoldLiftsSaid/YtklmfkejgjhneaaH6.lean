/-
  Holds: Clone, IndexFunc's closure of Lift.
-/
import Derived.Test.YtklmfkejgjhneaaH5
namespace Go.Proofs.Ytklmfkejgjhneaa
open Go.Eng

theorem fresh_rowsH (l : List Hld) : ∀ k, k < l.length → AV.freshs (rowsH l k) = true := fun _ _ => rfl
theorem cat_rowsH (l : List Hld) (c : List AV) : ∀ k, k < l.length → catG 0 (rowOf 4 c) (rowsH l) k = rowsH l k := fun k _ => by simp [catG]
set_option maxRecDepth 20000 in
theorem cloneH_fn (l : List Hld) (hl : l.length * 32 ≤ 140737488355328) : Ctr Try.prog 78 [.rs 4 l.length (rowsH l)] [.row 70 4 l.length (rowsH l)] (.so 0) := by
  refine fn_of_exec tabOk Try.func78 (by kernel_rfl) rfl (N := Try.f78.ntmps) rfl (res := [.tmp 2]) rfl rfl [(999999, [.nl 2 70 4])] ?_
  have e1 : (0 + l.length) * 32 ≤ 140737488355328 := by rw [Nat.zero_add]; exact hl
  refine .inl fun c hc => ⟨fun h => ?_, fun h => ⟨e1, ?_⟩⟩
  · have h0 : l.length = 0 := hc (by cases c <;> first | rfl | cases h)
    exact RetIs.so rfl h0.symm (fun k hk => by omega) (fun k hk => by omega)
  · exact RetIs.so rfl (Nat.zero_add _) (cat_rowsH l []) (fresh_rowsH l)
theorem lift1_fn (id : Int) (x : Hld) : Ctr Try.prog 80 [.ag x.av, .rp [.i .i64 id]] [] (.b (x.id == id)) := by
  refine fn_of_exec tabOk Try.func80 (by kernel_rfl) rfl (N := Try.f80.ntmps) rfl (res := [.tmp 3]) rfl rfl [] ?_
  exact RetIs.b rfl
end Go.Proofs.Ytklmfkejgjhneaa
