/-
  Several texts in one: O3.
-/
import Derived.SizedLaws
import Derived.Deep.Slices
import Derived.Test.YtnookbebiacaeaaMg16

section
/-
  The size of a slice that came in.
-/
namespace Go.Proofs.Ytnookbebiacaeaa
open Go.Eng Go.RowKit Go.Deep

theorem slice_size {H : Type} {enc : TypeId × Value → H} {P : Program} {W : World} {t e : TypeId} {v : Value} {d : DataW H} {p : List MemPlace} {F : Nat → Prop} {sz n : Nat} {get : Nat → List AV}
    (hu : P.underlying t = some (.slice e)) (h : DataW.Trod enc P W 0 (fun _ => true) true t v d p) (hr : Rep0 F W (.rs sz n get) v) : n = 0 ∨ ∃ el sp, d = .slice el sp ∧ el.length = n := by
  obtain ⟨fuel, h⟩ := h
  rcases open_slice hu h with ⟨hcs, _⟩ | ⟨a, len, cap, m, nn, D, Pl, hcs, _, _, _, _, hx, _⟩
  · left
    cases hr with
    | rsnil => rfl
    | rsz => rfl
    | rs _ _ _ g off cap vs => simp [Value.cells] at hcs
  · cases hr with
    | rsnil => exact .inl rfl
    | rsz => exact .inl rfl
    | rs _ _ _ g off cap' vs =>
      right
      simp [Value.cells] at hcs
      simp only [Prod.mk.injEq] at hx
      exact ⟨_, _, hx.1, by simp [hcs.2.1]⟩
end Go.Proofs.Ytnookbebiacaeaa
end
