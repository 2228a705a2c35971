/-
  Several texts in one: EngC.
-/
import Derived.Shelf.SlSortCmp.NoneTotal
import Derived.Test.YtnookbebiacaeaaMg12

section
/-
  The engine: a function that compares two structs, as the kit's sorting wants it told.
-/
namespace Go.Eng
open Go.RowKit Go.Sort Go.Proofs

section
variable {P : Program} {α : Type} [Inhabited α]
theorem below_grow {W w' : World} (h : Below W.heap.size W w') : ∃ q os', w' = grow (W.drewN q) os' := by
  refine ⟨w'.drawn - W.drawn, w'.heap.extract W.heap.size w'.heap.size, ?_⟩
  have hh : W.heap ++ w'.heap.extract W.heap.size w'.heap.size = w'.heap := by
    refine Array.ext (by simp; have := h.size; omega) fun i h1 h2 => ?_
    by_cases hi : i < W.heap.size
    · rw [Array.getElem_append_left hi]
      have := h.block i hi
      rw [Array.getElem?_eq_getElem hi, Array.getElem?_eq_getElem h2] at this
      exact (Option.some.inj this).symm
    · rw [Array.getElem_append_right (by omega), Array.getElem_extract]
      congr 1
      omega
  have hd : W.drawn + (w'.drawn - W.drawn) = w'.drawn := by have := h.drawn; omega
  obtain ⟨hp, tp, dr, os, out⟩ := w'
  have h1 : os = W.os := h.os
  have h2 : tp = W.tape := h.tape
  have h3 : out = W.output := h.output
  subst h1 h2 h3
  unfold grow World.drewN
  dsimp only at hh hd ⊢
  rw [hh, hd]
theorem cmpLays_of {cb : FuncId} {sz : Nat} {enc : α → List Value} {av : α → List AV} (L : Lies sz enc av) {cf : α → α → Int} (hc : ∀ x y, Ctr P cb [.ag (av x), .ag (av y)] [] (.i .i64 (cf x y))) (blk off size : Nat) (w : World) :
    CmpLays P cb #[] enc sz cf blk off size w := by
  intro m os dk _ x y
  have hag : ∀ (W : World) (z : α), Rep0 (fun _ => False) W (.ag (av z)) (.agg (enc z).toArray) := fun W z => .ag _ _ (by rw [L.alen, L.len]) fun j h1 h2 => L.to _ _ _ _ h1 h2
  have := (hc x y).2 (sortWorldK enc sz w blk off m dk os) [.agg (enc x).toArray, .agg (enc y).toArray] rfl fun j h1 h2 => by
    match j with
    | 0 => exact hag _ x
    | 1 => exact hag _ y
    | j + 2 => exact absurd h1 (by simp)
  refine Calls.mono this ?_
  rintro e w' ⟨v, β, rfl, hb, _, hr⟩
  refine ⟨?_, below_grow hb⟩
  rw [hr.i_inv]
end
end Go.Eng
end
