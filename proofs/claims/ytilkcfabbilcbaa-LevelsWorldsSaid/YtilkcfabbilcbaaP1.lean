/-
  LevelsTells returns true whatever the input, and the input reads behind the call as it read before.
-/
import Derived.Test.YtilkcfabbilcbaaO1
namespace Go.Proofs.Ytilkcfabbilcbaa
open Go.Eng Go.ChangeShapes Go.WideShapes Go.ChangeAt Go.RowKit

theorem Try.own : ownKnob Try.prog.godebug = none := by kernel_rfl
theorem Try.laidOut : laidOutB Try.prog = true := by kernel_rfl

theorem reps_nil {W : World} : ∀ (j : Nat) (h1 : j < ([] : List AV).length) (h2 : j < ([] : List Value).length), Rep0 (fun _ => False) W ([] : List AV)[j] ([] : List Value)[j] := fun _ h1 => by simp at h1
theorem reps_cons {W : World} {a : AV} {v : Value} {al : List AV} {vs : List Value} (h : Rep0 (fun _ => False) W a v) (hr : ∀ (j : Nat) (h1 : j < al.length) (h2 : j < vs.length), Rep0 (fun _ => False) W al[j] vs[j]) :
    ∀ (j : Nat) (h1 : j < (a :: al).length) (h2 : j < (v :: vs).length), Rep0 (fun _ => False) W (a :: al)[j] (v :: vs)[j] := by
  intro j h1 h2
  cases j with
  | zero => exact h
  | succ j => exact hr j (by simpa using h1) (by simpa using h2)

set_option maxRecDepth 100000 in
theorem levelsTells_lifted (os : Os) (started : os.Started) (H : Type) (enc : TypeId × Value → H) :
    ReturnsInHanded {} Try.checked os 3 .any (Rows.levelsTellsSpec.pre6 enc Try.prog Try.f3 Rows.levelsTellsRow.domain false) (Rows.levelsTellsSpec.post enc Try.prog Try.f3 false true false false) := by
  refine returnsInHanded_of_change (C := Try.checked) Try.own started (by kernel_rfl) Try.func3
    (ChangeSpec.witness6 (enc := enc) (C := Try.checked) false ⟨#[], #[.slice none 0 0, .bool false, .int .i64 0, .int .i64 0], []⟩ 8 (by kernel_rfl) (by kernel_rfl) (by kernel_rfl) (by kernel_rfl)) ?_
  intro W base args ds gs before hval0 hW hcnd _
  have hval : ∀ (j : Nat) t v, Try.f3.params[j]? = some t → args[j]? = some v → Value.okWide Try.prog W .any base t v := hval0
  have hW' := hW
  obtain ⟨p, q, hA0, hV, rfl, hfz, hnd⟩ := hW
  have hA : DataW.TrodAll enc Try.prog W 0 (fun _ => true) true Try.f3.params.toList args.toList ds p := hA0
  rw [Try.params3] at hA hval
  obtain ⟨v0, v1, v2, v3, d0, d1, d2, d3, p0, p1, p2, p3, rfl, rfl, rfl, h0, h1, h2, h3⟩ := trodAll_four hA
  obtain ⟨rfl, rfl⟩ := trodVars_none hV
  obtain ⟨l, hl⟩ := open_notes (hval 0 22 v0 rfl rfl) h0
  obtain ⟨b, rfl, rfl, rfl⟩ := open_bool Try.underlying4 (hval 1 4 v1 rfl rfl) h1
  obtain ⟨m, rfl, rfl, rfl, _⟩ := open_int Try.underlying3 (hval 2 3 v2 rfl rfl) h2
  obtain ⟨w, rfl, rfl, rfl, _⟩ := open_int Try.underlying3 (hval 3 3 v3 rfl rfl) h3
  refine ((tells_fn l b m w).2 W [v0, .bool b, .int .i64 m, .int .i64 w] rfl (reps_cons hl (reps_cons (.b b) (reps_cons (.i _ m) (reps_cons (.i _ w) reps_nil))))).mono ?_
  rintro e W' ⟨v, β, rfl, hb, _, hr⟩
  obtain rfl := hr.b_inv
  rw [tells_true]
  exact ⟨_, rfl, post_true Try.laidOut (by kernel_rfl) hW' rfl rfl rfl Try.underlying4 hb⟩

theorem levelsTells_holds : Rows.LevelsTellsSaid :=
  OpenClaim.holds_of_wide 3 Try.f3 rfl rfl rfl rfl rfl rfl rfl ⟨rfl, rfl, rfl, rfl, rfl⟩ rfl rfl rfl rfl rfl (by kernel_rfl) Try.func3 (by kernel_rfl)
    (of_decide_eq_true (by kernel_rfl)) (by unfold Func.isWrapper; rw [if_neg (by decide +kernel)]; exact ⟨rfl, rfl⟩)
    (fun os started H enc _ => levelsTells_lifted os started H enc)
end Go.Proofs.Ytilkcfabbilcbaa
