/-
  ScanTells returns true whatever the input, and the input reads behind the call as it read before.
-/
import Derived.Test.YtklmfkejgjhneaaS10
import Derived.Test.YtklmfkejgjhneaaO1
namespace Go.Proofs.Ytklmfkejgjhneaa
open Go.Eng Go.ChangeShapes Go.WideShapes Go.ChangeAt Go.RowKit

theorem Try.own : ownKnob Try.prog.godebug = none := by kernel_rfl
theorem Try.laidOut : laidOutB Try.prog = true := by kernel_rfl

theorem reps_nil {W : World} : ∀ (j : Nat) (_h1 : j < ([] : List AV).length) (_h2 : j < ([] : List Value).length), Rep0 (fun _ => False) W ([] : List AV)[j] ([] : List Value)[j] := fun _ h1 => by simp at h1
theorem reps_cons {W : World} {a : AV} {v : Value} {al : List AV} {vs : List Value} (h : Rep0 (fun _ => False) W a v) (hr : ∀ (j : Nat) (h1 : j < al.length) (h2 : j < vs.length), Rep0 (fun _ => False) W al[j] vs[j]) :
    ∀ (j : Nat) (h1 : j < (a :: al).length) (h2 : j < (v :: vs).length), Rep0 (fun _ => False) W (a :: al)[j] (v :: vs)[j] := by
  intro j h1 h2
  cases j with
  | zero => exact h
  | succ j => exact hr j (by simpa using h1) (by simpa using h2)

set_option maxRecDepth 100000 in
theorem scanTells_lifted (os : Os) (started : os.Started) (H : Type) (enc : TypeId × Value → H) :
    ReturnsInHanded {} Try.checked os 7 .any (Rows.scanTellsSpec.pre6 enc Try.prog Try.f7 Rows.scanTellsRow.domain false) (Rows.scanTellsSpec.post enc Try.prog Try.f7 false true false false) := by
  refine returnsInHanded_of_change (C := Try.checked) Try.own started (by kernel_rfl) Try.func7
    (ChangeSpec.witness6 (enc := enc) (C := Try.checked) false ⟨#[], #[.slice none 0 0, .agg #[.int .i64 0, .int .i64 0, .bool false], .int .i64 0, .int .i64 0, .int .i64 0], []⟩ 8 (by kernel_rfl) (by kernel_rfl) (by kernel_rfl) (by kernel_rfl)) ?_
  intro W base args ds gs before hval0 hW hcnd _
  have hval : ∀ (j : Nat) t v, Try.f7.params[j]? = some t → args[j]? = some v → Value.okWide Try.prog W .any base t v := hval0
  have hW' := hW
  obtain ⟨p, q, hA0, hV, rfl, hfz, hnd⟩ := hW
  have hA : DataW.TrodAll enc Try.prog W 0 (fun _ => true) true Try.f7.params.toList args.toList ds p := hA0
  rw [Try.params7] at hA hval
  obtain ⟨rfl, rfl⟩ := trodVars_none hV
  obtain ⟨v0, vs0, d0, ds0, p0, q0, hargs, rfl, rfl, h0, hA⟩ := trodAll_cons hA
  obtain ⟨v1, vs1, d1, ds1, p1, q1, rfl, rfl, rfl, h1, hA⟩ := trodAll_cons hA
  obtain ⟨v2, vs2, d2, ds2, p2, q2, rfl, rfl, rfl, h2, hA⟩ := trodAll_cons hA
  obtain ⟨v3, vs3, d3, ds3, p3, q3, rfl, rfl, rfl, h3, hA⟩ := trodAll_cons hA
  obtain ⟨v4, vs4, d4, ds4, p4, q4, rfl, rfl, rfl, h4, hA⟩ := trodAll_cons hA
  obtain ⟨rfl, rfl, rfl⟩ := trodAll_nil hA
  obtain rfl : args = #[v0, v1, v2, v3, v4] := by cases args; simp_all
  obtain ⟨l, hl, hwf, _⟩ := open_notes (hval 0 43 v0 rfl rfl) h0
  obtain ⟨n, hn⟩ := open_one h1
  obtain ⟨m, rfl, rfl, rfl, _⟩ := open_int Try.underlying3 (hval 2 3 v2 rfl rfl) h2
  obtain ⟨w, rfl, rfl, rfl, _⟩ := open_int Try.underlying3 (hval 3 3 v3 rfl rfl) h3
  obtain ⟨o, rfl, rfl, rfl, _⟩ := open_int Try.underlying3 (hval 4 3 v4 rfl rfl) h4
  refine ((tells_fn l hwf n m w o).2 W [v0, v1, .int .i64 m, .int .i64 w, .int .i64 o] rfl (reps_cons hl (reps_cons hn (reps_cons (.i _ m) (reps_cons (.i _ w) (reps_cons (.i _ o) reps_nil)))))).mono ?_
  rintro e W' ⟨v, β, rfl, hb, _, hr⟩
  obtain rfl := hr.b_inv
  exact ⟨_, rfl, post_true Try.laidOut (by kernel_rfl) hW' rfl rfl rfl Try.underlying4 hb⟩

theorem scanTells_holds : Rows.ScanTellsSaid :=
  OpenClaim.holds_of_wide 7 Try.f7 rfl rfl rfl rfl rfl rfl rfl ⟨rfl, rfl, rfl, rfl, rfl⟩ rfl rfl rfl rfl rfl (by kernel_rfl) Try.func7 (by kernel_rfl)
    (of_decide_eq_true (by kernel_rfl)) (by unfold Func.isWrapper; rw [if_neg (by decide +kernel)]; exact ⟨rfl, rfl⟩)
    (fun os started H enc _ => scanTells_lifted os started H enc)
end Go.Proofs.Ytklmfkejgjhneaa
