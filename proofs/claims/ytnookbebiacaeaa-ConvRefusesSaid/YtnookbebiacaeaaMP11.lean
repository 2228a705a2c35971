/-
  ConvRefuses returns true whatever the input, and the input reads behind the call as it read before.
-/
import Derived.Test.YtnookbebiacaeaaRows
import Derived.Test.YtnookbebiacaeaaChecked
import Derived.Test.YtnookbebiacaeaaMg18
namespace Go.Proofs.Ytnookbebiacaeaa
open Go.Eng Go.ChangeShapes Go.WideShapes Go.ChangeAt Go.RowKit

theorem convRefuses_ctr (x : Sh.Vals [.ksl shE]) (_hwf : Sh.wfs [.ksl shE] x) : Ctr Try.prog 19 (Sh.tops [.ksl shE] x) [] (.b true) :=
  Ctr.of_eq (args := [.rs 12 (x.1.map ofE).length (rE (x.1.map ofE))]) ⟨(rsE x.1).1, (rsE x.1).2⟩ (convRefuses_fn (x.1.map ofE) (lenE _hwf.1.1))
set_option maxRecDepth 100000 in
theorem convRefuses_lifted (os : Os) (started : os.Started) (H : Type) (enc : TypeId × Value → H) :
    ReturnsInHanded {} Try.checked os 19 .any (Rows.convRefusesSpec.pre6 enc Try.prog Try.f19 Rows.convRefusesRow.domain false) (Rows.convRefusesSpec.post enc Try.prog Try.f19 false true false false) := by
  refine returnsInHanded_of_change (C := Try.checked) Try.own started (by kernel_rfl) Try.func19
    (ChangeSpec.witness6 (enc := enc) (C := Try.checked) false ⟨#[], #[.slice none 0 0], []⟩ 8 (by kernel_rfl) (by kernel_rfl) (by kernel_rfl) (by kernel_rfl)) ?_
  intro W base args ds gs before hval0 hW hcnd _
  have hval : ∀ (j : Nat) t v, Try.f19.params[j]? = some t → args[j]? = some v → Value.okWide Try.prog W .any base t v := hval0
  have hW' := hW
  obtain ⟨p, q, hA0, hV, rfl, hfz, hnd⟩ := hW
  obtain ⟨rfl, rfl⟩ := trodVars_none hV
  obtain ⟨vs, rfl⟩ : ∃ vs : List Value, args = vs.toArray := ⟨args.toList, by simp⟩
  obtain ⟨x, hwf, hdl, hlen, hreps⟩ := open_all (P := Try.prog) (l := [.ksl shE]) (ts := Try.f19.params.toList) (base := base) (shAll_ok (by kernel_rfl)) (fun j t v h1 h2 => hval j t v (by simpa using h1) (by simpa using h2)) hA0
  refine ((convRefuses_ctr x hwf).2 W vs hlen hreps).mono ?_
  rintro e W' ⟨v, β, rfl, hb, _, hr⟩
  obtain rfl := hr.b_inv
  exact ⟨_, rfl, post_true Try.laidOut (by kernel_rfl) hW' rfl (by match ds, hdl with | [_], _ => rfl) rfl Try.underlying4 hb⟩

theorem convRefuses_a1 : (Rows.convRefusesRow.wf (OpenSpec.ofChange Rows.convRefusesSpec) && Try.f19.params.all (Try.checked.prog.readableRec ·) && namedTie Try.checked.prog Rows.convRefusesRow.named Rows.convRefusesSpec.vars && (Rows.convRefusesRow.stops == []) && (Rows.convRefusesRow.knobs == []) && Rows.convRefusesSpec.vars.all (Try.checked.prog.varReadable ·) && Try.f19.resultTypes.all (fun t => Try.checked.prog.readableRec t && decide (t < Try.checked.prog.types.size)) && Rows.convRefusesRow.shortTexts.isNone && (Rows.convRefusesRow.kinds == (if Rows.convRefusesRow.domain.isEmpty then [] else Try.f19.params.toList.map fun t => match Try.checked.prog.underlying t with | some (.int k) => some k | _ => none)) && (Rows.convRefusesRow.pinned == Rows.convRefusesRow.pinnedBy)) = true := by kernel_rfl
theorem convRefuses_a2 : (Rows.convRefusesRow.inPlace == Try.checked.prog.inPlace 19) = true := by kernel_rfl
theorem convRefuses_a3 : (Rows.convRefusesRow.unfollowed == Try.checked.prog.unfollowed 19) = true := by kernel_rfl
theorem convRefuses_a4 : (Rows.convRefusesRow.recurses == Try.checked.prog.recurses 19) = true := by kernel_rfl
theorem convRefuses_a5 : (Rows.convRefusesRow.named == Try.checked.prog.varsNamed 19) = true := by kernel_rfl
theorem convRefuses_a6 : ((Rows.convRefusesRow.maps == (Try.f19.params.toList ++ Rows.convRefusesSpec.plain.varTypes Try.checked.prog).any (Try.checked.prog.mapsRec ·)) && (Rows.convRefusesRow.ifaces == (Try.f19.params.toList ++ Rows.convRefusesSpec.plain.varTypes Try.checked.prog).any (Try.checked.prog.ifacesRec ·)) && (Rows.convRefusesRow.mapsOut == Try.checked.prog.mapsAmong Try.f19.resultTypes.toList) && (Rows.convRefusesRow.loops == (Try.f19.params.toList ++ Rows.convRefusesSpec.plain.varTypes Try.checked.prog).any (Try.checked.prog.loopsFrom ·)) && (Rows.convRefusesRow.wideKeys == (Try.f19.params.toList ++ Rows.convRefusesSpec.plain.varTypes Try.checked.prog ++ Try.f19.resultTypes.toList).any (Try.checked.prog.wideKeysFrom ·)) && (Rows.convRefusesRow.ifacesOut == Try.f19.resultTypes.toList.any (Try.checked.prog.ifacesRec ·)) && (Rows.convRefusesRow.loopsOut == Try.f19.resultTypes.toList.any (Try.checked.prog.loopsFrom ·))) = true := by kernel_rfl
theorem convRefuses_a7 : (Rows.convRefusesRow.plainKeys == Try.checked.prog.plainKeys) = true := by kernel_rfl
theorem convRefuses_a8 : (Rows.convRefusesRow.lifted == Try.checked.prog.liftsFinal) = true := by kernel_rfl
theorem convRefuses_a9 : (Try.checked.prog.make == some Rows.convRefusesRow.make) = true := by kernel_rfl
theorem convRefuses_a10 : (Rows.convRefusesRow.veiled == (Try.f19.params.toList ++ Rows.convRefusesSpec.plain.varTypes Try.checked.prog ++ Try.f19.resultTypes.toList).any (Try.checked.prog.veiledRec ·)) = true := by kernel_rfl
theorem convRefuses_a11 : Rows.convRefusesRow.veiledFits Try.checked.prog Try.f19.params.toList (Try.f19.params.toList ++ Rows.convRefusesSpec.plain.varTypes Try.checked.prog ++ Try.f19.resultTypes.toList) = true := by kernel_rfl
set_option maxRecDepth 100000 in
theorem convRefuses_joined : joinedFacts Try.checked.prog 19 Try.f19 Rows.convRefusesSpec Rows.convRefusesRow = true :=
  joined_of (P := Try.checked.prog) (f := 19) (fn := Try.f19) (s := Rows.convRefusesSpec) (c := Rows.convRefusesRow) jf1 jf2 jf3 jf4 jf5 jf6 convRefuses_a1 convRefuses_a2 convRefuses_a3 convRefuses_a4 convRefuses_a5 convRefuses_a6 convRefuses_a7 convRefuses_a8 convRefuses_a9 convRefuses_a10 convRefuses_a11
set_option maxRecDepth 100000 in
theorem convRefuses_holds : Rows.ConvRefusesSaid :=
  OpenClaim.holds_of_wide 19 Try.f19 rfl rfl rfl rfl rfl rfl rfl ⟨rfl, rfl, rfl, rfl, rfl⟩ rfl rfl rfl rfl rfl (by kernel_rfl) Try.func19 convRefuses_joined
    (of_decide_eq_true (by kernel_rfl)) (by unfold Func.isWrapper; rw [if_neg (by decide +kernel)]; exact ⟨rfl, rfl⟩)
    (fun os started H enc _ => convRefuses_lifted os started H enc)
end Go.Proofs.Ytnookbebiacaeaa
