/-
  ConvPast returns true whatever the input, and the input reads behind the call as it read before.
-/
import Derived.Test.YtnookbebiacaeaaRows
import Derived.Test.YtnookbebiacaeaaChecked
import Derived.Test.YtnookbebiacaeaaMg18
namespace Go.Proofs.Ytnookbebiacaeaa
open Go.Eng Go.ChangeShapes Go.WideShapes Go.ChangeAt Go.RowKit

theorem convPast_ctr (x : Sh.Vals [.ksl shE]) (_hwf : Sh.wfs [.ksl shE] x) : Ctr Try.prog 17 (Sh.tops [.ksl shE] x) [] (.b true) :=
  Ctr.of_eq (args := [.rs 12 (x.1.map ofE).length (rE (x.1.map ofE))]) ⟨(rsE x.1).1, (rsE x.1).2⟩ (convPast_fn (x.1.map ofE) (lenE _hwf.1.1))
set_option maxRecDepth 100000 in
theorem convPast_lifted (os : Os) (started : os.Started) (H : Type) (enc : TypeId × Value → H) :
    ReturnsInHanded {} Try.checked os 17 .any (Rows.convPastSpec.pre6 enc Try.prog Try.f17 Rows.convPastRow.domain false) (Rows.convPastSpec.post enc Try.prog Try.f17 false true false false) := by
  refine returnsInHanded_of_change (C := Try.checked) Try.own started (by kernel_rfl) Try.func17
    (ChangeSpec.witness6 (enc := enc) (C := Try.checked) false ⟨#[], #[.slice none 0 0], []⟩ 8 (by kernel_rfl) (by kernel_rfl) (by kernel_rfl) (by kernel_rfl)) ?_
  intro W base args ds gs before hval0 hW hcnd _
  have hval : ∀ (j : Nat) t v, Try.f17.params[j]? = some t → args[j]? = some v → Value.okWide Try.prog W .any base t v := hval0
  have hW' := hW
  obtain ⟨p, q, hA0, hV, rfl, hfz, hnd⟩ := hW
  obtain ⟨rfl, rfl⟩ := trodVars_none hV
  obtain ⟨vs, rfl⟩ : ∃ vs : List Value, args = vs.toArray := ⟨args.toList, by simp⟩
  obtain ⟨x, hwf, hdl, hlen, hreps⟩ := open_all (P := Try.prog) (l := [.ksl shE]) (ts := Try.f17.params.toList) (base := base) (shAll_ok (by kernel_rfl)) (fun j t v h1 h2 => hval j t v (by simpa using h1) (by simpa using h2)) hA0
  refine ((convPast_ctr x hwf).2 W vs hlen hreps).mono ?_
  rintro e W' ⟨v, β, rfl, hb, _, hr⟩
  obtain rfl := hr.b_inv
  exact ⟨_, rfl, post_true Try.laidOut (by kernel_rfl) hW' rfl (by match ds, hdl with | [_], _ => rfl) rfl Try.underlying4 hb⟩

theorem convPast_a1 : (Rows.convPastRow.wf (OpenSpec.ofChange Rows.convPastSpec) && Try.f17.params.all (Try.checked.prog.readableRec ·) && namedTie Try.checked.prog Rows.convPastRow.named Rows.convPastSpec.vars && (Rows.convPastRow.stops == []) && (Rows.convPastRow.knobs == []) && Rows.convPastSpec.vars.all (Try.checked.prog.varReadable ·) && Try.f17.resultTypes.all (fun t => Try.checked.prog.readableRec t && decide (t < Try.checked.prog.types.size)) && Rows.convPastRow.shortTexts.isNone && (Rows.convPastRow.kinds == (if Rows.convPastRow.domain.isEmpty then [] else Try.f17.params.toList.map fun t => match Try.checked.prog.underlying t with | some (.int k) => some k | _ => none)) && (Rows.convPastRow.pinned == Rows.convPastRow.pinnedBy)) = true := by kernel_rfl
theorem convPast_a2 : (Rows.convPastRow.inPlace == Try.checked.prog.inPlace 17) = true := by kernel_rfl
theorem convPast_a3 : (Rows.convPastRow.unfollowed == Try.checked.prog.unfollowed 17) = true := by kernel_rfl
theorem convPast_a4 : (Rows.convPastRow.recurses == Try.checked.prog.recurses 17) = true := by kernel_rfl
theorem convPast_a5 : (Rows.convPastRow.named == Try.checked.prog.varsNamed 17) = true := by kernel_rfl
theorem convPast_a6 : ((Rows.convPastRow.maps == (Try.f17.params.toList ++ Rows.convPastSpec.plain.varTypes Try.checked.prog).any (Try.checked.prog.mapsRec ·)) && (Rows.convPastRow.ifaces == (Try.f17.params.toList ++ Rows.convPastSpec.plain.varTypes Try.checked.prog).any (Try.checked.prog.ifacesRec ·)) && (Rows.convPastRow.mapsOut == Try.checked.prog.mapsAmong Try.f17.resultTypes.toList) && (Rows.convPastRow.loops == (Try.f17.params.toList ++ Rows.convPastSpec.plain.varTypes Try.checked.prog).any (Try.checked.prog.loopsFrom ·)) && (Rows.convPastRow.wideKeys == (Try.f17.params.toList ++ Rows.convPastSpec.plain.varTypes Try.checked.prog ++ Try.f17.resultTypes.toList).any (Try.checked.prog.wideKeysFrom ·)) && (Rows.convPastRow.ifacesOut == Try.f17.resultTypes.toList.any (Try.checked.prog.ifacesRec ·)) && (Rows.convPastRow.loopsOut == Try.f17.resultTypes.toList.any (Try.checked.prog.loopsFrom ·))) = true := by kernel_rfl
theorem convPast_a7 : (Rows.convPastRow.plainKeys == Try.checked.prog.plainKeys) = true := by kernel_rfl
theorem convPast_a8 : (Rows.convPastRow.lifted == Try.checked.prog.liftsFinal) = true := by kernel_rfl
theorem convPast_a9 : (Try.checked.prog.make == some Rows.convPastRow.make) = true := by kernel_rfl
theorem convPast_a10 : (Rows.convPastRow.veiled == (Try.f17.params.toList ++ Rows.convPastSpec.plain.varTypes Try.checked.prog ++ Try.f17.resultTypes.toList).any (Try.checked.prog.veiledRec ·)) = true := by kernel_rfl
theorem convPast_a11 : Rows.convPastRow.veiledFits Try.checked.prog Try.f17.params.toList (Try.f17.params.toList ++ Rows.convPastSpec.plain.varTypes Try.checked.prog ++ Try.f17.resultTypes.toList) = true := by kernel_rfl
set_option maxRecDepth 100000 in
theorem convPast_joined : joinedFacts Try.checked.prog 17 Try.f17 Rows.convPastSpec Rows.convPastRow = true :=
  joined_of (P := Try.checked.prog) (f := 17) (fn := Try.f17) (s := Rows.convPastSpec) (c := Rows.convPastRow) jf1 jf2 jf3 jf4 jf5 jf6 convPast_a1 convPast_a2 convPast_a3 convPast_a4 convPast_a5 convPast_a6 convPast_a7 convPast_a8 convPast_a9 convPast_a10 convPast_a11
set_option maxRecDepth 100000 in
theorem convPast_holds : Rows.ConvPastSaid :=
  OpenClaim.holds_of_wide 17 Try.f17 rfl rfl rfl rfl rfl rfl rfl ⟨rfl, rfl, rfl, rfl, rfl⟩ rfl rfl rfl rfl rfl (by kernel_rfl) Try.func17 convPast_joined
    (of_decide_eq_true (by kernel_rfl)) (by unfold Func.isWrapper; rw [if_neg (by decide +kernel)]; exact ⟨rfl, rfl⟩)
    (fun os started H enc _ => convPast_lifted os started H enc)
end Go.Proofs.Ytnookbebiacaeaa
