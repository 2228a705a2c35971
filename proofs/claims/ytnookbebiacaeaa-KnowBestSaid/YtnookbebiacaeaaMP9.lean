/-
  KnowBest returns true whatever the input, and the input reads behind the call as it read before.
-/
import Derived.Test.YtnookbebiacaeaaRows
import Derived.Test.YtnookbebiacaeaaChecked
import Derived.Test.YtnookbebiacaeaaMg18
namespace Go.Proofs.Ytnookbebiacaeaa
open Go.Eng Go.ChangeShapes Go.WideShapes Go.ChangeAt Go.RowKit

theorem knowBest_ctr (x : Sh.Vals [shF 8, .ksl shN, shB]) (_hwf : Sh.wfs [shF 8, .ksl shN, shB] x) : Ctr Try.prog 11 (Sh.tops [shF 8, .ksl shN, shB] x) [] (.b true) :=
  Ctr.of_w (args := [.ag (avD 7 (ofF 8 x.1)), .rs 5 (x.2.1.map ofN).length (rowsN (x.2.1.map ofN)), .b x.2.2.1]) ⟨form_w 7 _, AVW.of_eq (rsN _), AVW.refl _, trivial⟩ (knowBest_fn (ofF 8 x.1) (x.2.1.map ofN) x.2.2.1)
set_option maxRecDepth 100000 in
theorem knowBest_lifted (os : Os) (started : os.Started) (H : Type) (enc : TypeId × Value → H) :
    ReturnsInHanded {} Try.checked os 11 .any (Rows.knowBestSpec.pre6 enc Try.prog Try.f11 Rows.knowBestRow.domain false) (Rows.knowBestSpec.post enc Try.prog Try.f11 false true false false) := by
  refine returnsInHanded_of_change (C := Try.checked) Try.own started (by kernel_rfl) Try.func11
    (ChangeSpec.witness6 (enc := enc) (C := Try.checked) false ⟨#[], #[.agg #[.int .i64 0, .int .i64 0, .int .i64 0, .int .i64 0, .slice none 0 0], .slice none 0 0, .bool false], []⟩ 8 (by kernel_rfl) (by kernel_rfl) (by kernel_rfl) (by kernel_rfl)) ?_
  intro W base args ds gs before hval0 hW hcnd _
  have hval : ∀ (j : Nat) t v, Try.f11.params[j]? = some t → args[j]? = some v → Value.okWide Try.prog W .any base t v := hval0
  have hW' := hW
  obtain ⟨p, q, hA0, hV, rfl, hfz, hnd⟩ := hW
  obtain ⟨rfl, rfl⟩ := trodVars_none hV
  obtain ⟨vs, rfl⟩ : ∃ vs : List Value, args = vs.toArray := ⟨args.toList, by simp⟩
  obtain ⟨x, hwf, hdl, hlen, hreps⟩ := open_all (P := Try.prog) (l := [shF 8, .ksl shN, shB]) (ts := Try.f11.params.toList) (base := base) (shAll_ok (by kernel_rfl)) (fun j t v h1 h2 => hval j t v (by simpa using h1) (by simpa using h2)) hA0
  refine ((knowBest_ctr x hwf).2 W vs hlen hreps).mono ?_
  rintro e W' ⟨v, β, rfl, hb, _, hr⟩
  obtain rfl := hr.b_inv
  exact ⟨_, rfl, post_true Try.laidOut (by kernel_rfl) hW' rfl (by match ds, hdl with | [_, _, _], _ => rfl) rfl Try.underlying4 hb⟩

theorem knowBest_a1 : (Rows.knowBestRow.wf (OpenSpec.ofChange Rows.knowBestSpec) && Try.f11.params.all (Try.checked.prog.readableRec ·) && namedTie Try.checked.prog Rows.knowBestRow.named Rows.knowBestSpec.vars && (Rows.knowBestRow.stops == []) && (Rows.knowBestRow.knobs == []) && Rows.knowBestSpec.vars.all (Try.checked.prog.varReadable ·) && Try.f11.resultTypes.all (fun t => Try.checked.prog.readableRec t && decide (t < Try.checked.prog.types.size)) && Rows.knowBestRow.shortTexts.isNone && (Rows.knowBestRow.kinds == (if Rows.knowBestRow.domain.isEmpty then [] else Try.f11.params.toList.map fun t => match Try.checked.prog.underlying t with | some (.int k) => some k | _ => none)) && (Rows.knowBestRow.pinned == Rows.knowBestRow.pinnedBy)) = true := by kernel_rfl
theorem knowBest_a2 : (Rows.knowBestRow.inPlace == Try.checked.prog.inPlace 11) = true := by kernel_rfl
theorem knowBest_a3 : (Rows.knowBestRow.unfollowed == Try.checked.prog.unfollowed 11) = true := by kernel_rfl
theorem knowBest_a4 : (Rows.knowBestRow.recurses == Try.checked.prog.recurses 11) = true := by kernel_rfl
theorem knowBest_a5 : (Rows.knowBestRow.named == Try.checked.prog.varsNamed 11) = true := by kernel_rfl
theorem knowBest_a6 : ((Rows.knowBestRow.maps == (Try.f11.params.toList ++ Rows.knowBestSpec.plain.varTypes Try.checked.prog).any (Try.checked.prog.mapsRec ·)) && (Rows.knowBestRow.ifaces == (Try.f11.params.toList ++ Rows.knowBestSpec.plain.varTypes Try.checked.prog).any (Try.checked.prog.ifacesRec ·)) && (Rows.knowBestRow.mapsOut == Try.checked.prog.mapsAmong Try.f11.resultTypes.toList) && (Rows.knowBestRow.loops == (Try.f11.params.toList ++ Rows.knowBestSpec.plain.varTypes Try.checked.prog).any (Try.checked.prog.loopsFrom ·)) && (Rows.knowBestRow.wideKeys == (Try.f11.params.toList ++ Rows.knowBestSpec.plain.varTypes Try.checked.prog ++ Try.f11.resultTypes.toList).any (Try.checked.prog.wideKeysFrom ·)) && (Rows.knowBestRow.ifacesOut == Try.f11.resultTypes.toList.any (Try.checked.prog.ifacesRec ·)) && (Rows.knowBestRow.loopsOut == Try.f11.resultTypes.toList.any (Try.checked.prog.loopsFrom ·))) = true := by kernel_rfl
theorem knowBest_a7 : (Rows.knowBestRow.plainKeys == Try.checked.prog.plainKeys) = true := by kernel_rfl
theorem knowBest_a8 : (Rows.knowBestRow.lifted == Try.checked.prog.liftsFinal) = true := by kernel_rfl
theorem knowBest_a9 : (Try.checked.prog.make == some Rows.knowBestRow.make) = true := by kernel_rfl
theorem knowBest_a10 : (Rows.knowBestRow.veiled == (Try.f11.params.toList ++ Rows.knowBestSpec.plain.varTypes Try.checked.prog ++ Try.f11.resultTypes.toList).any (Try.checked.prog.veiledRec ·)) = true := by kernel_rfl
theorem knowBest_a11 : Rows.knowBestRow.veiledFits Try.checked.prog Try.f11.params.toList (Try.f11.params.toList ++ Rows.knowBestSpec.plain.varTypes Try.checked.prog ++ Try.f11.resultTypes.toList) = true := by kernel_rfl
set_option maxRecDepth 100000 in
theorem knowBest_joined : joinedFacts Try.checked.prog 11 Try.f11 Rows.knowBestSpec Rows.knowBestRow = true :=
  joined_of (P := Try.checked.prog) (f := 11) (fn := Try.f11) (s := Rows.knowBestSpec) (c := Rows.knowBestRow) jf1 jf2 jf3 jf4 jf5 jf6 knowBest_a1 knowBest_a2 knowBest_a3 knowBest_a4 knowBest_a5 knowBest_a6 knowBest_a7 knowBest_a8 knowBest_a9 knowBest_a10 knowBest_a11
set_option maxRecDepth 100000 in
theorem knowBest_holds : Rows.KnowBestSaid :=
  OpenClaim.holds_of_wide 11 Try.f11 rfl rfl rfl rfl rfl rfl rfl ⟨rfl, rfl, rfl, rfl, rfl⟩ rfl rfl rfl rfl rfl (by kernel_rfl) Try.func11 knowBest_joined
    (of_decide_eq_true (by kernel_rfl)) (by unfold Func.isWrapper; rw [if_neg (by decide +kernel)]; exact ⟨rfl, rfl⟩)
    (fun os started H enc _ => knowBest_lifted os started H enc)
end Go.Proofs.Ytnookbebiacaeaa
