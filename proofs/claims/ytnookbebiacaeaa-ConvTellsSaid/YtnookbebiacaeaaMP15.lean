/-
  ConvTells returns true whatever the input, and the input reads behind the call as it read before.
-/
import Derived.Test.YtnookbebiacaeaaRows
import Derived.Test.YtnookbebiacaeaaChecked
import Derived.Test.YtnookbebiacaeaaMg19
namespace Go.Proofs.Ytnookbebiacaeaa
open Go.Eng Go.ChangeShapes Go.WideShapes Go.ChangeAt Go.RowKit

theorem convTells_ctr (x : Sh.Vals [.ksl shE, shI, shI, shI, .ksl shE]) (_hwf : Sh.wfs [.ksl shE, shI, shI, shI, .ksl shE] x) : Ctr Try.prog 20 (Sh.tops [.ksl shE, shI, shI, shI, .ksl shE] x) [] (.b true) :=
  Ctr.of_eq (args := [.rs 12 (x.1.map ofE).length (rE (x.1.map ofE)), .i .i64 x.2.1, .i .i64 x.2.2.1, .i .i64 x.2.2.2.1, .rs 12 (x.2.2.2.2.1.map ofE).length (rE (x.2.2.2.2.1.map ofE))]) ⟨rsE _, AVEq.refl _, AVEq.refl _, AVEq.refl _, (rsE x.2.2.2.2.1).1, (rsE x.2.2.2.2.1).2⟩ (convTells_fn (x.1.map ofE) (lenE _hwf.1.1) x.2.1 x.2.2.1 x.2.2.2.1 (x.2.2.2.2.1.map ofE) (lenE _hwf.2.2.2.2.1.1))
set_option maxRecDepth 100000 in
theorem convTells_lifted (os : Os) (started : os.Started) (H : Type) (enc : TypeId × Value → H) :
    ReturnsInHanded {} Try.checked os 20 .any (Rows.convTellsSpec.pre6 enc Try.prog Try.f20 Rows.convTellsRow.domain false) (Rows.convTellsSpec.post enc Try.prog Try.f20 false true false false) := by
  refine returnsInHanded_of_change (C := Try.checked) Try.own started (by kernel_rfl) Try.func20
    (ChangeSpec.witness6 (enc := enc) (C := Try.checked) false ⟨#[], #[.slice none 0 0, .int .i64 0, .int .i64 0, .int .i64 0, .slice none 0 0], []⟩ 8 (by kernel_rfl) (by kernel_rfl) (by kernel_rfl) (by kernel_rfl)) ?_
  intro W base args ds gs before hval0 hW hcnd _
  have hval : ∀ (j : Nat) t v, Try.f20.params[j]? = some t → args[j]? = some v → Value.okWide Try.prog W .any base t v := hval0
  have hW' := hW
  obtain ⟨p, q, hA0, hV, rfl, hfz, hnd⟩ := hW
  obtain ⟨rfl, rfl⟩ := trodVars_none hV
  obtain ⟨vs, rfl⟩ : ∃ vs : List Value, args = vs.toArray := ⟨args.toList, by simp⟩
  obtain ⟨x, hwf, hdl, hlen, hreps⟩ := open_all (P := Try.prog) (l := [.ksl shE, shI, shI, shI, .ksl shE]) (ts := Try.f20.params.toList) (base := base) (shAll_ok (by kernel_rfl)) (fun j t v h1 h2 => hval j t v (by simpa using h1) (by simpa using h2)) hA0
  refine ((convTells_ctr x hwf).2 W vs hlen hreps).mono ?_
  rintro e W' ⟨v, β, rfl, hb, _, hr⟩
  obtain rfl := hr.b_inv
  exact ⟨_, rfl, post_true Try.laidOut (by kernel_rfl) hW' rfl (by match ds, hdl with | [_, _, _, _, _], _ => rfl) rfl Try.underlying4 hb⟩

theorem convTells_a1 : (Rows.convTellsRow.wf (OpenSpec.ofChange Rows.convTellsSpec) && Try.f20.params.all (Try.checked.prog.readableRec ·) && namedTie Try.checked.prog Rows.convTellsRow.named Rows.convTellsSpec.vars && (Rows.convTellsRow.stops == []) && (Rows.convTellsRow.knobs == []) && Rows.convTellsSpec.vars.all (Try.checked.prog.varReadable ·) && Try.f20.resultTypes.all (fun t => Try.checked.prog.readableRec t && decide (t < Try.checked.prog.types.size)) && Rows.convTellsRow.shortTexts.isNone && (Rows.convTellsRow.kinds == (if Rows.convTellsRow.domain.isEmpty then [] else Try.f20.params.toList.map fun t => match Try.checked.prog.underlying t with | some (.int k) => some k | _ => none)) && (Rows.convTellsRow.pinned == Rows.convTellsRow.pinnedBy)) = true := by kernel_rfl
theorem convTells_a2 : (Rows.convTellsRow.inPlace == Try.checked.prog.inPlace 20) = true := by kernel_rfl
theorem convTells_a3 : (Rows.convTellsRow.unfollowed == Try.checked.prog.unfollowed 20) = true := by kernel_rfl
theorem convTells_a4 : (Rows.convTellsRow.recurses == Try.checked.prog.recurses 20) = true := by kernel_rfl
theorem convTells_a5 : (Rows.convTellsRow.named == Try.checked.prog.varsNamed 20) = true := by kernel_rfl
theorem convTells_a6 : ((Rows.convTellsRow.maps == (Try.f20.params.toList ++ Rows.convTellsSpec.plain.varTypes Try.checked.prog).any (Try.checked.prog.mapsRec ·)) && (Rows.convTellsRow.ifaces == (Try.f20.params.toList ++ Rows.convTellsSpec.plain.varTypes Try.checked.prog).any (Try.checked.prog.ifacesRec ·)) && (Rows.convTellsRow.mapsOut == Try.checked.prog.mapsAmong Try.f20.resultTypes.toList) && (Rows.convTellsRow.loops == (Try.f20.params.toList ++ Rows.convTellsSpec.plain.varTypes Try.checked.prog).any (Try.checked.prog.loopsFrom ·)) && (Rows.convTellsRow.wideKeys == (Try.f20.params.toList ++ Rows.convTellsSpec.plain.varTypes Try.checked.prog ++ Try.f20.resultTypes.toList).any (Try.checked.prog.wideKeysFrom ·)) && (Rows.convTellsRow.ifacesOut == Try.f20.resultTypes.toList.any (Try.checked.prog.ifacesRec ·)) && (Rows.convTellsRow.loopsOut == Try.f20.resultTypes.toList.any (Try.checked.prog.loopsFrom ·))) = true := by kernel_rfl
theorem convTells_a7 : (Rows.convTellsRow.plainKeys == Try.checked.prog.plainKeys) = true := by kernel_rfl
theorem convTells_a8 : (Rows.convTellsRow.lifted == Try.checked.prog.liftsFinal) = true := by kernel_rfl
theorem convTells_a9 : (Try.checked.prog.make == some Rows.convTellsRow.make) = true := by kernel_rfl
theorem convTells_a10 : (Rows.convTellsRow.veiled == (Try.f20.params.toList ++ Rows.convTellsSpec.plain.varTypes Try.checked.prog ++ Try.f20.resultTypes.toList).any (Try.checked.prog.veiledRec ·)) = true := by kernel_rfl
theorem convTells_a11 : Rows.convTellsRow.veiledFits Try.checked.prog Try.f20.params.toList (Try.f20.params.toList ++ Rows.convTellsSpec.plain.varTypes Try.checked.prog ++ Try.f20.resultTypes.toList) = true := by kernel_rfl
set_option maxRecDepth 100000 in
theorem convTells_joined : joinedFacts Try.checked.prog 20 Try.f20 Rows.convTellsSpec Rows.convTellsRow = true :=
  joined_of (P := Try.checked.prog) (f := 20) (fn := Try.f20) (s := Rows.convTellsSpec) (c := Rows.convTellsRow) jf1 jf2 jf3 jf4 jf5 jf6 convTells_a1 convTells_a2 convTells_a3 convTells_a4 convTells_a5 convTells_a6 convTells_a7 convTells_a8 convTells_a9 convTells_a10 convTells_a11
set_option maxRecDepth 100000 in
theorem convTells_holds : Rows.ConvTellsSaid :=
  OpenClaim.holds_of_wide 20 Try.f20 rfl rfl rfl rfl rfl rfl rfl ⟨rfl, rfl, rfl, rfl, rfl⟩ rfl rfl rfl rfl rfl (by kernel_rfl) Try.func20 convTells_joined
    (of_decide_eq_true (by kernel_rfl)) (by unfold Func.isWrapper; rw [if_neg (by decide +kernel)]; exact ⟨rfl, rfl⟩)
    (fun os started H enc _ => convTells_lifted os started H enc)
end Go.Proofs.Ytnookbebiacaeaa
