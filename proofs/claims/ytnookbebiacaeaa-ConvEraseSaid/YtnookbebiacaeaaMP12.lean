/-
  ConvErase returns true whatever the input, and the input reads behind the call as it read before.
-/
import Derived.Test.YtnookbebiacaeaaRows
import Derived.Test.YtnookbebiacaeaaChecked
import Derived.Test.YtnookbebiacaeaaMg18
namespace Go.Proofs.Ytnookbebiacaeaa
open Go.Eng Go.ChangeShapes Go.WideShapes Go.ChangeAt Go.RowKit

theorem convErase_ctr (x : Sh.Vals [.ksl shE, shI, shI]) (_hwf : Sh.wfs [.ksl shE, shI, shI] x) : Ctr Try.prog 16 (Sh.tops [.ksl shE, shI, shI] x) [] (.b true) :=
  Ctr.of_eq (args := [.rs 12 (x.1.map ofE).length (rE (x.1.map ofE)), .i .i64 x.2.1, .i .i64 x.2.2.1]) ⟨rsE _, AVEq.refl _, AVEq.refl _⟩ (convErase_fn (x.1.map ofE) (lenE _hwf.1.1) x.2.1 x.2.2.1)
set_option maxRecDepth 100000 in
theorem convErase_lifted (os : Os) (started : os.Started) (H : Type) (enc : TypeId × Value → H) :
    ReturnsInHanded {} Try.checked os 16 .any (Rows.convEraseSpec.pre6 enc Try.prog Try.f16 Rows.convEraseRow.domain false) (Rows.convEraseSpec.post enc Try.prog Try.f16 false true false false) := by
  refine returnsInHanded_of_change (C := Try.checked) Try.own started (by kernel_rfl) Try.func16
    (ChangeSpec.witness6 (enc := enc) (C := Try.checked) false ⟨#[], #[.slice none 0 0, .int .i64 0, .int .i64 0], []⟩ 8 (by kernel_rfl) (by kernel_rfl) (by kernel_rfl) (by kernel_rfl)) ?_
  intro W base args ds gs before hval0 hW hcnd _
  have hval : ∀ (j : Nat) t v, Try.f16.params[j]? = some t → args[j]? = some v → Value.okWide Try.prog W .any base t v := hval0
  have hW' := hW
  obtain ⟨p, q, hA0, hV, rfl, hfz, hnd⟩ := hW
  obtain ⟨rfl, rfl⟩ := trodVars_none hV
  obtain ⟨vs, rfl⟩ : ∃ vs : List Value, args = vs.toArray := ⟨args.toList, by simp⟩
  obtain ⟨x, hwf, hdl, hlen, hreps⟩ := open_all (P := Try.prog) (l := [.ksl shE, shI, shI]) (ts := Try.f16.params.toList) (base := base) (shAll_ok (by kernel_rfl)) (fun j t v h1 h2 => hval j t v (by simpa using h1) (by simpa using h2)) hA0
  refine ((convErase_ctr x hwf).2 W vs hlen hreps).mono ?_
  rintro e W' ⟨v, β, rfl, hb, _, hr⟩
  obtain rfl := hr.b_inv
  exact ⟨_, rfl, post_true Try.laidOut (by kernel_rfl) hW' rfl (by match ds, hdl with | [_, _, _], _ => rfl) rfl Try.underlying4 hb⟩

theorem convErase_a1 : (Rows.convEraseRow.wf (OpenSpec.ofChange Rows.convEraseSpec) && Try.f16.params.all (Try.checked.prog.readableRec ·) && namedTie Try.checked.prog Rows.convEraseRow.named Rows.convEraseSpec.vars && (Rows.convEraseRow.stops == []) && (Rows.convEraseRow.knobs == []) && Rows.convEraseSpec.vars.all (Try.checked.prog.varReadable ·) && Try.f16.resultTypes.all (fun t => Try.checked.prog.readableRec t && decide (t < Try.checked.prog.types.size)) && Rows.convEraseRow.shortTexts.isNone && (Rows.convEraseRow.kinds == (if Rows.convEraseRow.domain.isEmpty then [] else Try.f16.params.toList.map fun t => match Try.checked.prog.underlying t with | some (.int k) => some k | _ => none)) && (Rows.convEraseRow.pinned == Rows.convEraseRow.pinnedBy)) = true := by kernel_rfl
theorem convErase_a2 : (Rows.convEraseRow.inPlace == Try.checked.prog.inPlace 16) = true := by kernel_rfl
theorem convErase_a3 : (Rows.convEraseRow.unfollowed == Try.checked.prog.unfollowed 16) = true := by kernel_rfl
theorem convErase_a4 : (Rows.convEraseRow.recurses == Try.checked.prog.recurses 16) = true := by kernel_rfl
theorem convErase_a5 : (Rows.convEraseRow.named == Try.checked.prog.varsNamed 16) = true := by kernel_rfl
theorem convErase_a6 : ((Rows.convEraseRow.maps == (Try.f16.params.toList ++ Rows.convEraseSpec.plain.varTypes Try.checked.prog).any (Try.checked.prog.mapsRec ·)) && (Rows.convEraseRow.ifaces == (Try.f16.params.toList ++ Rows.convEraseSpec.plain.varTypes Try.checked.prog).any (Try.checked.prog.ifacesRec ·)) && (Rows.convEraseRow.mapsOut == Try.checked.prog.mapsAmong Try.f16.resultTypes.toList) && (Rows.convEraseRow.loops == (Try.f16.params.toList ++ Rows.convEraseSpec.plain.varTypes Try.checked.prog).any (Try.checked.prog.loopsFrom ·)) && (Rows.convEraseRow.wideKeys == (Try.f16.params.toList ++ Rows.convEraseSpec.plain.varTypes Try.checked.prog ++ Try.f16.resultTypes.toList).any (Try.checked.prog.wideKeysFrom ·)) && (Rows.convEraseRow.ifacesOut == Try.f16.resultTypes.toList.any (Try.checked.prog.ifacesRec ·)) && (Rows.convEraseRow.loopsOut == Try.f16.resultTypes.toList.any (Try.checked.prog.loopsFrom ·))) = true := by kernel_rfl
theorem convErase_a7 : (Rows.convEraseRow.plainKeys == Try.checked.prog.plainKeys) = true := by kernel_rfl
theorem convErase_a8 : (Rows.convEraseRow.lifted == Try.checked.prog.liftsFinal) = true := by kernel_rfl
theorem convErase_a9 : (Try.checked.prog.make == some Rows.convEraseRow.make) = true := by kernel_rfl
theorem convErase_a10 : (Rows.convEraseRow.veiled == (Try.f16.params.toList ++ Rows.convEraseSpec.plain.varTypes Try.checked.prog ++ Try.f16.resultTypes.toList).any (Try.checked.prog.veiledRec ·)) = true := by kernel_rfl
theorem convErase_a11 : Rows.convEraseRow.veiledFits Try.checked.prog Try.f16.params.toList (Try.f16.params.toList ++ Rows.convEraseSpec.plain.varTypes Try.checked.prog ++ Try.f16.resultTypes.toList) = true := by kernel_rfl
set_option maxRecDepth 100000 in
theorem convErase_joined : joinedFacts Try.checked.prog 16 Try.f16 Rows.convEraseSpec Rows.convEraseRow = true :=
  joined_of (P := Try.checked.prog) (f := 16) (fn := Try.f16) (s := Rows.convEraseSpec) (c := Rows.convEraseRow) jf1 jf2 jf3 jf4 jf5 jf6 convErase_a1 convErase_a2 convErase_a3 convErase_a4 convErase_a5 convErase_a6 convErase_a7 convErase_a8 convErase_a9 convErase_a10 convErase_a11
set_option maxRecDepth 100000 in
theorem convErase_holds : Rows.ConvEraseSaid :=
  OpenClaim.holds_of_wide 16 Try.f16 rfl rfl rfl rfl rfl rfl rfl ⟨rfl, rfl, rfl, rfl, rfl⟩ rfl rfl rfl rfl rfl (by kernel_rfl) Try.func16 convErase_joined
    (of_decide_eq_true (by kernel_rfl)) (by unfold Func.isWrapper; rw [if_neg (by decide +kernel)]; exact ⟨rfl, rfl⟩)
    (fun os started H enc _ => convErase_lifted os started H enc)
end Go.Proofs.Ytnookbebiacaeaa
