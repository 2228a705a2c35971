/-
  ReceiptTells returns true whatever the input, and the input reads behind the call as it read before.
-/
import Derived.Test.YtnookbebiacaeaaRows
import Derived.Test.YtnookbebiacaeaaChecked
import Derived.Test.YtnookbebiacaeaaMg17
namespace Go.Proofs.Ytnookbebiacaeaa
open Go.Eng Go.ChangeShapes Go.WideShapes Go.ChangeAt Go.RowKit

theorem receiptTells_ctr (x : Sh.Vals [.ksl shN, .ksl shN, shN, shB, shI, shI, shI, shPr]) (_hwf : Sh.wfs [.ksl shN, .ksl shN, shN, shB, shI, shI, shI, shPr] x) : Ctr Try.prog 3 (Sh.tops [.ksl shN, .ksl shN, shN, shB, shI, shI, shI, shPr] x) [] (.b true) :=
  Ctr.of_eq (args := [.rs 5 (x.1.map ofN).length (rowsN (x.1.map ofN)), .rs 5 (x.2.1.map ofN).length (rowsN (x.2.1.map ofN)), .ag (ofN x.2.2.1).av, .b x.2.2.2.1, .i .i64 x.2.2.2.2.1, .i .i64 x.2.2.2.2.2.1, .i .i64 x.2.2.2.2.2.2.1, .ag (ofPr x.2.2.2.2.2.2.2.1).av]) ⟨rsN _, rsN _, AVEq.refl _, AVEq.refl _, AVEq.refl _, AVEq.refl _, AVEq.refl _, agPr _⟩ (receiptTells_fn (x.1.map ofN) (x.2.1.map ofN) (ofN x.2.2.1) x.2.2.2.1 x.2.2.2.2.1 x.2.2.2.2.2.1 x.2.2.2.2.2.2.1 (ofPr x.2.2.2.2.2.2.2.1))
set_option maxRecDepth 100000 in
theorem receiptTells_lifted (os : Os) (started : os.Started) (H : Type) (enc : TypeId × Value → H) :
    ReturnsInHanded {} Try.checked os 3 .any (Rows.receiptTellsSpec.pre6 enc Try.prog Try.f3 Rows.receiptTellsRow.domain false) (Rows.receiptTellsSpec.post enc Try.prog Try.f3 false true false false) := by
  refine returnsInHanded_of_change (C := Try.checked) Try.own started (by kernel_rfl) Try.func3
    (ChangeSpec.witness6 (enc := enc) (C := Try.checked) false ⟨#[], #[.slice none 0 0, .slice none 0 0, .agg #[.int .i64 0, .int .i64 0, .int .i64 0, .int .i64 0, .bool false], .bool false, .int .i64 0, .int .i64 0, .int .i64 0, .agg #[.string ⟨#[]⟩, .int .i64 0, .int .i64 0, .int .i64 0, .bool false, .int .i64 0, .bool false, .bool false, .int .i64 0, .int .i64 0, .int .i64 0, .int .i64 0, .slice none 0 0, .int .i64 0, .int .i64 0, .int .i64 0, .int .i64 0, .bool false, .int .i64 0, .int .i64 0, .int .i64 0, .int .i64 0]], []⟩ 8 (by kernel_rfl) (by kernel_rfl) (by kernel_rfl) (by kernel_rfl)) ?_
  intro W base args ds gs before hval0 hW hcnd _
  have hval : ∀ (j : Nat) t v, Try.f3.params[j]? = some t → args[j]? = some v → Value.okWide Try.prog W .any base t v := hval0
  have hW' := hW
  obtain ⟨p, q, hA0, hV, rfl, hfz, hnd⟩ := hW
  obtain ⟨rfl, rfl⟩ := trodVars_none hV
  obtain ⟨vs, rfl⟩ : ∃ vs : List Value, args = vs.toArray := ⟨args.toList, by simp⟩
  obtain ⟨x, hwf, hdl, hlen, hreps⟩ := open_all (P := Try.prog) (l := [.ksl shN, .ksl shN, shN, shB, shI, shI, shI, shPr]) (ts := Try.f3.params.toList) (base := base) (shAll_ok (by kernel_rfl)) (fun j t v h1 h2 => hval j t v (by simpa using h1) (by simpa using h2)) hA0
  refine ((receiptTells_ctr x hwf).2 W vs hlen hreps).mono ?_
  rintro e W' ⟨v, β, rfl, hb, _, hr⟩
  obtain rfl := hr.b_inv
  exact ⟨_, rfl, post_true Try.laidOut (by kernel_rfl) hW' rfl (by match ds, hdl with | [_, _, _, _, _, _, _, _], _ => rfl) rfl Try.underlying4 hb⟩

theorem receiptTells_a1 : (Rows.receiptTellsRow.wf (OpenSpec.ofChange Rows.receiptTellsSpec) && Try.f3.params.all (Try.checked.prog.readableRec ·) && namedTie Try.checked.prog Rows.receiptTellsRow.named Rows.receiptTellsSpec.vars && (Rows.receiptTellsRow.stops == []) && (Rows.receiptTellsRow.knobs == []) && Rows.receiptTellsSpec.vars.all (Try.checked.prog.varReadable ·) && Try.f3.resultTypes.all (fun t => Try.checked.prog.readableRec t && decide (t < Try.checked.prog.types.size)) && Rows.receiptTellsRow.shortTexts.isNone && (Rows.receiptTellsRow.kinds == (if Rows.receiptTellsRow.domain.isEmpty then [] else Try.f3.params.toList.map fun t => match Try.checked.prog.underlying t with | some (.int k) => some k | _ => none)) && (Rows.receiptTellsRow.pinned == Rows.receiptTellsRow.pinnedBy)) = true := by kernel_rfl
theorem receiptTells_a2 : (Rows.receiptTellsRow.inPlace == Try.checked.prog.inPlace 3) = true := by kernel_rfl
theorem receiptTells_a3 : (Rows.receiptTellsRow.unfollowed == Try.checked.prog.unfollowed 3) = true := by kernel_rfl
theorem receiptTells_a4 : (Rows.receiptTellsRow.recurses == Try.checked.prog.recurses 3) = true := by kernel_rfl
theorem receiptTells_a5 : (Rows.receiptTellsRow.named == Try.checked.prog.varsNamed 3) = true := by kernel_rfl
theorem receiptTells_a6 : ((Rows.receiptTellsRow.maps == (Try.f3.params.toList ++ Rows.receiptTellsSpec.plain.varTypes Try.checked.prog).any (Try.checked.prog.mapsRec ·)) && (Rows.receiptTellsRow.ifaces == (Try.f3.params.toList ++ Rows.receiptTellsSpec.plain.varTypes Try.checked.prog).any (Try.checked.prog.ifacesRec ·)) && (Rows.receiptTellsRow.mapsOut == Try.checked.prog.mapsAmong Try.f3.resultTypes.toList) && (Rows.receiptTellsRow.loops == (Try.f3.params.toList ++ Rows.receiptTellsSpec.plain.varTypes Try.checked.prog).any (Try.checked.prog.loopsFrom ·)) && (Rows.receiptTellsRow.wideKeys == (Try.f3.params.toList ++ Rows.receiptTellsSpec.plain.varTypes Try.checked.prog ++ Try.f3.resultTypes.toList).any (Try.checked.prog.wideKeysFrom ·)) && (Rows.receiptTellsRow.ifacesOut == Try.f3.resultTypes.toList.any (Try.checked.prog.ifacesRec ·)) && (Rows.receiptTellsRow.loopsOut == Try.f3.resultTypes.toList.any (Try.checked.prog.loopsFrom ·))) = true := by kernel_rfl
theorem receiptTells_a7 : (Rows.receiptTellsRow.plainKeys == Try.checked.prog.plainKeys) = true := by kernel_rfl
theorem receiptTells_a8 : (Rows.receiptTellsRow.lifted == Try.checked.prog.liftsFinal) = true := by kernel_rfl
theorem receiptTells_a9 : (Try.checked.prog.make == some Rows.receiptTellsRow.make) = true := by kernel_rfl
theorem receiptTells_a10 : (Rows.receiptTellsRow.veiled == (Try.f3.params.toList ++ Rows.receiptTellsSpec.plain.varTypes Try.checked.prog ++ Try.f3.resultTypes.toList).any (Try.checked.prog.veiledRec ·)) = true := by kernel_rfl
theorem receiptTells_a11 : Rows.receiptTellsRow.veiledFits Try.checked.prog Try.f3.params.toList (Try.f3.params.toList ++ Rows.receiptTellsSpec.plain.varTypes Try.checked.prog ++ Try.f3.resultTypes.toList) = true := by kernel_rfl
set_option maxRecDepth 100000 in
theorem receiptTells_joined : joinedFacts Try.checked.prog 3 Try.f3 Rows.receiptTellsSpec Rows.receiptTellsRow = true :=
  joined_of (P := Try.checked.prog) (f := 3) (fn := Try.f3) (s := Rows.receiptTellsSpec) (c := Rows.receiptTellsRow) jf1 jf2 jf3 jf4 jf5 jf6 receiptTells_a1 receiptTells_a2 receiptTells_a3 receiptTells_a4 receiptTells_a5 receiptTells_a6 receiptTells_a7 receiptTells_a8 receiptTells_a9 receiptTells_a10 receiptTells_a11
set_option maxRecDepth 100000 in
theorem receiptTells_holds : Rows.ReceiptTellsSaid :=
  OpenClaim.holds_of_wide 3 Try.f3 rfl rfl rfl rfl rfl rfl rfl ⟨rfl, rfl, rfl, rfl, rfl⟩ rfl rfl rfl rfl rfl (by kernel_rfl) Try.func3 receiptTells_joined
    (of_decide_eq_true (by kernel_rfl)) (by unfold Func.isWrapper; rw [if_neg (by decide +kernel)]; exact ⟨rfl, rfl⟩)
    (fun os started H enc _ => receiptTells_lifted os started H enc)
end Go.Proofs.Ytnookbebiacaeaa
