/-
  ReceiptHolds returns true whatever the input, and the input reads behind the call as it read before.
-/
import Derived.Test.YtnookbebiacaeaaRows
import Derived.Test.YtnookbebiacaeaaChecked
import Derived.Test.YtnookbebiacaeaaMg17
namespace Go.Proofs.Ytnookbebiacaeaa
open Go.Eng Go.ChangeShapes Go.WideShapes Go.ChangeAt Go.RowKit

theorem receiptHolds_ctr (x : Sh.Vals [.ksl shN, shB, shI, shI, shPr]) (_hwf : Sh.wfs [.ksl shN, shB, shI, shI, shPr] x) : Ctr Try.prog 8 (Sh.tops [.ksl shN, shB, shI, shI, shPr] x) [] (.b true) :=
  Ctr.of_eq (args := [.rs 5 (x.1.map ofN).length (rowsN (x.1.map ofN)), .b x.2.1, .i .i64 x.2.2.1, .i .i64 x.2.2.2.1, .ag (ofPr x.2.2.2.2.1).av]) ⟨rsN _, AVEq.refl _, AVEq.refl _, AVEq.refl _, agPr _⟩ (receiptHolds_fn (x.1.map ofN) x.2.1 x.2.2.1 x.2.2.2.1 (ofPr x.2.2.2.2.1))
set_option maxRecDepth 100000 in
theorem receiptHolds_lifted (os : Os) (started : os.Started) (H : Type) (enc : TypeId × Value → H) :
    ReturnsInHanded {} Try.checked os 8 .any (Rows.receiptHoldsSpec.pre6 enc Try.prog Try.f8 Rows.receiptHoldsRow.domain false) (Rows.receiptHoldsSpec.post enc Try.prog Try.f8 false true false false) := by
  refine returnsInHanded_of_change (C := Try.checked) Try.own started (by kernel_rfl) Try.func8
    (ChangeSpec.witness6 (enc := enc) (C := Try.checked) false ⟨#[], #[.slice none 0 0, .bool false, .int .i64 0, .int .i64 0, .agg #[.string ⟨#[]⟩, .int .i64 0, .int .i64 0, .int .i64 0, .bool false, .int .i64 0, .bool false, .bool false, .int .i64 0, .int .i64 0, .int .i64 0, .int .i64 0, .slice none 0 0, .int .i64 0, .int .i64 0, .int .i64 0, .int .i64 0, .bool false, .int .i64 0, .int .i64 0, .int .i64 0, .int .i64 0]], []⟩ 8 (by kernel_rfl) (by kernel_rfl) (by kernel_rfl) (by kernel_rfl)) ?_
  intro W base args ds gs before hval0 hW hcnd _
  have hval : ∀ (j : Nat) t v, Try.f8.params[j]? = some t → args[j]? = some v → Value.okWide Try.prog W .any base t v := hval0
  have hW' := hW
  obtain ⟨p, q, hA0, hV, rfl, hfz, hnd⟩ := hW
  obtain ⟨rfl, rfl⟩ := trodVars_none hV
  obtain ⟨vs, rfl⟩ : ∃ vs : List Value, args = vs.toArray := ⟨args.toList, by simp⟩
  obtain ⟨x, hwf, hdl, hlen, hreps⟩ := open_all (P := Try.prog) (l := [.ksl shN, shB, shI, shI, shPr]) (ts := Try.f8.params.toList) (base := base) (shAll_ok (by kernel_rfl)) (fun j t v h1 h2 => hval j t v (by simpa using h1) (by simpa using h2)) hA0
  refine ((receiptHolds_ctr x hwf).2 W vs hlen hreps).mono ?_
  rintro e W' ⟨v, β, rfl, hb, _, hr⟩
  obtain rfl := hr.b_inv
  exact ⟨_, rfl, post_true Try.laidOut (by kernel_rfl) hW' rfl (by match ds, hdl with | [_, _, _, _, _], _ => rfl) rfl Try.underlying4 hb⟩

theorem receiptHolds_a1 : (Rows.receiptHoldsRow.wf (OpenSpec.ofChange Rows.receiptHoldsSpec) && Try.f8.params.all (Try.checked.prog.readableRec ·) && namedTie Try.checked.prog Rows.receiptHoldsRow.named Rows.receiptHoldsSpec.vars && (Rows.receiptHoldsRow.stops == []) && (Rows.receiptHoldsRow.knobs == []) && Rows.receiptHoldsSpec.vars.all (Try.checked.prog.varReadable ·) && Try.f8.resultTypes.all (fun t => Try.checked.prog.readableRec t && decide (t < Try.checked.prog.types.size)) && Rows.receiptHoldsRow.shortTexts.isNone && (Rows.receiptHoldsRow.kinds == (if Rows.receiptHoldsRow.domain.isEmpty then [] else Try.f8.params.toList.map fun t => match Try.checked.prog.underlying t with | some (.int k) => some k | _ => none)) && (Rows.receiptHoldsRow.pinned == Rows.receiptHoldsRow.pinnedBy)) = true := by kernel_rfl
theorem receiptHolds_a2 : (Rows.receiptHoldsRow.inPlace == Try.checked.prog.inPlace 8) = true := by kernel_rfl
theorem receiptHolds_a3 : (Rows.receiptHoldsRow.unfollowed == Try.checked.prog.unfollowed 8) = true := by kernel_rfl
theorem receiptHolds_a4 : (Rows.receiptHoldsRow.recurses == Try.checked.prog.recurses 8) = true := by kernel_rfl
theorem receiptHolds_a5 : (Rows.receiptHoldsRow.named == Try.checked.prog.varsNamed 8) = true := by kernel_rfl
theorem receiptHolds_a6 : ((Rows.receiptHoldsRow.maps == (Try.f8.params.toList ++ Rows.receiptHoldsSpec.plain.varTypes Try.checked.prog).any (Try.checked.prog.mapsRec ·)) && (Rows.receiptHoldsRow.ifaces == (Try.f8.params.toList ++ Rows.receiptHoldsSpec.plain.varTypes Try.checked.prog).any (Try.checked.prog.ifacesRec ·)) && (Rows.receiptHoldsRow.mapsOut == Try.checked.prog.mapsAmong Try.f8.resultTypes.toList) && (Rows.receiptHoldsRow.loops == (Try.f8.params.toList ++ Rows.receiptHoldsSpec.plain.varTypes Try.checked.prog).any (Try.checked.prog.loopsFrom ·)) && (Rows.receiptHoldsRow.wideKeys == (Try.f8.params.toList ++ Rows.receiptHoldsSpec.plain.varTypes Try.checked.prog ++ Try.f8.resultTypes.toList).any (Try.checked.prog.wideKeysFrom ·)) && (Rows.receiptHoldsRow.ifacesOut == Try.f8.resultTypes.toList.any (Try.checked.prog.ifacesRec ·)) && (Rows.receiptHoldsRow.loopsOut == Try.f8.resultTypes.toList.any (Try.checked.prog.loopsFrom ·))) = true := by kernel_rfl
theorem receiptHolds_a7 : (Rows.receiptHoldsRow.plainKeys == Try.checked.prog.plainKeys) = true := by kernel_rfl
theorem receiptHolds_a8 : (Rows.receiptHoldsRow.lifted == Try.checked.prog.liftsFinal) = true := by kernel_rfl
theorem receiptHolds_a9 : (Try.checked.prog.make == some Rows.receiptHoldsRow.make) = true := by kernel_rfl
theorem receiptHolds_a10 : (Rows.receiptHoldsRow.veiled == (Try.f8.params.toList ++ Rows.receiptHoldsSpec.plain.varTypes Try.checked.prog ++ Try.f8.resultTypes.toList).any (Try.checked.prog.veiledRec ·)) = true := by kernel_rfl
theorem receiptHolds_a11 : Rows.receiptHoldsRow.veiledFits Try.checked.prog Try.f8.params.toList (Try.f8.params.toList ++ Rows.receiptHoldsSpec.plain.varTypes Try.checked.prog ++ Try.f8.resultTypes.toList) = true := by kernel_rfl
set_option maxRecDepth 100000 in
theorem receiptHolds_joined : joinedFacts Try.checked.prog 8 Try.f8 Rows.receiptHoldsSpec Rows.receiptHoldsRow = true :=
  joined_of (P := Try.checked.prog) (f := 8) (fn := Try.f8) (s := Rows.receiptHoldsSpec) (c := Rows.receiptHoldsRow) jf1 jf2 jf3 jf4 jf5 jf6 receiptHolds_a1 receiptHolds_a2 receiptHolds_a3 receiptHolds_a4 receiptHolds_a5 receiptHolds_a6 receiptHolds_a7 receiptHolds_a8 receiptHolds_a9 receiptHolds_a10 receiptHolds_a11
set_option maxRecDepth 100000 in
theorem receiptHolds_holds : Rows.ReceiptHoldsSaid :=
  OpenClaim.holds_of_wide 8 Try.f8 rfl rfl rfl rfl rfl rfl rfl ⟨rfl, rfl, rfl, rfl, rfl⟩ rfl rfl rfl rfl rfl (by kernel_rfl) Try.func8 receiptHolds_joined
    (of_decide_eq_true (by kernel_rfl)) (by unfold Func.isWrapper; rw [if_neg (by decide +kernel)]; exact ⟨rfl, rfl⟩)
    (fun os started H enc _ => receiptHolds_lifted os started H enc)
end Go.Proofs.Ytnookbebiacaeaa
