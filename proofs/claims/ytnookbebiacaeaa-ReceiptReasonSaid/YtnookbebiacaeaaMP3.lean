/-
  ReceiptReason returns true whatever the input, and the input reads behind the call as it read before.
-/
import Derived.Test.YtnookbebiacaeaaRows
import Derived.Test.YtnookbebiacaeaaChecked
import Derived.Test.YtnookbebiacaeaaMg16
namespace Go.Proofs.Ytnookbebiacaeaa
open Go.Eng Go.ChangeShapes Go.WideShapes Go.ChangeAt Go.RowKit

theorem receiptReason_ctr (x : Sh.Vals [.ksl shN, shB, shI, shI]) (_hwf : Sh.wfs [.ksl shN, shB, shI, shI] x) : Ctr Try.prog 5 (Sh.tops [.ksl shN, shB, shI, shI] x) [] (.b true) :=
  Ctr.of_eq (args := [.rs 5 (x.1.map ofN).length (rowsN (x.1.map ofN)), .b x.2.1, .i .i64 x.2.2.1, .i .i64 x.2.2.2.1]) ⟨rsN _, AVEq.refl _, AVEq.refl _, AVEq.refl _⟩ (receiptReason_fn (x.1.map ofN) x.2.1 x.2.2.1 x.2.2.2.1)
set_option maxRecDepth 100000 in
theorem receiptReason_lifted (os : Os) (started : os.Started) (H : Type) (enc : TypeId × Value → H) :
    ReturnsInHanded {} Try.checked os 5 .any (Rows.receiptReasonSpec.pre6 enc Try.prog Try.f5 Rows.receiptReasonRow.domain false) (Rows.receiptReasonSpec.post enc Try.prog Try.f5 false true false false) := by
  refine returnsInHanded_of_change (C := Try.checked) Try.own started (by kernel_rfl) Try.func5
    (ChangeSpec.witness6 (enc := enc) (C := Try.checked) false ⟨#[], #[.slice none 0 0, .bool false, .int .i64 0, .int .i64 0], []⟩ 8 (by kernel_rfl) (by kernel_rfl) (by kernel_rfl) (by kernel_rfl)) ?_
  intro W base args ds gs before hval0 hW hcnd _
  have hval : ∀ (j : Nat) t v, Try.f5.params[j]? = some t → args[j]? = some v → Value.okWide Try.prog W .any base t v := hval0
  have hW' := hW
  obtain ⟨p, q, hA0, hV, rfl, hfz, hnd⟩ := hW
  obtain ⟨rfl, rfl⟩ := trodVars_none hV
  obtain ⟨vs, rfl⟩ : ∃ vs : List Value, args = vs.toArray := ⟨args.toList, by simp⟩
  obtain ⟨x, hwf, hdl, hlen, hreps⟩ := open_all (P := Try.prog) (l := [.ksl shN, shB, shI, shI]) (ts := Try.f5.params.toList) (base := base) (shAll_ok (by kernel_rfl)) (fun j t v h1 h2 => hval j t v (by simpa using h1) (by simpa using h2)) hA0
  refine ((receiptReason_ctr x hwf).2 W vs hlen hreps).mono ?_
  rintro e W' ⟨v, β, rfl, hb, _, hr⟩
  obtain rfl := hr.b_inv
  exact ⟨_, rfl, post_true Try.laidOut (by kernel_rfl) hW' rfl (by match ds, hdl with | [_, _, _, _], _ => rfl) rfl Try.underlying4 hb⟩

theorem receiptReason_a1 : (Rows.receiptReasonRow.wf (OpenSpec.ofChange Rows.receiptReasonSpec) && Try.f5.params.all (Try.checked.prog.readableRec ·) && namedTie Try.checked.prog Rows.receiptReasonRow.named Rows.receiptReasonSpec.vars && (Rows.receiptReasonRow.stops == []) && (Rows.receiptReasonRow.knobs == []) && Rows.receiptReasonSpec.vars.all (Try.checked.prog.varReadable ·) && Try.f5.resultTypes.all (fun t => Try.checked.prog.readableRec t && decide (t < Try.checked.prog.types.size)) && Rows.receiptReasonRow.shortTexts.isNone && (Rows.receiptReasonRow.kinds == (if Rows.receiptReasonRow.domain.isEmpty then [] else Try.f5.params.toList.map fun t => match Try.checked.prog.underlying t with | some (.int k) => some k | _ => none)) && (Rows.receiptReasonRow.pinned == Rows.receiptReasonRow.pinnedBy)) = true := by kernel_rfl
theorem receiptReason_a2 : (Rows.receiptReasonRow.inPlace == Try.checked.prog.inPlace 5) = true := by kernel_rfl
theorem receiptReason_a3 : (Rows.receiptReasonRow.unfollowed == Try.checked.prog.unfollowed 5) = true := by kernel_rfl
theorem receiptReason_a4 : (Rows.receiptReasonRow.recurses == Try.checked.prog.recurses 5) = true := by kernel_rfl
theorem receiptReason_a5 : (Rows.receiptReasonRow.named == Try.checked.prog.varsNamed 5) = true := by kernel_rfl
theorem receiptReason_a6 : ((Rows.receiptReasonRow.maps == (Try.f5.params.toList ++ Rows.receiptReasonSpec.plain.varTypes Try.checked.prog).any (Try.checked.prog.mapsRec ·)) && (Rows.receiptReasonRow.ifaces == (Try.f5.params.toList ++ Rows.receiptReasonSpec.plain.varTypes Try.checked.prog).any (Try.checked.prog.ifacesRec ·)) && (Rows.receiptReasonRow.mapsOut == Try.checked.prog.mapsAmong Try.f5.resultTypes.toList) && (Rows.receiptReasonRow.loops == (Try.f5.params.toList ++ Rows.receiptReasonSpec.plain.varTypes Try.checked.prog).any (Try.checked.prog.loopsFrom ·)) && (Rows.receiptReasonRow.wideKeys == (Try.f5.params.toList ++ Rows.receiptReasonSpec.plain.varTypes Try.checked.prog ++ Try.f5.resultTypes.toList).any (Try.checked.prog.wideKeysFrom ·)) && (Rows.receiptReasonRow.ifacesOut == Try.f5.resultTypes.toList.any (Try.checked.prog.ifacesRec ·)) && (Rows.receiptReasonRow.loopsOut == Try.f5.resultTypes.toList.any (Try.checked.prog.loopsFrom ·))) = true := by kernel_rfl
theorem receiptReason_a7 : (Rows.receiptReasonRow.plainKeys == Try.checked.prog.plainKeys) = true := by kernel_rfl
theorem receiptReason_a8 : (Rows.receiptReasonRow.lifted == Try.checked.prog.liftsFinal) = true := by kernel_rfl
theorem receiptReason_a9 : (Try.checked.prog.make == some Rows.receiptReasonRow.make) = true := by kernel_rfl
theorem receiptReason_a10 : (Rows.receiptReasonRow.veiled == (Try.f5.params.toList ++ Rows.receiptReasonSpec.plain.varTypes Try.checked.prog ++ Try.f5.resultTypes.toList).any (Try.checked.prog.veiledRec ·)) = true := by kernel_rfl
theorem receiptReason_a11 : Rows.receiptReasonRow.veiledFits Try.checked.prog Try.f5.params.toList (Try.f5.params.toList ++ Rows.receiptReasonSpec.plain.varTypes Try.checked.prog ++ Try.f5.resultTypes.toList) = true := by kernel_rfl
set_option maxRecDepth 100000 in
theorem receiptReason_joined : joinedFacts Try.checked.prog 5 Try.f5 Rows.receiptReasonSpec Rows.receiptReasonRow = true :=
  joined_of (P := Try.checked.prog) (f := 5) (fn := Try.f5) (s := Rows.receiptReasonSpec) (c := Rows.receiptReasonRow) jf1 jf2 jf3 jf4 jf5 jf6 receiptReason_a1 receiptReason_a2 receiptReason_a3 receiptReason_a4 receiptReason_a5 receiptReason_a6 receiptReason_a7 receiptReason_a8 receiptReason_a9 receiptReason_a10 receiptReason_a11
set_option maxRecDepth 100000 in
theorem receiptReason_holds : Rows.ReceiptReasonSaid :=
  OpenClaim.holds_of_wide 5 Try.f5 rfl rfl rfl rfl rfl rfl rfl ⟨rfl, rfl, rfl, rfl, rfl⟩ rfl rfl rfl rfl rfl (by kernel_rfl) Try.func5 receiptReason_joined
    (of_decide_eq_true (by kernel_rfl)) (by unfold Func.isWrapper; rw [if_neg (by decide +kernel)]; exact ⟨rfl, rfl⟩)
    (fun os started H enc _ => receiptReason_lifted os started H enc)
end Go.Proofs.Ytnookbebiacaeaa
