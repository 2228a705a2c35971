/-
  ReceiptForward returns true whatever the input, and the input reads behind the call as it read before.
-/
import Derived.Test.YtnookbebiacaeaaRows
import Derived.Test.YtnookbebiacaeaaChecked
import Derived.Test.YtnookbebiacaeaaMg16
namespace Go.Proofs.Ytnookbebiacaeaa
open Go.Eng Go.ChangeShapes Go.WideShapes Go.ChangeAt Go.RowKit

theorem receiptForward_ctr (x : Sh.Vals [shN, shPr, shPr]) (_hwf : Sh.wfs [shN, shPr, shPr] x) : Ctr Try.prog 6 (Sh.tops [shN, shPr, shPr] x) [] (.b true) :=
  Ctr.of_eq (args := [.ag (ofN x.1).av, .ag (ofPr x.2.1).av, .ag (ofPr x.2.2.1).av]) ⟨AVEq.refl _, agPr _, agPr _⟩ (receiptForward_fn (ofN x.1) (ofPr x.2.1) (ofPr x.2.2.1))
set_option maxRecDepth 100000 in
theorem receiptForward_lifted (os : Os) (started : os.Started) (H : Type) (enc : TypeId × Value → H) :
    ReturnsInHanded {} Try.checked os 6 .any (Rows.receiptForwardSpec.pre6 enc Try.prog Try.f6 Rows.receiptForwardRow.domain false) (Rows.receiptForwardSpec.post enc Try.prog Try.f6 false true false false) := by
  refine returnsInHanded_of_change (C := Try.checked) Try.own started (by kernel_rfl) Try.func6
    (ChangeSpec.witness6 (enc := enc) (C := Try.checked) false ⟨#[], #[.agg #[.int .i64 0, .int .i64 0, .int .i64 0, .int .i64 0, .bool false], .agg #[.string ⟨#[]⟩, .int .i64 0, .int .i64 0, .int .i64 0, .bool false, .int .i64 0, .bool false, .bool false, .int .i64 0, .int .i64 0, .int .i64 0, .int .i64 0, .slice none 0 0, .int .i64 0, .int .i64 0, .int .i64 0, .int .i64 0, .bool false, .int .i64 0, .int .i64 0, .int .i64 0, .int .i64 0], .agg #[.string ⟨#[]⟩, .int .i64 0, .int .i64 0, .int .i64 0, .bool false, .int .i64 0, .bool false, .bool false, .int .i64 0, .int .i64 0, .int .i64 0, .int .i64 0, .slice none 0 0, .int .i64 0, .int .i64 0, .int .i64 0, .int .i64 0, .bool false, .int .i64 0, .int .i64 0, .int .i64 0, .int .i64 0]], []⟩ 8 (by kernel_rfl) (by kernel_rfl) (by kernel_rfl) (by kernel_rfl)) ?_
  intro W base args ds gs before hval0 hW hcnd _
  have hval : ∀ (j : Nat) t v, Try.f6.params[j]? = some t → args[j]? = some v → Value.okWide Try.prog W .any base t v := hval0
  have hW' := hW
  obtain ⟨p, q, hA0, hV, rfl, hfz, hnd⟩ := hW
  obtain ⟨rfl, rfl⟩ := trodVars_none hV
  obtain ⟨vs, rfl⟩ : ∃ vs : List Value, args = vs.toArray := ⟨args.toList, by simp⟩
  obtain ⟨x, hwf, hdl, hlen, hreps⟩ := open_all (P := Try.prog) (l := [shN, shPr, shPr]) (ts := Try.f6.params.toList) (base := base) (shAll_ok (by kernel_rfl)) (fun j t v h1 h2 => hval j t v (by simpa using h1) (by simpa using h2)) hA0
  refine ((receiptForward_ctr x hwf).2 W vs hlen hreps).mono ?_
  rintro e W' ⟨v, β, rfl, hb, _, hr⟩
  obtain rfl := hr.b_inv
  exact ⟨_, rfl, post_true Try.laidOut (by kernel_rfl) hW' rfl (by match ds, hdl with | [_, _, _], _ => rfl) rfl Try.underlying4 hb⟩

theorem receiptForward_a1 : (Rows.receiptForwardRow.wf (OpenSpec.ofChange Rows.receiptForwardSpec) && Try.f6.params.all (Try.checked.prog.readableRec ·) && namedTie Try.checked.prog Rows.receiptForwardRow.named Rows.receiptForwardSpec.vars && (Rows.receiptForwardRow.stops == []) && (Rows.receiptForwardRow.knobs == []) && Rows.receiptForwardSpec.vars.all (Try.checked.prog.varReadable ·) && Try.f6.resultTypes.all (fun t => Try.checked.prog.readableRec t && decide (t < Try.checked.prog.types.size)) && Rows.receiptForwardRow.shortTexts.isNone && (Rows.receiptForwardRow.kinds == (if Rows.receiptForwardRow.domain.isEmpty then [] else Try.f6.params.toList.map fun t => match Try.checked.prog.underlying t with | some (.int k) => some k | _ => none)) && (Rows.receiptForwardRow.pinned == Rows.receiptForwardRow.pinnedBy)) = true := by kernel_rfl
theorem receiptForward_a2 : (Rows.receiptForwardRow.inPlace == Try.checked.prog.inPlace 6) = true := by kernel_rfl
theorem receiptForward_a3 : (Rows.receiptForwardRow.unfollowed == Try.checked.prog.unfollowed 6) = true := by kernel_rfl
theorem receiptForward_a4 : (Rows.receiptForwardRow.recurses == Try.checked.prog.recurses 6) = true := by kernel_rfl
theorem receiptForward_a5 : (Rows.receiptForwardRow.named == Try.checked.prog.varsNamed 6) = true := by kernel_rfl
theorem receiptForward_a6 : ((Rows.receiptForwardRow.maps == (Try.f6.params.toList ++ Rows.receiptForwardSpec.plain.varTypes Try.checked.prog).any (Try.checked.prog.mapsRec ·)) && (Rows.receiptForwardRow.ifaces == (Try.f6.params.toList ++ Rows.receiptForwardSpec.plain.varTypes Try.checked.prog).any (Try.checked.prog.ifacesRec ·)) && (Rows.receiptForwardRow.mapsOut == Try.checked.prog.mapsAmong Try.f6.resultTypes.toList) && (Rows.receiptForwardRow.loops == (Try.f6.params.toList ++ Rows.receiptForwardSpec.plain.varTypes Try.checked.prog).any (Try.checked.prog.loopsFrom ·)) && (Rows.receiptForwardRow.wideKeys == (Try.f6.params.toList ++ Rows.receiptForwardSpec.plain.varTypes Try.checked.prog ++ Try.f6.resultTypes.toList).any (Try.checked.prog.wideKeysFrom ·)) && (Rows.receiptForwardRow.ifacesOut == Try.f6.resultTypes.toList.any (Try.checked.prog.ifacesRec ·)) && (Rows.receiptForwardRow.loopsOut == Try.f6.resultTypes.toList.any (Try.checked.prog.loopsFrom ·))) = true := by kernel_rfl
theorem receiptForward_a7 : (Rows.receiptForwardRow.plainKeys == Try.checked.prog.plainKeys) = true := by kernel_rfl
theorem receiptForward_a8 : (Rows.receiptForwardRow.lifted == Try.checked.prog.liftsFinal) = true := by kernel_rfl
theorem receiptForward_a9 : (Try.checked.prog.make == some Rows.receiptForwardRow.make) = true := by kernel_rfl
theorem receiptForward_a10 : (Rows.receiptForwardRow.veiled == (Try.f6.params.toList ++ Rows.receiptForwardSpec.plain.varTypes Try.checked.prog ++ Try.f6.resultTypes.toList).any (Try.checked.prog.veiledRec ·)) = true := by kernel_rfl
theorem receiptForward_a11 : Rows.receiptForwardRow.veiledFits Try.checked.prog Try.f6.params.toList (Try.f6.params.toList ++ Rows.receiptForwardSpec.plain.varTypes Try.checked.prog ++ Try.f6.resultTypes.toList) = true := by kernel_rfl
set_option maxRecDepth 100000 in
theorem receiptForward_joined : joinedFacts Try.checked.prog 6 Try.f6 Rows.receiptForwardSpec Rows.receiptForwardRow = true :=
  joined_of (P := Try.checked.prog) (f := 6) (fn := Try.f6) (s := Rows.receiptForwardSpec) (c := Rows.receiptForwardRow) jf1 jf2 jf3 jf4 jf5 jf6 receiptForward_a1 receiptForward_a2 receiptForward_a3 receiptForward_a4 receiptForward_a5 receiptForward_a6 receiptForward_a7 receiptForward_a8 receiptForward_a9 receiptForward_a10 receiptForward_a11
set_option maxRecDepth 100000 in
theorem receiptForward_holds : Rows.ReceiptForwardSaid :=
  OpenClaim.holds_of_wide 6 Try.f6 rfl rfl rfl rfl rfl rfl rfl ⟨rfl, rfl, rfl, rfl, rfl⟩ rfl rfl rfl rfl rfl (by kernel_rfl) Try.func6 receiptForward_joined
    (of_decide_eq_true (by kernel_rfl)) (by unfold Func.isWrapper; rw [if_neg (by decide +kernel)]; exact ⟨rfl, rfl⟩)
    (fun os started H enc _ => receiptForward_lifted os started H enc)
end Go.Proofs.Ytnookbebiacaeaa
