/-
  ReceiptAdds returns true whatever the input, and the input reads behind the call as it read before.
-/
import Derived.Test.YtnookbebiacaeaaRows
import Derived.Test.YtnookbebiacaeaaChecked
import Derived.Test.YtnookbebiacaeaaMg17
namespace Go.Proofs.Ytnookbebiacaeaa
open Go.Eng Go.ChangeShapes Go.WideShapes Go.ChangeAt Go.RowKit

theorem receiptAdds_ctr (x : Sh.Vals [.ksl shN, shN, shB, shI]) (_hwf : Sh.wfs [.ksl shN, shN, shB, shI] x) : Ctr Try.prog 7 (Sh.tops [.ksl shN, shN, shB, shI] x) [] (.b true) :=
  Ctr.of_eq (args := [.rs 5 (x.1.map ofN).length (rowsN (x.1.map ofN)), .ag (ofN x.2.1).av, .b x.2.2.1, .i .i64 x.2.2.2.1]) ⟨rsN _, AVEq.refl _, AVEq.refl _, AVEq.refl _⟩ (receiptAdds_fn (x.1.map ofN) (ofN x.2.1) x.2.2.1 x.2.2.2.1)
set_option maxRecDepth 100000 in
theorem receiptAdds_lifted (os : Os) (started : os.Started) (H : Type) (enc : TypeId × Value → H) :
    ReturnsInHanded {} Try.checked os 7 .any (Rows.receiptAddsSpec.pre6 enc Try.prog Try.f7 Rows.receiptAddsRow.domain false) (Rows.receiptAddsSpec.post enc Try.prog Try.f7 false true false false) := by
  refine returnsInHanded_of_change (C := Try.checked) Try.own started (by kernel_rfl) Try.func7
    (ChangeSpec.witness6 (enc := enc) (C := Try.checked) false ⟨#[], #[.slice none 0 0, .agg #[.int .i64 0, .int .i64 0, .int .i64 0, .int .i64 0, .bool false], .bool false, .int .i64 0], []⟩ 8 (by kernel_rfl) (by kernel_rfl) (by kernel_rfl) (by kernel_rfl)) ?_
  intro W base args ds gs before hval0 hW hcnd _
  have hval : ∀ (j : Nat) t v, Try.f7.params[j]? = some t → args[j]? = some v → Value.okWide Try.prog W .any base t v := hval0
  have hW' := hW
  obtain ⟨p, q, hA0, hV, rfl, hfz, hnd⟩ := hW
  obtain ⟨rfl, rfl⟩ := trodVars_none hV
  obtain ⟨vs, rfl⟩ : ∃ vs : List Value, args = vs.toArray := ⟨args.toList, by simp⟩
  obtain ⟨x, hwf, hdl, hlen, hreps⟩ := open_all (P := Try.prog) (l := [.ksl shN, shN, shB, shI]) (ts := Try.f7.params.toList) (base := base) (shAll_ok (by kernel_rfl)) (fun j t v h1 h2 => hval j t v (by simpa using h1) (by simpa using h2)) hA0
  refine ((receiptAdds_ctr x hwf).2 W vs hlen hreps).mono ?_
  rintro e W' ⟨v, β, rfl, hb, _, hr⟩
  obtain rfl := hr.b_inv
  exact ⟨_, rfl, post_true Try.laidOut (by kernel_rfl) hW' rfl (by match ds, hdl with | [_, _, _, _], _ => rfl) rfl Try.underlying4 hb⟩

theorem receiptAdds_a1 : (Rows.receiptAddsRow.wf (OpenSpec.ofChange Rows.receiptAddsSpec) && Try.f7.params.all (Try.checked.prog.readableRec ·) && namedTie Try.checked.prog Rows.receiptAddsRow.named Rows.receiptAddsSpec.vars && (Rows.receiptAddsRow.stops == []) && (Rows.receiptAddsRow.knobs == []) && Rows.receiptAddsSpec.vars.all (Try.checked.prog.varReadable ·) && Try.f7.resultTypes.all (fun t => Try.checked.prog.readableRec t && decide (t < Try.checked.prog.types.size)) && Rows.receiptAddsRow.shortTexts.isNone && (Rows.receiptAddsRow.kinds == (if Rows.receiptAddsRow.domain.isEmpty then [] else Try.f7.params.toList.map fun t => match Try.checked.prog.underlying t with | some (.int k) => some k | _ => none)) && (Rows.receiptAddsRow.pinned == Rows.receiptAddsRow.pinnedBy)) = true := by kernel_rfl
theorem receiptAdds_a2 : (Rows.receiptAddsRow.inPlace == Try.checked.prog.inPlace 7) = true := by kernel_rfl
theorem receiptAdds_a3 : (Rows.receiptAddsRow.unfollowed == Try.checked.prog.unfollowed 7) = true := by kernel_rfl
theorem receiptAdds_a4 : (Rows.receiptAddsRow.recurses == Try.checked.prog.recurses 7) = true := by kernel_rfl
theorem receiptAdds_a5 : (Rows.receiptAddsRow.named == Try.checked.prog.varsNamed 7) = true := by kernel_rfl
theorem receiptAdds_a6 : ((Rows.receiptAddsRow.maps == (Try.f7.params.toList ++ Rows.receiptAddsSpec.plain.varTypes Try.checked.prog).any (Try.checked.prog.mapsRec ·)) && (Rows.receiptAddsRow.ifaces == (Try.f7.params.toList ++ Rows.receiptAddsSpec.plain.varTypes Try.checked.prog).any (Try.checked.prog.ifacesRec ·)) && (Rows.receiptAddsRow.mapsOut == Try.checked.prog.mapsAmong Try.f7.resultTypes.toList) && (Rows.receiptAddsRow.loops == (Try.f7.params.toList ++ Rows.receiptAddsSpec.plain.varTypes Try.checked.prog).any (Try.checked.prog.loopsFrom ·)) && (Rows.receiptAddsRow.wideKeys == (Try.f7.params.toList ++ Rows.receiptAddsSpec.plain.varTypes Try.checked.prog ++ Try.f7.resultTypes.toList).any (Try.checked.prog.wideKeysFrom ·)) && (Rows.receiptAddsRow.ifacesOut == Try.f7.resultTypes.toList.any (Try.checked.prog.ifacesRec ·)) && (Rows.receiptAddsRow.loopsOut == Try.f7.resultTypes.toList.any (Try.checked.prog.loopsFrom ·))) = true := by kernel_rfl
theorem receiptAdds_a7 : (Rows.receiptAddsRow.plainKeys == Try.checked.prog.plainKeys) = true := by kernel_rfl
theorem receiptAdds_a8 : (Rows.receiptAddsRow.lifted == Try.checked.prog.liftsFinal) = true := by kernel_rfl
theorem receiptAdds_a9 : (Try.checked.prog.make == some Rows.receiptAddsRow.make) = true := by kernel_rfl
theorem receiptAdds_a10 : (Rows.receiptAddsRow.veiled == (Try.f7.params.toList ++ Rows.receiptAddsSpec.plain.varTypes Try.checked.prog ++ Try.f7.resultTypes.toList).any (Try.checked.prog.veiledRec ·)) = true := by kernel_rfl
theorem receiptAdds_a11 : Rows.receiptAddsRow.veiledFits Try.checked.prog Try.f7.params.toList (Try.f7.params.toList ++ Rows.receiptAddsSpec.plain.varTypes Try.checked.prog ++ Try.f7.resultTypes.toList) = true := by kernel_rfl
set_option maxRecDepth 100000 in
theorem receiptAdds_joined : joinedFacts Try.checked.prog 7 Try.f7 Rows.receiptAddsSpec Rows.receiptAddsRow = true :=
  joined_of (P := Try.checked.prog) (f := 7) (fn := Try.f7) (s := Rows.receiptAddsSpec) (c := Rows.receiptAddsRow) jf1 jf2 jf3 jf4 jf5 jf6 receiptAdds_a1 receiptAdds_a2 receiptAdds_a3 receiptAdds_a4 receiptAdds_a5 receiptAdds_a6 receiptAdds_a7 receiptAdds_a8 receiptAdds_a9 receiptAdds_a10 receiptAdds_a11
set_option maxRecDepth 100000 in
theorem receiptAdds_holds : Rows.ReceiptAddsSaid :=
  OpenClaim.holds_of_wide 7 Try.f7 rfl rfl rfl rfl rfl rfl rfl ⟨rfl, rfl, rfl, rfl, rfl⟩ rfl rfl rfl rfl rfl (by kernel_rfl) Try.func7 receiptAdds_joined
    (of_decide_eq_true (by kernel_rfl)) (by unfold Func.isWrapper; rw [if_neg (by decide +kernel)]; exact ⟨rfl, rfl⟩)
    (fun os started H enc _ => receiptAdds_lifted os started H enc)
end Go.Proofs.Ytnookbebiacaeaa
