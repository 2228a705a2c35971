/-
  ReceiptWeaker returns true whatever the input, and the input reads behind the call as it read before.
-/
import Derived.Test.YtnookbebiacaeaaRows
import Derived.Test.YtnookbebiacaeaaChecked
import Derived.Test.YtnookbebiacaeaaMg17
namespace Go.Proofs.Ytnookbebiacaeaa
open Go.Eng Go.ChangeShapes Go.WideShapes Go.ChangeAt Go.RowKit

theorem receiptWeaker_ctr (x : Sh.Vals [.ksl shN, shB, shI]) (_hwf : Sh.wfs [.ksl shN, shB, shI] x) : Ctr Try.prog 4 (Sh.tops [.ksl shN, shB, shI] x) [] (.b true) :=
  Ctr.of_eq (args := [.rs 5 (x.1.map ofN).length (rowsN (x.1.map ofN)), .b x.2.1, .i .i64 x.2.2.1]) ⟨rsN _, AVEq.refl _, AVEq.refl _⟩ (receiptWeaker_fn (x.1.map ofN) x.2.1 x.2.2.1)
set_option maxRecDepth 100000 in
theorem receiptWeaker_lifted (os : Os) (started : os.Started) (H : Type) (enc : TypeId × Value → H) :
    ReturnsInHanded {} Try.checked os 4 .any (Rows.receiptWeakerSpec.pre6 enc Try.prog Try.f4 Rows.receiptWeakerRow.domain false) (Rows.receiptWeakerSpec.post enc Try.prog Try.f4 false true false false) := by
  refine returnsInHanded_of_change (C := Try.checked) Try.own started (by kernel_rfl) Try.func4
    (ChangeSpec.witness6 (enc := enc) (C := Try.checked) false ⟨#[], #[.slice none 0 0, .bool false, .int .i64 0], []⟩ 8 (by kernel_rfl) (by kernel_rfl) (by kernel_rfl) (by kernel_rfl)) ?_
  intro W base args ds gs before hval0 hW hcnd _
  have hval : ∀ (j : Nat) t v, Try.f4.params[j]? = some t → args[j]? = some v → Value.okWide Try.prog W .any base t v := hval0
  have hW' := hW
  obtain ⟨p, q, hA0, hV, rfl, hfz, hnd⟩ := hW
  obtain ⟨rfl, rfl⟩ := trodVars_none hV
  obtain ⟨vs, rfl⟩ : ∃ vs : List Value, args = vs.toArray := ⟨args.toList, by simp⟩
  obtain ⟨x, hwf, hdl, hlen, hreps⟩ := open_all (P := Try.prog) (l := [.ksl shN, shB, shI]) (ts := Try.f4.params.toList) (base := base) (shAll_ok (by kernel_rfl)) (fun j t v h1 h2 => hval j t v (by simpa using h1) (by simpa using h2)) hA0
  refine ((receiptWeaker_ctr x hwf).2 W vs hlen hreps).mono ?_
  rintro e W' ⟨v, β, rfl, hb, _, hr⟩
  obtain rfl := hr.b_inv
  exact ⟨_, rfl, post_true Try.laidOut (by kernel_rfl) hW' rfl (by match ds, hdl with | [_, _, _], _ => rfl) rfl Try.underlying4 hb⟩

theorem receiptWeaker_a1 : (Rows.receiptWeakerRow.wf (OpenSpec.ofChange Rows.receiptWeakerSpec) && Try.f4.params.all (Try.checked.prog.readableRec ·) && namedTie Try.checked.prog Rows.receiptWeakerRow.named Rows.receiptWeakerSpec.vars && (Rows.receiptWeakerRow.stops == []) && (Rows.receiptWeakerRow.knobs == []) && Rows.receiptWeakerSpec.vars.all (Try.checked.prog.varReadable ·) && Try.f4.resultTypes.all (fun t => Try.checked.prog.readableRec t && decide (t < Try.checked.prog.types.size)) && Rows.receiptWeakerRow.shortTexts.isNone && (Rows.receiptWeakerRow.kinds == (if Rows.receiptWeakerRow.domain.isEmpty then [] else Try.f4.params.toList.map fun t => match Try.checked.prog.underlying t with | some (.int k) => some k | _ => none)) && (Rows.receiptWeakerRow.pinned == Rows.receiptWeakerRow.pinnedBy)) = true := by kernel_rfl
theorem receiptWeaker_a2 : (Rows.receiptWeakerRow.inPlace == Try.checked.prog.inPlace 4) = true := by kernel_rfl
theorem receiptWeaker_a3 : (Rows.receiptWeakerRow.unfollowed == Try.checked.prog.unfollowed 4) = true := by kernel_rfl
theorem receiptWeaker_a4 : (Rows.receiptWeakerRow.recurses == Try.checked.prog.recurses 4) = true := by kernel_rfl
theorem receiptWeaker_a5 : (Rows.receiptWeakerRow.named == Try.checked.prog.varsNamed 4) = true := by kernel_rfl
theorem receiptWeaker_a6 : ((Rows.receiptWeakerRow.maps == (Try.f4.params.toList ++ Rows.receiptWeakerSpec.plain.varTypes Try.checked.prog).any (Try.checked.prog.mapsRec ·)) && (Rows.receiptWeakerRow.ifaces == (Try.f4.params.toList ++ Rows.receiptWeakerSpec.plain.varTypes Try.checked.prog).any (Try.checked.prog.ifacesRec ·)) && (Rows.receiptWeakerRow.mapsOut == Try.checked.prog.mapsAmong Try.f4.resultTypes.toList) && (Rows.receiptWeakerRow.loops == (Try.f4.params.toList ++ Rows.receiptWeakerSpec.plain.varTypes Try.checked.prog).any (Try.checked.prog.loopsFrom ·)) && (Rows.receiptWeakerRow.wideKeys == (Try.f4.params.toList ++ Rows.receiptWeakerSpec.plain.varTypes Try.checked.prog ++ Try.f4.resultTypes.toList).any (Try.checked.prog.wideKeysFrom ·)) && (Rows.receiptWeakerRow.ifacesOut == Try.f4.resultTypes.toList.any (Try.checked.prog.ifacesRec ·)) && (Rows.receiptWeakerRow.loopsOut == Try.f4.resultTypes.toList.any (Try.checked.prog.loopsFrom ·))) = true := by kernel_rfl
theorem receiptWeaker_a7 : (Rows.receiptWeakerRow.plainKeys == Try.checked.prog.plainKeys) = true := by kernel_rfl
theorem receiptWeaker_a8 : (Rows.receiptWeakerRow.lifted == Try.checked.prog.liftsFinal) = true := by kernel_rfl
theorem receiptWeaker_a9 : (Try.checked.prog.make == some Rows.receiptWeakerRow.make) = true := by kernel_rfl
theorem receiptWeaker_a10 : (Rows.receiptWeakerRow.veiled == (Try.f4.params.toList ++ Rows.receiptWeakerSpec.plain.varTypes Try.checked.prog ++ Try.f4.resultTypes.toList).any (Try.checked.prog.veiledRec ·)) = true := by kernel_rfl
theorem receiptWeaker_a11 : Rows.receiptWeakerRow.veiledFits Try.checked.prog Try.f4.params.toList (Try.f4.params.toList ++ Rows.receiptWeakerSpec.plain.varTypes Try.checked.prog ++ Try.f4.resultTypes.toList) = true := by kernel_rfl
set_option maxRecDepth 100000 in
theorem receiptWeaker_joined : joinedFacts Try.checked.prog 4 Try.f4 Rows.receiptWeakerSpec Rows.receiptWeakerRow = true :=
  joined_of (P := Try.checked.prog) (f := 4) (fn := Try.f4) (s := Rows.receiptWeakerSpec) (c := Rows.receiptWeakerRow) jf1 jf2 jf3 jf4 jf5 jf6 receiptWeaker_a1 receiptWeaker_a2 receiptWeaker_a3 receiptWeaker_a4 receiptWeaker_a5 receiptWeaker_a6 receiptWeaker_a7 receiptWeaker_a8 receiptWeaker_a9 receiptWeaker_a10 receiptWeaker_a11
set_option maxRecDepth 100000 in
theorem receiptWeaker_holds : Rows.ReceiptWeakerSaid :=
  OpenClaim.holds_of_wide 4 Try.f4 rfl rfl rfl rfl rfl rfl rfl ⟨rfl, rfl, rfl, rfl, rfl⟩ rfl rfl rfl rfl rfl (by kernel_rfl) Try.func4 receiptWeaker_joined
    (of_decide_eq_true (by kernel_rfl)) (by unfold Func.isWrapper; rw [if_neg (by decide +kernel)]; exact ⟨rfl, rfl⟩)
    (fun os started H enc _ => receiptWeaker_lifted os started H enc)
end Go.Proofs.Ytnookbebiacaeaa
