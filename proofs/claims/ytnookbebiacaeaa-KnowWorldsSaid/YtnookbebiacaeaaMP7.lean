/-
  KnowWorlds returns true whatever the input, and the input reads behind the call as it read before.
-/
import Derived.Test.YtnookbebiacaeaaRows
import Derived.Test.YtnookbebiacaeaaChecked
import Derived.Test.YtnookbebiacaeaaMg18
namespace Go.Proofs.Ytnookbebiacaeaa
open Go.Eng Go.ChangeShapes Go.WideShapes Go.ChangeAt Go.RowKit

theorem knowWorlds_ctr (x : Sh.Vals [shF 8, .ksl shN, shB, .ksl shN]) (_hwf : Sh.wfs [shF 8, .ksl shN, shB, .ksl shN] x) : Ctr Try.prog 9 (Sh.tops [shF 8, .ksl shN, shB, .ksl shN] x) [] (.b true) :=
  Ctr.of_w (args := [.ag (avD 7 (ofF 8 x.1)), .rs 5 (x.2.1.map ofN).length (rowsN (x.2.1.map ofN)), .b x.2.2.1, .rs 5 (x.2.2.2.1.map ofN).length (rowsN (x.2.2.2.1.map ofN))]) ⟨form_w 7 _, AVW.of_eq (rsN _), AVW.refl _, AVW.of_eq (rsN _), trivial⟩ (knowWorlds_fn (ofF 8 x.1) (x.2.1.map ofN) x.2.2.1 (x.2.2.2.1.map ofN))
set_option maxRecDepth 100000 in
theorem knowWorlds_lifted (os : Os) (started : os.Started) (H : Type) (enc : TypeId × Value → H) :
    ReturnsInHanded {} Try.checked os 9 .any (Rows.knowWorldsSpec.pre6 enc Try.prog Try.f9 Rows.knowWorldsRow.domain false) (Rows.knowWorldsSpec.post enc Try.prog Try.f9 false true false false) := by
  refine returnsInHanded_of_change (C := Try.checked) Try.own started (by kernel_rfl) Try.func9
    (ChangeSpec.witness6 (enc := enc) (C := Try.checked) false ⟨#[], #[.agg #[.int .i64 0, .int .i64 0, .int .i64 0, .int .i64 0, .slice none 0 0], .slice none 0 0, .bool false, .slice none 0 0], []⟩ 8 (by kernel_rfl) (by kernel_rfl) (by kernel_rfl) (by kernel_rfl)) ?_
  intro W base args ds gs before hval0 hW hcnd _
  have hval : ∀ (j : Nat) t v, Try.f9.params[j]? = some t → args[j]? = some v → Value.okWide Try.prog W .any base t v := hval0
  have hW' := hW
  obtain ⟨p, q, hA0, hV, rfl, hfz, hnd⟩ := hW
  obtain ⟨rfl, rfl⟩ := trodVars_none hV
  obtain ⟨vs, rfl⟩ : ∃ vs : List Value, args = vs.toArray := ⟨args.toList, by simp⟩
  obtain ⟨x, hwf, hdl, hlen, hreps⟩ := open_all (P := Try.prog) (l := [shF 8, .ksl shN, shB, .ksl shN]) (ts := Try.f9.params.toList) (base := base) (shAll_ok (by kernel_rfl)) (fun j t v h1 h2 => hval j t v (by simpa using h1) (by simpa using h2)) hA0
  refine ((knowWorlds_ctr x hwf).2 W vs hlen hreps).mono ?_
  rintro e W' ⟨v, β, rfl, hb, _, hr⟩
  obtain rfl := hr.b_inv
  exact ⟨_, rfl, post_true Try.laidOut (by kernel_rfl) hW' rfl (by match ds, hdl with | [_, _, _, _], _ => rfl) rfl Try.underlying4 hb⟩

theorem knowWorlds_a1 : (Rows.knowWorldsRow.wf (OpenSpec.ofChange Rows.knowWorldsSpec) && Try.f9.params.all (Try.checked.prog.readableRec ·) && namedTie Try.checked.prog Rows.knowWorldsRow.named Rows.knowWorldsSpec.vars && (Rows.knowWorldsRow.stops == []) && (Rows.knowWorldsRow.knobs == []) && Rows.knowWorldsSpec.vars.all (Try.checked.prog.varReadable ·) && Try.f9.resultTypes.all (fun t => Try.checked.prog.readableRec t && decide (t < Try.checked.prog.types.size)) && Rows.knowWorldsRow.shortTexts.isNone && (Rows.knowWorldsRow.kinds == (if Rows.knowWorldsRow.domain.isEmpty then [] else Try.f9.params.toList.map fun t => match Try.checked.prog.underlying t with | some (.int k) => some k | _ => none)) && (Rows.knowWorldsRow.pinned == Rows.knowWorldsRow.pinnedBy)) = true := by kernel_rfl
theorem knowWorlds_a2 : (Rows.knowWorldsRow.inPlace == Try.checked.prog.inPlace 9) = true := by kernel_rfl
theorem knowWorlds_a3 : (Rows.knowWorldsRow.unfollowed == Try.checked.prog.unfollowed 9) = true := by kernel_rfl
theorem knowWorlds_a4 : (Rows.knowWorldsRow.recurses == Try.checked.prog.recurses 9) = true := by kernel_rfl
theorem knowWorlds_a5 : (Rows.knowWorldsRow.named == Try.checked.prog.varsNamed 9) = true := by kernel_rfl
theorem knowWorlds_a6 : ((Rows.knowWorldsRow.maps == (Try.f9.params.toList ++ Rows.knowWorldsSpec.plain.varTypes Try.checked.prog).any (Try.checked.prog.mapsRec ·)) && (Rows.knowWorldsRow.ifaces == (Try.f9.params.toList ++ Rows.knowWorldsSpec.plain.varTypes Try.checked.prog).any (Try.checked.prog.ifacesRec ·)) && (Rows.knowWorldsRow.mapsOut == Try.checked.prog.mapsAmong Try.f9.resultTypes.toList) && (Rows.knowWorldsRow.loops == (Try.f9.params.toList ++ Rows.knowWorldsSpec.plain.varTypes Try.checked.prog).any (Try.checked.prog.loopsFrom ·)) && (Rows.knowWorldsRow.wideKeys == (Try.f9.params.toList ++ Rows.knowWorldsSpec.plain.varTypes Try.checked.prog ++ Try.f9.resultTypes.toList).any (Try.checked.prog.wideKeysFrom ·)) && (Rows.knowWorldsRow.ifacesOut == Try.f9.resultTypes.toList.any (Try.checked.prog.ifacesRec ·)) && (Rows.knowWorldsRow.loopsOut == Try.f9.resultTypes.toList.any (Try.checked.prog.loopsFrom ·))) = true := by kernel_rfl
theorem knowWorlds_a7 : (Rows.knowWorldsRow.plainKeys == Try.checked.prog.plainKeys) = true := by kernel_rfl
theorem knowWorlds_a8 : (Rows.knowWorldsRow.lifted == Try.checked.prog.liftsFinal) = true := by kernel_rfl
theorem knowWorlds_a9 : (Try.checked.prog.make == some Rows.knowWorldsRow.make) = true := by kernel_rfl
theorem knowWorlds_a10 : (Rows.knowWorldsRow.veiled == (Try.f9.params.toList ++ Rows.knowWorldsSpec.plain.varTypes Try.checked.prog ++ Try.f9.resultTypes.toList).any (Try.checked.prog.veiledRec ·)) = true := by kernel_rfl
theorem knowWorlds_a11 : Rows.knowWorldsRow.veiledFits Try.checked.prog Try.f9.params.toList (Try.f9.params.toList ++ Rows.knowWorldsSpec.plain.varTypes Try.checked.prog ++ Try.f9.resultTypes.toList) = true := by kernel_rfl
set_option maxRecDepth 100000 in
theorem knowWorlds_joined : joinedFacts Try.checked.prog 9 Try.f9 Rows.knowWorldsSpec Rows.knowWorldsRow = true :=
  joined_of (P := Try.checked.prog) (f := 9) (fn := Try.f9) (s := Rows.knowWorldsSpec) (c := Rows.knowWorldsRow) jf1 jf2 jf3 jf4 jf5 jf6 knowWorlds_a1 knowWorlds_a2 knowWorlds_a3 knowWorlds_a4 knowWorlds_a5 knowWorlds_a6 knowWorlds_a7 knowWorlds_a8 knowWorlds_a9 knowWorlds_a10 knowWorlds_a11
set_option maxRecDepth 100000 in
theorem knowWorlds_holds : Rows.KnowWorldsSaid :=
  OpenClaim.holds_of_wide 9 Try.f9 rfl rfl rfl rfl rfl rfl rfl ⟨rfl, rfl, rfl, rfl, rfl⟩ rfl rfl rfl rfl rfl (by kernel_rfl) Try.func9 knowWorlds_joined
    (of_decide_eq_true (by kernel_rfl)) (by unfold Func.isWrapper; rw [if_neg (by decide +kernel)]; exact ⟨rfl, rfl⟩)
    (fun os started H enc _ => knowWorlds_lifted os started H enc)
end Go.Proofs.Ytnookbebiacaeaa
