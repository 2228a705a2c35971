/-
  ChunkTells returns true whatever the input, and the input reads behind the call as it read before.
-/
import Derived.Test.YtnookbebiacaeaaRows
import Derived.Test.YtnookbebiacaeaaChecked
import Derived.Test.YtnookbebiacaeaaMg24
namespace Go.Proofs.Ytnookbebiacaeaa
open Go.Eng Go.ChangeShapes Go.WideShapes Go.ChangeAt Go.RowKit

theorem chunkTells_ctr (x : Sh.Vals [.ksl shO, shI]) (_hwf : Sh.wfs [.ksl shO, shI] x) : Ctr Try.prog 12 (Sh.tops [.ksl shO, shI] x) [] (.b true) :=
  Ctr.of_eq (args := [.rs 4 (x.1.map ofO).length (rOp (x.1.map ofO)), .i .i64 x.2.1]) ⟨rsO _, AVEq.refl _⟩ (chunkTells (x.1.map ofO) (lenO _hwf.1.1) x.2.1)
set_option maxRecDepth 100000 in
theorem chunkTells_lifted (os : Os) (started : os.Started) (H : Type) (enc : TypeId × Value → H) :
    ReturnsInHanded {} Try.checked os 12 .any (Rows.chunkTellsSpec.pre6 enc Try.prog Try.f12 Rows.chunkTellsRow.domain false) (Rows.chunkTellsSpec.post enc Try.prog Try.f12 false true false false) := by
  refine returnsInHanded_of_change (C := Try.checked) Try.own started (by kernel_rfl) Try.func12
    (ChangeSpec.witness6 (enc := enc) (C := Try.checked) false ⟨#[], #[.slice none 0 0, .int .i64 0], []⟩ 8 (by kernel_rfl) (by kernel_rfl) (by kernel_rfl) (by kernel_rfl)) ?_
  intro W base args ds gs before hval0 hW hcnd _
  have hval : ∀ (j : Nat) t v, Try.f12.params[j]? = some t → args[j]? = some v → Value.okWide Try.prog W .any base t v := hval0
  have hW' := hW
  obtain ⟨p, q, hA0, hV, rfl, hfz, hnd⟩ := hW
  obtain ⟨rfl, rfl⟩ := trodVars_none hV
  obtain ⟨vs, rfl⟩ : ∃ vs : List Value, args = vs.toArray := ⟨args.toList, by simp⟩
  obtain ⟨x, hwf, hdl, hlen, hreps⟩ := open_all (P := Try.prog) (l := [.ksl shO, shI]) (ts := Try.f12.params.toList) (base := base) (shAll_ok (by kernel_rfl)) (fun j t v h1 h2 => hval j t v (by simpa using h1) (by simpa using h2)) hA0
  refine ((chunkTells_ctr x hwf).2 W vs hlen hreps).mono ?_
  rintro e W' ⟨v, β, rfl, hb, _, hr⟩
  obtain rfl := hr.b_inv
  exact ⟨_, rfl, post_true Try.laidOut (by kernel_rfl) hW' rfl (by match ds, hdl with | [_, _], _ => rfl) rfl Try.underlying4 hb⟩

theorem chunkTells_a1 : (Rows.chunkTellsRow.wf (OpenSpec.ofChange Rows.chunkTellsSpec) && Try.f12.params.all (Try.checked.prog.readableRec ·) && namedTie Try.checked.prog Rows.chunkTellsRow.named Rows.chunkTellsSpec.vars && (Rows.chunkTellsRow.stops == []) && (Rows.chunkTellsRow.knobs == []) && Rows.chunkTellsSpec.vars.all (Try.checked.prog.varReadable ·) && Try.f12.resultTypes.all (fun t => Try.checked.prog.readableRec t && decide (t < Try.checked.prog.types.size)) && Rows.chunkTellsRow.shortTexts.isNone && (Rows.chunkTellsRow.kinds == (if Rows.chunkTellsRow.domain.isEmpty then [] else Try.f12.params.toList.map fun t => match Try.checked.prog.underlying t with | some (.int k) => some k | _ => none)) && (Rows.chunkTellsRow.pinned == Rows.chunkTellsRow.pinnedBy)) = true := by kernel_rfl
theorem chunkTells_a2 : (Rows.chunkTellsRow.inPlace == Try.checked.prog.inPlace 12) = true := by kernel_rfl
theorem chunkTells_a3 : (Rows.chunkTellsRow.unfollowed == Try.checked.prog.unfollowed 12) = true := by kernel_rfl
theorem chunkTells_a4 : (Rows.chunkTellsRow.recurses == Try.checked.prog.recurses 12) = true := by kernel_rfl
theorem chunkTells_a5 : (Rows.chunkTellsRow.named == Try.checked.prog.varsNamed 12) = true := by kernel_rfl
theorem chunkTells_a6 : ((Rows.chunkTellsRow.maps == (Try.f12.params.toList ++ Rows.chunkTellsSpec.plain.varTypes Try.checked.prog).any (Try.checked.prog.mapsRec ·)) && (Rows.chunkTellsRow.ifaces == (Try.f12.params.toList ++ Rows.chunkTellsSpec.plain.varTypes Try.checked.prog).any (Try.checked.prog.ifacesRec ·)) && (Rows.chunkTellsRow.mapsOut == Try.checked.prog.mapsAmong Try.f12.resultTypes.toList) && (Rows.chunkTellsRow.loops == (Try.f12.params.toList ++ Rows.chunkTellsSpec.plain.varTypes Try.checked.prog).any (Try.checked.prog.loopsFrom ·)) && (Rows.chunkTellsRow.wideKeys == (Try.f12.params.toList ++ Rows.chunkTellsSpec.plain.varTypes Try.checked.prog ++ Try.f12.resultTypes.toList).any (Try.checked.prog.wideKeysFrom ·)) && (Rows.chunkTellsRow.ifacesOut == Try.f12.resultTypes.toList.any (Try.checked.prog.ifacesRec ·)) && (Rows.chunkTellsRow.loopsOut == Try.f12.resultTypes.toList.any (Try.checked.prog.loopsFrom ·))) = true := by kernel_rfl
theorem chunkTells_a7 : (Rows.chunkTellsRow.plainKeys == Try.checked.prog.plainKeys) = true := by kernel_rfl
theorem chunkTells_a8 : (Rows.chunkTellsRow.lifted == Try.checked.prog.liftsFinal) = true := by kernel_rfl
theorem chunkTells_a9 : (Try.checked.prog.make == some Rows.chunkTellsRow.make) = true := by kernel_rfl
theorem chunkTells_a10 : (Rows.chunkTellsRow.veiled == (Try.f12.params.toList ++ Rows.chunkTellsSpec.plain.varTypes Try.checked.prog ++ Try.f12.resultTypes.toList).any (Try.checked.prog.veiledRec ·)) = true := by kernel_rfl
theorem chunkTells_a11 : Rows.chunkTellsRow.veiledFits Try.checked.prog Try.f12.params.toList (Try.f12.params.toList ++ Rows.chunkTellsSpec.plain.varTypes Try.checked.prog ++ Try.f12.resultTypes.toList) = true := by kernel_rfl
set_option maxRecDepth 100000 in
theorem chunkTells_joined : joinedFacts Try.checked.prog 12 Try.f12 Rows.chunkTellsSpec Rows.chunkTellsRow = true :=
  joined_of (P := Try.checked.prog) (f := 12) (fn := Try.f12) (s := Rows.chunkTellsSpec) (c := Rows.chunkTellsRow) jf1 jf2 jf3 jf4 jf5 jf6 chunkTells_a1 chunkTells_a2 chunkTells_a3 chunkTells_a4 chunkTells_a5 chunkTells_a6 chunkTells_a7 chunkTells_a8 chunkTells_a9 chunkTells_a10 chunkTells_a11
set_option maxRecDepth 100000 in
theorem chunkTells_holds : Rows.ChunkTellsSaid :=
  OpenClaim.holds_of_wide 12 Try.f12 rfl rfl rfl rfl rfl rfl rfl ⟨rfl, rfl, rfl, rfl, rfl⟩ rfl rfl rfl rfl rfl (by kernel_rfl) Try.func12 chunkTells_joined
    (of_decide_eq_true (by kernel_rfl)) (by unfold Func.isWrapper; rw [if_neg (by decide +kernel)]; exact ⟨rfl, rfl⟩)
    (fun os started H enc _ => chunkTells_lifted os started H enc)
end Go.Proofs.Ytnookbebiacaeaa
