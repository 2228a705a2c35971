/-
  ChunkSecret returns true whatever the input, and the input reads behind the call as it read before.
-/
import Derived.Test.YtnookbebiacaeaaRows
import Derived.Test.YtnookbebiacaeaaChecked
import Derived.Test.YtnookbebiacaeaaMg25
namespace Go.Proofs.Ytnookbebiacaeaa
open Go.Eng Go.ChangeShapes Go.WideShapes Go.ChangeAt Go.RowKit

theorem chunkSecret_ctr (x : Sh.Vals [.ksl shO, shI]) (_hwf : Sh.wfs [.ksl shO, shI] x) : Ctr Try.prog 13 (Sh.tops [.ksl shO, shI] x) [] (.b true) :=
  Ctr.of_eq (args := [.rs 4 (x.1.map ofO).length (rOp (x.1.map ofO)), .i .i64 x.2.1]) ⟨rsO _, AVEq.refl _⟩ (chunkSecret (x.1.map ofO) (lenO _hwf.1.1) x.2.1)
set_option maxRecDepth 100000 in
theorem chunkSecret_lifted (os : Os) (started : os.Started) (H : Type) (enc : TypeId × Value → H) :
    ReturnsInHanded {} Try.checked os 13 .any (Rows.chunkSecretSpec.pre6 enc Try.prog Try.f13 Rows.chunkSecretRow.domain false) (Rows.chunkSecretSpec.post enc Try.prog Try.f13 false true false false) := by
  refine returnsInHanded_of_change (C := Try.checked) Try.own started (by kernel_rfl) Try.func13
    (ChangeSpec.witness6 (enc := enc) (C := Try.checked) false ⟨#[], #[.slice none 0 0, .int .i64 0], []⟩ 8 (by kernel_rfl) (by kernel_rfl) (by kernel_rfl) (by kernel_rfl)) ?_
  intro W base args ds gs before hval0 hW hcnd _
  have hval : ∀ (j : Nat) t v, Try.f13.params[j]? = some t → args[j]? = some v → Value.okWide Try.prog W .any base t v := hval0
  have hW' := hW
  obtain ⟨p, q, hA0, hV, rfl, hfz, hnd⟩ := hW
  obtain ⟨rfl, rfl⟩ := trodVars_none hV
  obtain ⟨vs, rfl⟩ : ∃ vs : List Value, args = vs.toArray := ⟨args.toList, by simp⟩
  obtain ⟨x, hwf, hdl, hlen, hreps⟩ := open_all (P := Try.prog) (l := [.ksl shO, shI]) (ts := Try.f13.params.toList) (base := base) (shAll_ok (by kernel_rfl)) (fun j t v h1 h2 => hval j t v (by simpa using h1) (by simpa using h2)) hA0
  refine ((chunkSecret_ctr x hwf).2 W vs hlen hreps).mono ?_
  rintro e W' ⟨v, β, rfl, hb, _, hr⟩
  obtain rfl := hr.b_inv
  exact ⟨_, rfl, post_true Try.laidOut (by kernel_rfl) hW' rfl (by match ds, hdl with | [_, _], _ => rfl) rfl Try.underlying4 hb⟩

theorem chunkSecret_a1 : (Rows.chunkSecretRow.wf (OpenSpec.ofChange Rows.chunkSecretSpec) && Try.f13.params.all (Try.checked.prog.readableRec ·) && namedTie Try.checked.prog Rows.chunkSecretRow.named Rows.chunkSecretSpec.vars && (Rows.chunkSecretRow.stops == []) && (Rows.chunkSecretRow.knobs == []) && Rows.chunkSecretSpec.vars.all (Try.checked.prog.varReadable ·) && Try.f13.resultTypes.all (fun t => Try.checked.prog.readableRec t && decide (t < Try.checked.prog.types.size)) && Rows.chunkSecretRow.shortTexts.isNone && (Rows.chunkSecretRow.kinds == (if Rows.chunkSecretRow.domain.isEmpty then [] else Try.f13.params.toList.map fun t => match Try.checked.prog.underlying t with | some (.int k) => some k | _ => none)) && (Rows.chunkSecretRow.pinned == Rows.chunkSecretRow.pinnedBy)) = true := by kernel_rfl
theorem chunkSecret_a2 : (Rows.chunkSecretRow.inPlace == Try.checked.prog.inPlace 13) = true := by kernel_rfl
theorem chunkSecret_a3 : (Rows.chunkSecretRow.unfollowed == Try.checked.prog.unfollowed 13) = true := by kernel_rfl
theorem chunkSecret_a4 : (Rows.chunkSecretRow.recurses == Try.checked.prog.recurses 13) = true := by kernel_rfl
theorem chunkSecret_a5 : (Rows.chunkSecretRow.named == Try.checked.prog.varsNamed 13) = true := by kernel_rfl
theorem chunkSecret_a6 : ((Rows.chunkSecretRow.maps == (Try.f13.params.toList ++ Rows.chunkSecretSpec.plain.varTypes Try.checked.prog).any (Try.checked.prog.mapsRec ·)) && (Rows.chunkSecretRow.ifaces == (Try.f13.params.toList ++ Rows.chunkSecretSpec.plain.varTypes Try.checked.prog).any (Try.checked.prog.ifacesRec ·)) && (Rows.chunkSecretRow.mapsOut == Try.checked.prog.mapsAmong Try.f13.resultTypes.toList) && (Rows.chunkSecretRow.loops == (Try.f13.params.toList ++ Rows.chunkSecretSpec.plain.varTypes Try.checked.prog).any (Try.checked.prog.loopsFrom ·)) && (Rows.chunkSecretRow.wideKeys == (Try.f13.params.toList ++ Rows.chunkSecretSpec.plain.varTypes Try.checked.prog ++ Try.f13.resultTypes.toList).any (Try.checked.prog.wideKeysFrom ·)) && (Rows.chunkSecretRow.ifacesOut == Try.f13.resultTypes.toList.any (Try.checked.prog.ifacesRec ·)) && (Rows.chunkSecretRow.loopsOut == Try.f13.resultTypes.toList.any (Try.checked.prog.loopsFrom ·))) = true := by kernel_rfl
theorem chunkSecret_a7 : (Rows.chunkSecretRow.plainKeys == Try.checked.prog.plainKeys) = true := by kernel_rfl
theorem chunkSecret_a8 : (Rows.chunkSecretRow.lifted == Try.checked.prog.liftsFinal) = true := by kernel_rfl
theorem chunkSecret_a9 : (Try.checked.prog.make == some Rows.chunkSecretRow.make) = true := by kernel_rfl
theorem chunkSecret_a10 : (Rows.chunkSecretRow.veiled == (Try.f13.params.toList ++ Rows.chunkSecretSpec.plain.varTypes Try.checked.prog ++ Try.f13.resultTypes.toList).any (Try.checked.prog.veiledRec ·)) = true := by kernel_rfl
theorem chunkSecret_a11 : Rows.chunkSecretRow.veiledFits Try.checked.prog Try.f13.params.toList (Try.f13.params.toList ++ Rows.chunkSecretSpec.plain.varTypes Try.checked.prog ++ Try.f13.resultTypes.toList) = true := by kernel_rfl
set_option maxRecDepth 100000 in
theorem chunkSecret_joined : joinedFacts Try.checked.prog 13 Try.f13 Rows.chunkSecretSpec Rows.chunkSecretRow = true :=
  joined_of (P := Try.checked.prog) (f := 13) (fn := Try.f13) (s := Rows.chunkSecretSpec) (c := Rows.chunkSecretRow) jf1 jf2 jf3 jf4 jf5 jf6 chunkSecret_a1 chunkSecret_a2 chunkSecret_a3 chunkSecret_a4 chunkSecret_a5 chunkSecret_a6 chunkSecret_a7 chunkSecret_a8 chunkSecret_a9 chunkSecret_a10 chunkSecret_a11
set_option maxRecDepth 100000 in
theorem chunkSecret_holds : Rows.ChunkSecretSaid :=
  OpenClaim.holds_of_wide 13 Try.f13 rfl rfl rfl rfl rfl rfl rfl ⟨rfl, rfl, rfl, rfl, rfl⟩ rfl rfl rfl rfl rfl (by kernel_rfl) Try.func13 chunkSecret_joined
    (of_decide_eq_true (by kernel_rfl)) (by unfold Func.isWrapper; rw [if_neg (by decide +kernel)]; exact ⟨rfl, rfl⟩)
    (fun os started H enc _ => chunkSecret_lifted os started H enc)
end Go.Proofs.Ytnookbebiacaeaa
