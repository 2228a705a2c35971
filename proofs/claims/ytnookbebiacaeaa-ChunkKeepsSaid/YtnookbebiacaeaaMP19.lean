/-
  ChunkKeeps returns true whatever the input, and the input reads behind the call as it read before.
-/
import Derived.Test.YtnookbebiacaeaaRows
import Derived.Test.YtnookbebiacaeaaChecked
import Derived.Test.YtnookbebiacaeaaMg25
namespace Go.Proofs.Ytnookbebiacaeaa
open Go.Eng Go.ChangeShapes Go.WideShapes Go.ChangeAt Go.RowKit

theorem chunkKeeps_ctr (x : Sh.Vals [.ksl shO, .ksl shO]) (_hwf : Sh.wfs [.ksl shO, .ksl shO] x) : Ctr Try.prog 15 (Sh.tops [.ksl shO, .ksl shO] x) [] (.b true) :=
  Ctr.of_eq (args := [.rs 4 (x.1.map ofO).length (rOp (x.1.map ofO)), .rs 4 (x.2.1.map ofO).length (rOp (x.2.1.map ofO))]) ⟨rsO _, rsO _⟩ (chunkKeeps (x.1.map ofO) (x.2.1.map ofO) (lenO _hwf.1.1) (lenO _hwf.2.1.1))
set_option maxRecDepth 100000 in
theorem chunkKeeps_lifted (os : Os) (started : os.Started) (H : Type) (enc : TypeId × Value → H) :
    ReturnsInHanded {} Try.checked os 15 .any (Rows.chunkKeepsSpec.pre6 enc Try.prog Try.f15 Rows.chunkKeepsRow.domain false) (Rows.chunkKeepsSpec.post enc Try.prog Try.f15 false true false false) := by
  refine returnsInHanded_of_change (C := Try.checked) Try.own started (by kernel_rfl) Try.func15
    (ChangeSpec.witness6 (enc := enc) (C := Try.checked) false ⟨#[], #[.slice none 0 0, .slice none 0 0], []⟩ 8 (by kernel_rfl) (by kernel_rfl) (by kernel_rfl) (by kernel_rfl)) ?_
  intro W base args ds gs before hval0 hW hcnd _
  have hval : ∀ (j : Nat) t v, Try.f15.params[j]? = some t → args[j]? = some v → Value.okWide Try.prog W .any base t v := hval0
  have hW' := hW
  obtain ⟨p, q, hA0, hV, rfl, hfz, hnd⟩ := hW
  obtain ⟨rfl, rfl⟩ := trodVars_none hV
  obtain ⟨vs, rfl⟩ : ∃ vs : List Value, args = vs.toArray := ⟨args.toList, by simp⟩
  obtain ⟨x, hwf, hdl, hlen, hreps⟩ := open_all (P := Try.prog) (l := [.ksl shO, .ksl shO]) (ts := Try.f15.params.toList) (base := base) (shAll_ok (by kernel_rfl)) (fun j t v h1 h2 => hval j t v (by simpa using h1) (by simpa using h2)) hA0
  refine ((chunkKeeps_ctr x hwf).2 W vs hlen hreps).mono ?_
  rintro e W' ⟨v, β, rfl, hb, _, hr⟩
  obtain rfl := hr.b_inv
  exact ⟨_, rfl, post_true Try.laidOut (by kernel_rfl) hW' rfl (by match ds, hdl with | [_, _], _ => rfl) rfl Try.underlying4 hb⟩

theorem chunkKeeps_a1 : (Rows.chunkKeepsRow.wf (OpenSpec.ofChange Rows.chunkKeepsSpec) && Try.f15.params.all (Try.checked.prog.readableRec ·) && namedTie Try.checked.prog Rows.chunkKeepsRow.named Rows.chunkKeepsSpec.vars && (Rows.chunkKeepsRow.stops == []) && (Rows.chunkKeepsRow.knobs == []) && Rows.chunkKeepsSpec.vars.all (Try.checked.prog.varReadable ·) && Try.f15.resultTypes.all (fun t => Try.checked.prog.readableRec t && decide (t < Try.checked.prog.types.size)) && Rows.chunkKeepsRow.shortTexts.isNone && (Rows.chunkKeepsRow.kinds == (if Rows.chunkKeepsRow.domain.isEmpty then [] else Try.f15.params.toList.map fun t => match Try.checked.prog.underlying t with | some (.int k) => some k | _ => none)) && (Rows.chunkKeepsRow.pinned == Rows.chunkKeepsRow.pinnedBy)) = true := by kernel_rfl
theorem chunkKeeps_a2 : (Rows.chunkKeepsRow.inPlace == Try.checked.prog.inPlace 15) = true := by kernel_rfl
theorem chunkKeeps_a3 : (Rows.chunkKeepsRow.unfollowed == Try.checked.prog.unfollowed 15) = true := by kernel_rfl
theorem chunkKeeps_a4 : (Rows.chunkKeepsRow.recurses == Try.checked.prog.recurses 15) = true := by kernel_rfl
theorem chunkKeeps_a5 : (Rows.chunkKeepsRow.named == Try.checked.prog.varsNamed 15) = true := by kernel_rfl
theorem chunkKeeps_a6 : ((Rows.chunkKeepsRow.maps == (Try.f15.params.toList ++ Rows.chunkKeepsSpec.plain.varTypes Try.checked.prog).any (Try.checked.prog.mapsRec ·)) && (Rows.chunkKeepsRow.ifaces == (Try.f15.params.toList ++ Rows.chunkKeepsSpec.plain.varTypes Try.checked.prog).any (Try.checked.prog.ifacesRec ·)) && (Rows.chunkKeepsRow.mapsOut == Try.checked.prog.mapsAmong Try.f15.resultTypes.toList) && (Rows.chunkKeepsRow.loops == (Try.f15.params.toList ++ Rows.chunkKeepsSpec.plain.varTypes Try.checked.prog).any (Try.checked.prog.loopsFrom ·)) && (Rows.chunkKeepsRow.wideKeys == (Try.f15.params.toList ++ Rows.chunkKeepsSpec.plain.varTypes Try.checked.prog ++ Try.f15.resultTypes.toList).any (Try.checked.prog.wideKeysFrom ·)) && (Rows.chunkKeepsRow.ifacesOut == Try.f15.resultTypes.toList.any (Try.checked.prog.ifacesRec ·)) && (Rows.chunkKeepsRow.loopsOut == Try.f15.resultTypes.toList.any (Try.checked.prog.loopsFrom ·))) = true := by kernel_rfl
theorem chunkKeeps_a7 : (Rows.chunkKeepsRow.plainKeys == Try.checked.prog.plainKeys) = true := by kernel_rfl
theorem chunkKeeps_a8 : (Rows.chunkKeepsRow.lifted == Try.checked.prog.liftsFinal) = true := by kernel_rfl
theorem chunkKeeps_a9 : (Try.checked.prog.make == some Rows.chunkKeepsRow.make) = true := by kernel_rfl
theorem chunkKeeps_a10 : (Rows.chunkKeepsRow.veiled == (Try.f15.params.toList ++ Rows.chunkKeepsSpec.plain.varTypes Try.checked.prog ++ Try.f15.resultTypes.toList).any (Try.checked.prog.veiledRec ·)) = true := by kernel_rfl
theorem chunkKeeps_a11 : Rows.chunkKeepsRow.veiledFits Try.checked.prog Try.f15.params.toList (Try.f15.params.toList ++ Rows.chunkKeepsSpec.plain.varTypes Try.checked.prog ++ Try.f15.resultTypes.toList) = true := by kernel_rfl
set_option maxRecDepth 100000 in
theorem chunkKeeps_joined : joinedFacts Try.checked.prog 15 Try.f15 Rows.chunkKeepsSpec Rows.chunkKeepsRow = true :=
  joined_of (P := Try.checked.prog) (f := 15) (fn := Try.f15) (s := Rows.chunkKeepsSpec) (c := Rows.chunkKeepsRow) jf1 jf2 jf3 jf4 jf5 jf6 chunkKeeps_a1 chunkKeeps_a2 chunkKeeps_a3 chunkKeeps_a4 chunkKeeps_a5 chunkKeeps_a6 chunkKeeps_a7 chunkKeeps_a8 chunkKeeps_a9 chunkKeeps_a10 chunkKeeps_a11
set_option maxRecDepth 100000 in
theorem chunkKeeps_holds : Rows.ChunkKeepsSaid :=
  OpenClaim.holds_of_wide 15 Try.f15 rfl rfl rfl rfl rfl rfl rfl ⟨rfl, rfl, rfl, rfl, rfl⟩ rfl rfl rfl rfl rfl (by kernel_rfl) Try.func15 chunkKeeps_joined
    (of_decide_eq_true (by kernel_rfl)) (by unfold Func.isWrapper; rw [if_neg (by decide +kernel)]; exact ⟨rfl, rfl⟩)
    (fun os started H enc _ => chunkKeeps_lifted os started H enc)
end Go.Proofs.Ytnookbebiacaeaa
