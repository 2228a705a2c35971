/-
  ChunkOnce returns true whatever the input, and the input reads behind the call as it read before.
-/
import Derived.Test.YtnookbebiacaeaaRows
import Derived.Test.YtnookbebiacaeaaChecked
import Derived.Test.YtnookbebiacaeaaMg23
namespace Go.Proofs.Ytnookbebiacaeaa
open Go.Eng Go.ChangeShapes Go.WideShapes Go.ChangeAt Go.RowKit

theorem chunkOnce_ctr (x : Sh.Vals [.ksl shO]) (_hwf : Sh.wfs [.ksl shO] x) : Ctr Try.prog 14 (Sh.tops [.ksl shO] x) [] (.b true) :=
  Ctr.of_eq (args := [.rs 4 (x.1.map ofO).length (rOp (x.1.map ofO))]) ⟨(rsO x.1).1, (rsO x.1).2⟩ (chunkOnce (x.1.map ofO) (lenO _hwf.1.1))
set_option maxRecDepth 100000 in
theorem chunkOnce_lifted (os : Os) (started : os.Started) (H : Type) (enc : TypeId × Value → H) :
    ReturnsInHanded {} Try.checked os 14 .any (Rows.chunkOnceSpec.pre6 enc Try.prog Try.f14 Rows.chunkOnceRow.domain false) (Rows.chunkOnceSpec.post enc Try.prog Try.f14 false true false false) := by
  refine returnsInHanded_of_change (C := Try.checked) Try.own started (by kernel_rfl) Try.func14
    (ChangeSpec.witness6 (enc := enc) (C := Try.checked) false ⟨#[], #[.slice none 0 0], []⟩ 8 (by kernel_rfl) (by kernel_rfl) (by kernel_rfl) (by kernel_rfl)) ?_
  intro W base args ds gs before hval0 hW hcnd _
  have hval : ∀ (j : Nat) t v, Try.f14.params[j]? = some t → args[j]? = some v → Value.okWide Try.prog W .any base t v := hval0
  have hW' := hW
  obtain ⟨p, q, hA0, hV, rfl, hfz, hnd⟩ := hW
  obtain ⟨rfl, rfl⟩ := trodVars_none hV
  obtain ⟨vs, rfl⟩ : ∃ vs : List Value, args = vs.toArray := ⟨args.toList, by simp⟩
  obtain ⟨x, hwf, hdl, hlen, hreps⟩ := open_all (P := Try.prog) (l := [.ksl shO]) (ts := Try.f14.params.toList) (base := base) (shAll_ok (by kernel_rfl)) (fun j t v h1 h2 => hval j t v (by simpa using h1) (by simpa using h2)) hA0
  refine ((chunkOnce_ctr x hwf).2 W vs hlen hreps).mono ?_
  rintro e W' ⟨v, β, rfl, hb, _, hr⟩
  obtain rfl := hr.b_inv
  exact ⟨_, rfl, post_true Try.laidOut (by kernel_rfl) hW' rfl (by match ds, hdl with | [_], _ => rfl) rfl Try.underlying4 hb⟩

theorem chunkOnce_a1 : (Rows.chunkOnceRow.wf (OpenSpec.ofChange Rows.chunkOnceSpec) && Try.f14.params.all (Try.checked.prog.readableRec ·) && namedTie Try.checked.prog Rows.chunkOnceRow.named Rows.chunkOnceSpec.vars && (Rows.chunkOnceRow.stops == []) && (Rows.chunkOnceRow.knobs == []) && Rows.chunkOnceSpec.vars.all (Try.checked.prog.varReadable ·) && Try.f14.resultTypes.all (fun t => Try.checked.prog.readableRec t && decide (t < Try.checked.prog.types.size)) && Rows.chunkOnceRow.shortTexts.isNone && (Rows.chunkOnceRow.kinds == (if Rows.chunkOnceRow.domain.isEmpty then [] else Try.f14.params.toList.map fun t => match Try.checked.prog.underlying t with | some (.int k) => some k | _ => none)) && (Rows.chunkOnceRow.pinned == Rows.chunkOnceRow.pinnedBy)) = true := by kernel_rfl
theorem chunkOnce_a2 : (Rows.chunkOnceRow.inPlace == Try.checked.prog.inPlace 14) = true := by kernel_rfl
theorem chunkOnce_a3 : (Rows.chunkOnceRow.unfollowed == Try.checked.prog.unfollowed 14) = true := by kernel_rfl
theorem chunkOnce_a4 : (Rows.chunkOnceRow.recurses == Try.checked.prog.recurses 14) = true := by kernel_rfl
theorem chunkOnce_a5 : (Rows.chunkOnceRow.named == Try.checked.prog.varsNamed 14) = true := by kernel_rfl
theorem chunkOnce_a6 : ((Rows.chunkOnceRow.maps == (Try.f14.params.toList ++ Rows.chunkOnceSpec.plain.varTypes Try.checked.prog).any (Try.checked.prog.mapsRec ·)) && (Rows.chunkOnceRow.ifaces == (Try.f14.params.toList ++ Rows.chunkOnceSpec.plain.varTypes Try.checked.prog).any (Try.checked.prog.ifacesRec ·)) && (Rows.chunkOnceRow.mapsOut == Try.checked.prog.mapsAmong Try.f14.resultTypes.toList) && (Rows.chunkOnceRow.loops == (Try.f14.params.toList ++ Rows.chunkOnceSpec.plain.varTypes Try.checked.prog).any (Try.checked.prog.loopsFrom ·)) && (Rows.chunkOnceRow.wideKeys == (Try.f14.params.toList ++ Rows.chunkOnceSpec.plain.varTypes Try.checked.prog ++ Try.f14.resultTypes.toList).any (Try.checked.prog.wideKeysFrom ·)) && (Rows.chunkOnceRow.ifacesOut == Try.f14.resultTypes.toList.any (Try.checked.prog.ifacesRec ·)) && (Rows.chunkOnceRow.loopsOut == Try.f14.resultTypes.toList.any (Try.checked.prog.loopsFrom ·))) = true := by kernel_rfl
theorem chunkOnce_a7 : (Rows.chunkOnceRow.plainKeys == Try.checked.prog.plainKeys) = true := by kernel_rfl
theorem chunkOnce_a8 : (Rows.chunkOnceRow.lifted == Try.checked.prog.liftsFinal) = true := by kernel_rfl
theorem chunkOnce_a9 : (Try.checked.prog.make == some Rows.chunkOnceRow.make) = true := by kernel_rfl
theorem chunkOnce_a10 : (Rows.chunkOnceRow.veiled == (Try.f14.params.toList ++ Rows.chunkOnceSpec.plain.varTypes Try.checked.prog ++ Try.f14.resultTypes.toList).any (Try.checked.prog.veiledRec ·)) = true := by kernel_rfl
theorem chunkOnce_a11 : Rows.chunkOnceRow.veiledFits Try.checked.prog Try.f14.params.toList (Try.f14.params.toList ++ Rows.chunkOnceSpec.plain.varTypes Try.checked.prog ++ Try.f14.resultTypes.toList) = true := by kernel_rfl
set_option maxRecDepth 100000 in
theorem chunkOnce_joined : joinedFacts Try.checked.prog 14 Try.f14 Rows.chunkOnceSpec Rows.chunkOnceRow = true :=
  joined_of (P := Try.checked.prog) (f := 14) (fn := Try.f14) (s := Rows.chunkOnceSpec) (c := Rows.chunkOnceRow) jf1 jf2 jf3 jf4 jf5 jf6 chunkOnce_a1 chunkOnce_a2 chunkOnce_a3 chunkOnce_a4 chunkOnce_a5 chunkOnce_a6 chunkOnce_a7 chunkOnce_a8 chunkOnce_a9 chunkOnce_a10 chunkOnce_a11
set_option maxRecDepth 100000 in
theorem chunkOnce_holds : Rows.ChunkOnceSaid :=
  OpenClaim.holds_of_wide 14 Try.f14 rfl rfl rfl rfl rfl rfl rfl ⟨rfl, rfl, rfl, rfl, rfl⟩ rfl rfl rfl rfl rfl (by kernel_rfl) Try.func14 chunkOnce_joined
    (of_decide_eq_true (by kernel_rfl)) (by unfold Func.isWrapper; rw [if_neg (by decide +kernel)]; exact ⟨rfl, rfl⟩)
    (fun os started H enc _ => chunkOnce_lifted os started H enc)
end Go.Proofs.Ytnookbebiacaeaa
