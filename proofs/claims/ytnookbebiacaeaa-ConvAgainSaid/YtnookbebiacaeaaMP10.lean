/-
  ConvAgain returns true whatever the input, and the input reads behind the call as it read before.
-/
import Derived.Test.YtnookbebiacaeaaRows
import Derived.Test.YtnookbebiacaeaaChecked
import Derived.Test.YtnookbebiacaeaaMg18
namespace Go.Proofs.Ytnookbebiacaeaa
open Go.Eng Go.ChangeShapes Go.WideShapes Go.ChangeAt Go.RowKit

theorem convAgain_ctr (x : Sh.Vals [.ksl shE, shI, shS]) (_hwf : Sh.wfs [.ksl shE, shI, shS] x) : Ctr Try.prog 18 (Sh.tops [.ksl shE, shI, shS] x) [] (.b true) :=
  Ctr.of_eq (args := [.rs 12 (x.1.map ofE).length (rE (x.1.map ofE)), .i .i64 x.2.1, .s x.2.2.1]) ⟨rsE _, AVEq.refl _, AVEq.refl _⟩ (convAgain_fn (x.1.map ofE) (lenE _hwf.1.1) x.2.1 x.2.2.1)
set_option maxRecDepth 100000 in
theorem convAgain_lifted (os : Os) (started : os.Started) (H : Type) (enc : TypeId × Value → H) :
    ReturnsInHanded {} Try.checked os 18 .any (Rows.convAgainSpec.pre6 enc Try.prog Try.f18 Rows.convAgainRow.domain false) (Rows.convAgainSpec.post enc Try.prog Try.f18 false true false false) := by
  refine returnsInHanded_of_change (C := Try.checked) Try.own started (by kernel_rfl) Try.func18
    (ChangeSpec.witness6 (enc := enc) (C := Try.checked) false ⟨#[], #[.slice none 0 0, .int .i64 0, .string ⟨#[]⟩], []⟩ 8 (by kernel_rfl) (by kernel_rfl) (by kernel_rfl) (by kernel_rfl)) ?_
  intro W base args ds gs before hval0 hW hcnd _
  have hval : ∀ (j : Nat) t v, Try.f18.params[j]? = some t → args[j]? = some v → Value.okWide Try.prog W .any base t v := hval0
  have hW' := hW
  obtain ⟨p, q, hA0, hV, rfl, hfz, hnd⟩ := hW
  obtain ⟨rfl, rfl⟩ := trodVars_none hV
  obtain ⟨vs, rfl⟩ : ∃ vs : List Value, args = vs.toArray := ⟨args.toList, by simp⟩
  obtain ⟨x, hwf, hdl, hlen, hreps⟩ := open_all (P := Try.prog) (l := [.ksl shE, shI, shS]) (ts := Try.f18.params.toList) (base := base) (shAll_ok (by kernel_rfl)) (fun j t v h1 h2 => hval j t v (by simpa using h1) (by simpa using h2)) hA0
  refine ((convAgain_ctr x hwf).2 W vs hlen hreps).mono ?_
  rintro e W' ⟨v, β, rfl, hb, _, hr⟩
  obtain rfl := hr.b_inv
  exact ⟨_, rfl, post_true Try.laidOut (by kernel_rfl) hW' rfl (by match ds, hdl with | [_, _, _], _ => rfl) rfl Try.underlying4 hb⟩

theorem convAgain_a1 : (Rows.convAgainRow.wf (OpenSpec.ofChange Rows.convAgainSpec) && Try.f18.params.all (Try.checked.prog.readableRec ·) && namedTie Try.checked.prog Rows.convAgainRow.named Rows.convAgainSpec.vars && (Rows.convAgainRow.stops == []) && (Rows.convAgainRow.knobs == []) && Rows.convAgainSpec.vars.all (Try.checked.prog.varReadable ·) && Try.f18.resultTypes.all (fun t => Try.checked.prog.readableRec t && decide (t < Try.checked.prog.types.size)) && Rows.convAgainRow.shortTexts.isNone && (Rows.convAgainRow.kinds == (if Rows.convAgainRow.domain.isEmpty then [] else Try.f18.params.toList.map fun t => match Try.checked.prog.underlying t with | some (.int k) => some k | _ => none)) && (Rows.convAgainRow.pinned == Rows.convAgainRow.pinnedBy)) = true := by kernel_rfl
theorem convAgain_a2 : (Rows.convAgainRow.inPlace == Try.checked.prog.inPlace 18) = true := by kernel_rfl
theorem convAgain_a3 : (Rows.convAgainRow.unfollowed == Try.checked.prog.unfollowed 18) = true := by kernel_rfl
theorem convAgain_a4 : (Rows.convAgainRow.recurses == Try.checked.prog.recurses 18) = true := by kernel_rfl
theorem convAgain_a5 : (Rows.convAgainRow.named == Try.checked.prog.varsNamed 18) = true := by kernel_rfl
theorem convAgain_a6 : ((Rows.convAgainRow.maps == (Try.f18.params.toList ++ Rows.convAgainSpec.plain.varTypes Try.checked.prog).any (Try.checked.prog.mapsRec ·)) && (Rows.convAgainRow.ifaces == (Try.f18.params.toList ++ Rows.convAgainSpec.plain.varTypes Try.checked.prog).any (Try.checked.prog.ifacesRec ·)) && (Rows.convAgainRow.mapsOut == Try.checked.prog.mapsAmong Try.f18.resultTypes.toList) && (Rows.convAgainRow.loops == (Try.f18.params.toList ++ Rows.convAgainSpec.plain.varTypes Try.checked.prog).any (Try.checked.prog.loopsFrom ·)) && (Rows.convAgainRow.wideKeys == (Try.f18.params.toList ++ Rows.convAgainSpec.plain.varTypes Try.checked.prog ++ Try.f18.resultTypes.toList).any (Try.checked.prog.wideKeysFrom ·)) && (Rows.convAgainRow.ifacesOut == Try.f18.resultTypes.toList.any (Try.checked.prog.ifacesRec ·)) && (Rows.convAgainRow.loopsOut == Try.f18.resultTypes.toList.any (Try.checked.prog.loopsFrom ·))) = true := by kernel_rfl
theorem convAgain_a7 : (Rows.convAgainRow.plainKeys == Try.checked.prog.plainKeys) = true := by kernel_rfl
theorem convAgain_a8 : (Rows.convAgainRow.lifted == Try.checked.prog.liftsFinal) = true := by kernel_rfl
theorem convAgain_a9 : (Try.checked.prog.make == some Rows.convAgainRow.make) = true := by kernel_rfl
theorem convAgain_a10 : (Rows.convAgainRow.veiled == (Try.f18.params.toList ++ Rows.convAgainSpec.plain.varTypes Try.checked.prog ++ Try.f18.resultTypes.toList).any (Try.checked.prog.veiledRec ·)) = true := by kernel_rfl
theorem convAgain_a11 : Rows.convAgainRow.veiledFits Try.checked.prog Try.f18.params.toList (Try.f18.params.toList ++ Rows.convAgainSpec.plain.varTypes Try.checked.prog ++ Try.f18.resultTypes.toList) = true := by kernel_rfl
set_option maxRecDepth 100000 in
theorem convAgain_joined : joinedFacts Try.checked.prog 18 Try.f18 Rows.convAgainSpec Rows.convAgainRow = true :=
  joined_of (P := Try.checked.prog) (f := 18) (fn := Try.f18) (s := Rows.convAgainSpec) (c := Rows.convAgainRow) jf1 jf2 jf3 jf4 jf5 jf6 convAgain_a1 convAgain_a2 convAgain_a3 convAgain_a4 convAgain_a5 convAgain_a6 convAgain_a7 convAgain_a8 convAgain_a9 convAgain_a10 convAgain_a11
set_option maxRecDepth 100000 in
theorem convAgain_holds : Rows.ConvAgainSaid :=
  OpenClaim.holds_of_wide 18 Try.f18 rfl rfl rfl rfl rfl rfl rfl ⟨rfl, rfl, rfl, rfl, rfl⟩ rfl rfl rfl rfl rfl (by kernel_rfl) Try.func18 convAgain_joined
    (of_decide_eq_true (by kernel_rfl)) (by unfold Func.isWrapper; rw [if_neg (by decide +kernel)]; exact ⟨rfl, rfl⟩)
    (fun os started H enc _ => convAgain_lifted os started H enc)
end Go.Proofs.Ytnookbebiacaeaa
