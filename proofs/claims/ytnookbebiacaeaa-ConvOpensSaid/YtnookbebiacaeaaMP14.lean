/-
  ConvOpens returns true whatever the input, and the input reads behind the call as it read before.
-/
import Derived.Test.YtnookbebiacaeaaRows
import Derived.Test.YtnookbebiacaeaaChecked
import Derived.Test.YtnookbebiacaeaaMg18
namespace Go.Proofs.Ytnookbebiacaeaa
open Go.Eng Go.ChangeShapes Go.WideShapes Go.ChangeAt Go.RowKit

theorem convOpens_ctr (x : Sh.Vals [.ksl shE, shE, shI]) (_hwf : Sh.wfs [.ksl shE, shE, shI] x) : Ctr Try.prog 21 (Sh.tops [.ksl shE, shE, shI] x) [] (.b true) :=
  Ctr.of_eq (args := [.rs 12 (x.1.map ofE).length (rE (x.1.map ofE)), .ag (ofE x.2.1).av, .i .i64 x.2.2.1]) ⟨rsE _, agE _, AVEq.refl _⟩ (convOpens_fn (x.1.map ofE) (lenE _hwf.1.1) (ofE x.2.1) x.2.2.1)
set_option maxRecDepth 100000 in
theorem convOpens_lifted (os : Os) (started : os.Started) (H : Type) (enc : TypeId × Value → H) :
    ReturnsInHanded {} Try.checked os 21 .any (Rows.convOpensSpec.pre6 enc Try.prog Try.f21 Rows.convOpensRow.domain false) (Rows.convOpensSpec.post enc Try.prog Try.f21 false true false false) := by
  refine returnsInHanded_of_change (C := Try.checked) Try.own started (by kernel_rfl) Try.func21
    (ChangeSpec.witness6 (enc := enc) (C := Try.checked) false ⟨#[], #[.slice none 0 0, .agg #[.int .i64 0, .int .i64 0, .slice none 0 0, .int .i64 0, .int .i64 0, .int .i64 0, .int .i64 0, .int .i64 0, .int .i64 0, .string ⟨#[]⟩, .slice none 0 0, .int .i64 0], .int .i64 0], []⟩ 8 (by kernel_rfl) (by kernel_rfl) (by kernel_rfl) (by kernel_rfl)) ?_
  intro W base args ds gs before hval0 hW hcnd _
  have hval : ∀ (j : Nat) t v, Try.f21.params[j]? = some t → args[j]? = some v → Value.okWide Try.prog W .any base t v := hval0
  have hW' := hW
  obtain ⟨p, q, hA0, hV, rfl, hfz, hnd⟩ := hW
  obtain ⟨rfl, rfl⟩ := trodVars_none hV
  obtain ⟨vs, rfl⟩ : ∃ vs : List Value, args = vs.toArray := ⟨args.toList, by simp⟩
  obtain ⟨x, hwf, hdl, hlen, hreps⟩ := open_all (P := Try.prog) (l := [.ksl shE, shE, shI]) (ts := Try.f21.params.toList) (base := base) (shAll_ok (by kernel_rfl)) (fun j t v h1 h2 => hval j t v (by simpa using h1) (by simpa using h2)) hA0
  refine ((convOpens_ctr x hwf).2 W vs hlen hreps).mono ?_
  rintro e W' ⟨v, β, rfl, hb, _, hr⟩
  obtain rfl := hr.b_inv
  exact ⟨_, rfl, post_true Try.laidOut (by kernel_rfl) hW' rfl (by match ds, hdl with | [_, _, _], _ => rfl) rfl Try.underlying4 hb⟩

theorem convOpens_a1 : (Rows.convOpensRow.wf (OpenSpec.ofChange Rows.convOpensSpec) && Try.f21.params.all (Try.checked.prog.readableRec ·) && namedTie Try.checked.prog Rows.convOpensRow.named Rows.convOpensSpec.vars && (Rows.convOpensRow.stops == []) && (Rows.convOpensRow.knobs == []) && Rows.convOpensSpec.vars.all (Try.checked.prog.varReadable ·) && Try.f21.resultTypes.all (fun t => Try.checked.prog.readableRec t && decide (t < Try.checked.prog.types.size)) && Rows.convOpensRow.shortTexts.isNone && (Rows.convOpensRow.kinds == (if Rows.convOpensRow.domain.isEmpty then [] else Try.f21.params.toList.map fun t => match Try.checked.prog.underlying t with | some (.int k) => some k | _ => none)) && (Rows.convOpensRow.pinned == Rows.convOpensRow.pinnedBy)) = true := by kernel_rfl
theorem convOpens_a2 : (Rows.convOpensRow.inPlace == Try.checked.prog.inPlace 21) = true := by kernel_rfl
theorem convOpens_a3 : (Rows.convOpensRow.unfollowed == Try.checked.prog.unfollowed 21) = true := by kernel_rfl
theorem convOpens_a4 : (Rows.convOpensRow.recurses == Try.checked.prog.recurses 21) = true := by kernel_rfl
theorem convOpens_a5 : (Rows.convOpensRow.named == Try.checked.prog.varsNamed 21) = true := by kernel_rfl
theorem convOpens_a6 : ((Rows.convOpensRow.maps == (Try.f21.params.toList ++ Rows.convOpensSpec.plain.varTypes Try.checked.prog).any (Try.checked.prog.mapsRec ·)) && (Rows.convOpensRow.ifaces == (Try.f21.params.toList ++ Rows.convOpensSpec.plain.varTypes Try.checked.prog).any (Try.checked.prog.ifacesRec ·)) && (Rows.convOpensRow.mapsOut == Try.checked.prog.mapsAmong Try.f21.resultTypes.toList) && (Rows.convOpensRow.loops == (Try.f21.params.toList ++ Rows.convOpensSpec.plain.varTypes Try.checked.prog).any (Try.checked.prog.loopsFrom ·)) && (Rows.convOpensRow.wideKeys == (Try.f21.params.toList ++ Rows.convOpensSpec.plain.varTypes Try.checked.prog ++ Try.f21.resultTypes.toList).any (Try.checked.prog.wideKeysFrom ·)) && (Rows.convOpensRow.ifacesOut == Try.f21.resultTypes.toList.any (Try.checked.prog.ifacesRec ·)) && (Rows.convOpensRow.loopsOut == Try.f21.resultTypes.toList.any (Try.checked.prog.loopsFrom ·))) = true := by kernel_rfl
theorem convOpens_a7 : (Rows.convOpensRow.plainKeys == Try.checked.prog.plainKeys) = true := by kernel_rfl
theorem convOpens_a8 : (Rows.convOpensRow.lifted == Try.checked.prog.liftsFinal) = true := by kernel_rfl
theorem convOpens_a9 : (Try.checked.prog.make == some Rows.convOpensRow.make) = true := by kernel_rfl
theorem convOpens_a10 : (Rows.convOpensRow.veiled == (Try.f21.params.toList ++ Rows.convOpensSpec.plain.varTypes Try.checked.prog ++ Try.f21.resultTypes.toList).any (Try.checked.prog.veiledRec ·)) = true := by kernel_rfl
theorem convOpens_a11 : Rows.convOpensRow.veiledFits Try.checked.prog Try.f21.params.toList (Try.f21.params.toList ++ Rows.convOpensSpec.plain.varTypes Try.checked.prog ++ Try.f21.resultTypes.toList) = true := by kernel_rfl
set_option maxRecDepth 100000 in
theorem convOpens_joined : joinedFacts Try.checked.prog 21 Try.f21 Rows.convOpensSpec Rows.convOpensRow = true :=
  joined_of (P := Try.checked.prog) (f := 21) (fn := Try.f21) (s := Rows.convOpensSpec) (c := Rows.convOpensRow) jf1 jf2 jf3 jf4 jf5 jf6 convOpens_a1 convOpens_a2 convOpens_a3 convOpens_a4 convOpens_a5 convOpens_a6 convOpens_a7 convOpens_a8 convOpens_a9 convOpens_a10 convOpens_a11
set_option maxRecDepth 100000 in
theorem convOpens_holds : Rows.ConvOpensSaid :=
  OpenClaim.holds_of_wide 21 Try.f21 rfl rfl rfl rfl rfl rfl rfl ⟨rfl, rfl, rfl, rfl, rfl⟩ rfl rfl rfl rfl rfl (by kernel_rfl) Try.func21 convOpens_joined
    (of_decide_eq_true (by kernel_rfl)) (by unfold Func.isWrapper; rw [if_neg (by decide +kernel)]; exact ⟨rfl, rfl⟩)
    (fun os started H enc _ => convOpens_lifted os started H enc)
end Go.Proofs.Ytnookbebiacaeaa
