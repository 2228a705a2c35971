/-
  KnowMore returns true whatever the input, and the input reads behind the call as it read before.
-/
import Derived.Test.YtnookbebiacaeaaRows
import Derived.Test.YtnookbebiacaeaaChecked
import Derived.Test.YtnookbebiacaeaaMg18
namespace Go.Proofs.Ytnookbebiacaeaa
open Go.Eng Go.ChangeShapes Go.WideShapes Go.ChangeAt Go.RowKit

theorem knowMore_ctr (x : Sh.Vals [shF 8, .ksl shN, shB, shN]) (_hwf : Sh.wfs [shF 8, .ksl shN, shB, shN] x) (hsize : (((x.2.1 : List shN.Val)).length + 1) * 40 ≤ 140737488355328) : Ctr Try.prog 10 (Sh.tops [shF 8, .ksl shN, shB, shN] x) [] (.b true) :=
  Ctr.of_w (args := [.ag (avD 7 (ofF 8 x.1)), .rs 5 (x.2.1.map ofN).length (rowsN (x.2.1.map ofN)), .b x.2.2.1, .ag (ofN x.2.2.2.1).av]) ⟨form_w 7 _, AVW.of_eq (rsN _), AVW.refl _, AVW.refl _, trivial⟩ (knowMore_fn (ofF 8 x.1) (x.2.1.map ofN) x.2.2.1 (ofN x.2.2.2.1) (by have e : (x.2.1.map ofN).length = List.length x.2.1 := List.length_map _; omega))
set_option maxRecDepth 100000 in
theorem knowMore_lifted (os : Os) (started : os.Started) (H : Type) (enc : TypeId × Value → H) :
    ReturnsInHanded {} Try.checked os 10 .any (Rows.knowMoreSpec.pre6 enc Try.prog Try.f10 Rows.knowMoreRow.domain false) (Rows.knowMoreSpec.post enc Try.prog Try.f10 false true false false) := by
  refine returnsInHanded_of_change_sized (C := Try.checked) Try.own started (by kernel_rfl) Try.func10
    (ChangeSpec.witness6 (enc := enc) (C := Try.checked) false ⟨#[], #[.agg #[.int .i64 0, .int .i64 0, .int .i64 0, .int .i64 0, .slice none 0 0], .slice none 0 0, .bool false, .agg #[.int .i64 0, .int .i64 0, .int .i64 0, .int .i64 0, .bool false]], []⟩ 8 (by kernel_rfl) (by kernel_rfl) (by kernel_rfl) (by kernel_rfl)) ?_
  intro W base args ds gs before hval0 hW hcnd hsz _
  have hval : ∀ (j : Nat) t v, Try.f10.params[j]? = some t → args[j]? = some v → Value.okWide Try.prog W .any base t v := hval0
  have hW' := hW
  obtain ⟨p, q, hA0, hV, rfl, hfz, hnd⟩ := hW
  obtain ⟨rfl, rfl⟩ := trodVars_none hV
  obtain ⟨vs, rfl⟩ : ∃ vs : List Value, args = vs.toArray := ⟨args.toList, by simp⟩
  obtain ⟨x, hwf, hdl, hlen, hreps⟩ := open_all (P := Try.prog) (l := [shF 8, .ksl shN, shB, shN]) (ts := Try.f10.params.toList) (base := base) (shAll_ok (by kernel_rfl)) (fun j t v h1 h2 => hval j t v (by simpa using h1) (by simpa using h2)) hA0
  have hsize : (((x.2.1 : List shN.Val)).length + 1) * 40 ≤ 140737488355328 := by
    have hA1 := hA0
    obtain ⟨va, vsa, da, dsa, pa, qa, hz, hzd, rfl, _, hA1⟩ := trodAll_cons hA1
    obtain ⟨v1, vs1, d1, ds1, p1, q1, hve, hde, rfl, h1, _⟩ := trodAll_cons hA1
    subst hve
    have ev : vs = va :: v1 :: vs1 := by simpa using hz
    subst ev
    have hr1 := hreps 1 (by rw [hlen]; simp) (by simp)
    have hl0 : ((x.2.1 : List shN.Val)).length = 0 ∨ ∃ el sp, d1 = .slice el sp ∧ el.length = ((x.2.1 : List shN.Val)).length := slice_size (P := Try.prog) (t := 22) (e := 24) Try.underlying22 h1 hr1
    rcases hl0 with h0 | ⟨el, sp, rfl, hel⟩
    · rw [h0]; decide
    · have this : (el.length + sp.length) * Try.prog.bytesOf 24 ≤ reachBytes := sized_slice hsz (j := 1) (t := 22) (e := 24) rfl (by subst_vars; rfl) Try.underlying22
      rw [(by kernel_rfl : Try.prog.bytesOf 24 = 40)] at this
      have h47 : reachBytes = 140737488351232 := rfl
      rw [h47] at this
      omega
  refine ((knowMore_ctr x hwf hsize).2 W vs hlen hreps).mono ?_
  rintro e W' ⟨v, β, rfl, hb, _, hr⟩
  obtain rfl := hr.b_inv
  exact ⟨_, rfl, post_true Try.laidOut (by kernel_rfl) hW' rfl (by match ds, hdl with | [_, _, _, _], _ => rfl) rfl Try.underlying4 hb⟩

theorem knowMore_a1 : (Rows.knowMoreRow.wf (OpenSpec.ofChange Rows.knowMoreSpec) && Try.f10.params.all (Try.checked.prog.readableRec ·) && namedTie Try.checked.prog Rows.knowMoreRow.named Rows.knowMoreSpec.vars && (Rows.knowMoreRow.stops == []) && (Rows.knowMoreRow.knobs == []) && Rows.knowMoreSpec.vars.all (Try.checked.prog.varReadable ·) && Try.f10.resultTypes.all (fun t => Try.checked.prog.readableRec t && decide (t < Try.checked.prog.types.size)) && Rows.knowMoreRow.shortTexts.isNone && (Rows.knowMoreRow.kinds == (if Rows.knowMoreRow.domain.isEmpty then [] else Try.f10.params.toList.map fun t => match Try.checked.prog.underlying t with | some (.int k) => some k | _ => none)) && (Rows.knowMoreRow.pinned == Rows.knowMoreRow.pinnedBy)) = true := by kernel_rfl
theorem knowMore_a2 : (Rows.knowMoreRow.inPlace == Try.checked.prog.inPlace 10) = true := by kernel_rfl
theorem knowMore_a3 : (Rows.knowMoreRow.unfollowed == Try.checked.prog.unfollowed 10) = true := by kernel_rfl
theorem knowMore_a4 : (Rows.knowMoreRow.recurses == Try.checked.prog.recurses 10) = true := by kernel_rfl
theorem knowMore_a5 : (Rows.knowMoreRow.named == Try.checked.prog.varsNamed 10) = true := by kernel_rfl
theorem knowMore_a6 : ((Rows.knowMoreRow.maps == (Try.f10.params.toList ++ Rows.knowMoreSpec.plain.varTypes Try.checked.prog).any (Try.checked.prog.mapsRec ·)) && (Rows.knowMoreRow.ifaces == (Try.f10.params.toList ++ Rows.knowMoreSpec.plain.varTypes Try.checked.prog).any (Try.checked.prog.ifacesRec ·)) && (Rows.knowMoreRow.mapsOut == Try.checked.prog.mapsAmong Try.f10.resultTypes.toList) && (Rows.knowMoreRow.loops == (Try.f10.params.toList ++ Rows.knowMoreSpec.plain.varTypes Try.checked.prog).any (Try.checked.prog.loopsFrom ·)) && (Rows.knowMoreRow.wideKeys == (Try.f10.params.toList ++ Rows.knowMoreSpec.plain.varTypes Try.checked.prog ++ Try.f10.resultTypes.toList).any (Try.checked.prog.wideKeysFrom ·)) && (Rows.knowMoreRow.ifacesOut == Try.f10.resultTypes.toList.any (Try.checked.prog.ifacesRec ·)) && (Rows.knowMoreRow.loopsOut == Try.f10.resultTypes.toList.any (Try.checked.prog.loopsFrom ·))) = true := by kernel_rfl
theorem knowMore_a7 : (Rows.knowMoreRow.plainKeys == Try.checked.prog.plainKeys) = true := by kernel_rfl
theorem knowMore_a8 : (Rows.knowMoreRow.lifted == Try.checked.prog.liftsFinal) = true := by kernel_rfl
theorem knowMore_a9 : (Try.checked.prog.make == some Rows.knowMoreRow.make) = true := by kernel_rfl
theorem knowMore_a10 : (Rows.knowMoreRow.veiled == (Try.f10.params.toList ++ Rows.knowMoreSpec.plain.varTypes Try.checked.prog ++ Try.f10.resultTypes.toList).any (Try.checked.prog.veiledRec ·)) = true := by kernel_rfl
theorem knowMore_a11 : Rows.knowMoreRow.veiledFits Try.checked.prog Try.f10.params.toList (Try.f10.params.toList ++ Rows.knowMoreSpec.plain.varTypes Try.checked.prog ++ Try.f10.resultTypes.toList) = true := by kernel_rfl
set_option maxRecDepth 100000 in
theorem knowMore_joined : joinedFacts Try.checked.prog 10 Try.f10 Rows.knowMoreSpec Rows.knowMoreRow = true :=
  joined_of (P := Try.checked.prog) (f := 10) (fn := Try.f10) (s := Rows.knowMoreSpec) (c := Rows.knowMoreRow) jf1 jf2 jf3 jf4 jf5 jf6 knowMore_a1 knowMore_a2 knowMore_a3 knowMore_a4 knowMore_a5 knowMore_a6 knowMore_a7 knowMore_a8 knowMore_a9 knowMore_a10 knowMore_a11
set_option maxRecDepth 100000 in
theorem knowMore_holds : Rows.KnowMoreSaid :=
  OpenClaim.holds_of_wide 10 Try.f10 rfl rfl rfl rfl rfl rfl rfl ⟨rfl, rfl, rfl, rfl, rfl⟩ rfl rfl rfl rfl rfl (by kernel_rfl) Try.func10 knowMore_joined
    (of_decide_eq_true (by kernel_rfl)) (by unfold Func.isWrapper; rw [if_neg (by decide +kernel)]; exact ⟨rfl, rfl⟩)
    (fun os started H enc _ => knowMore_lifted os started H enc)
end Go.Proofs.Ytnookbebiacaeaa
