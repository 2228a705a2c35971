/-
  RightsTells returns true whatever the input, and the input reads behind the call as it read before.
-/
import Derived.Test.YtilhaifmfiobhaaRows
import Derived.Test.YtilhaifmfiobhaaChecked
import Derived.Test.YtilhaifmfiobhaaMg18
namespace Go.Proofs.Ytilhaifmfiobhaa
open Go.Eng Go.ChangeShapes Go.WideShapes Go.ChangeAt Go.RowKit

theorem rightsTells_ctr (x : Sh.Vals [.ksl shC, .ksl shP, .ksl shP, shI, shI, shI, shP, shI]) (_hwf : Sh.wfs [.ksl shC, .ksl shP, .ksl shP, shI, shI, shI, shP, shI] x) : Ctr Try.prog 17 (Sh.tops [.ksl shC, .ksl shP, .ksl shP, shI, shI, shI, shP, shI] x) [] (.b true) :=
  Ctr.of_eq (args := [.rs 2 (x.1.map ofM).length (rowsM (x.1.map ofM)), .rs 3 (x.2.1.map ofP).length (rowsP (x.2.1.map ofP)), .rs 3 (x.2.2.1.map ofG).length (rowsG (x.2.2.1.map ofG)), .i .i64 x.2.2.2.1, .i .i64 x.2.2.2.2.1, .i .i64 x.2.2.2.2.2.1, .ag (ofP x.2.2.2.2.2.2.1).av, .i .i64 x.2.2.2.2.2.2.2.1]) ⟨rsM _, rsP _, rsG _, AVEq.refl _, AVEq.refl _, AVEq.refl _, AVEq.refl _, AVEq.refl _⟩ (rightsTells_fn (x.1.map ofM) (x.2.1.map ofP) (x.2.2.1.map ofG) x.2.2.2.1 x.2.2.2.2.1 x.2.2.2.2.2.1 (ofP x.2.2.2.2.2.2.1) x.2.2.2.2.2.2.2.1)
set_option maxRecDepth 100000 in
theorem rightsTells_lifted (os : Os) (started : os.Started) (H : Type) (enc : TypeId × Value → H) :
    ReturnsInHanded {} Try.checked os 17 .any (Rows.rightsTellsSpec.pre6 enc Try.prog Try.f17 Rows.rightsTellsRow.domain false) (Rows.rightsTellsSpec.post enc Try.prog Try.f17 false true false false) := by
  refine returnsInHanded_of_change (C := Try.checked) Try.own started (by kernel_rfl) Try.func17
    (ChangeSpec.witness6 (enc := enc) (C := Try.checked) false ⟨#[], #[.slice none 0 0, .slice none 0 0, .slice none 0 0, .int .i64 0, .int .i64 0, .int .i64 0, .agg #[.int .i64 0, .int .i64 0, .int .i64 0], .int .i64 0], []⟩ 8 (by kernel_rfl) (by kernel_rfl) (by kernel_rfl) (by kernel_rfl)) ?_
  intro W base args ds gs before hval0 hW hcnd _
  have hval : ∀ (j : Nat) t v, Try.f17.params[j]? = some t → args[j]? = some v → Value.okWide Try.prog W .any base t v := hval0
  have hW' := hW
  obtain ⟨p, q, hA0, hV, rfl, hfz, hnd⟩ := hW
  obtain ⟨rfl, rfl⟩ := trodVars_none hV
  obtain ⟨vs, rfl⟩ : ∃ vs : List Value, args = vs.toArray := ⟨args.toList, by simp⟩
  obtain ⟨x, hwf, hdl, hlen, hreps⟩ := open_all (P := Try.prog) (l := [.ksl shC, .ksl shP, .ksl shP, shI, shI, shI, shP, shI]) (ts := Try.f17.params.toList) (base := base) (shAll_ok (by kernel_rfl)) (fun j t v h1 h2 => hval j t v (by simpa using h1) (by simpa using h2)) hA0
  refine ((rightsTells_ctr x hwf).2 W vs hlen hreps).mono ?_
  rintro e W' ⟨v, β, rfl, hb, _, hr⟩
  obtain rfl := hr.b_inv
  exact ⟨_, rfl, post_true Try.laidOut (by kernel_rfl) hW' rfl (by match ds, hdl with | [_, _, _, _, _, _, _, _], _ => rfl) rfl Try.underlying4 hb⟩

theorem rightsTells_holds : Rows.RightsTellsSaid :=
  OpenClaim.holds_of_wide 17 Try.f17 rfl rfl rfl rfl rfl rfl rfl ⟨rfl, rfl, rfl, rfl, rfl⟩ rfl rfl rfl rfl rfl (by kernel_rfl) Try.func17 (by kernel_rfl)
    (of_decide_eq_true (by kernel_rfl)) (by unfold Func.isWrapper; rw [if_neg (by decide +kernel)]; exact ⟨rfl, rfl⟩)
    (fun os started H enc _ => rightsTells_lifted os started H enc)
end Go.Proofs.Ytilhaifmfiobhaa
