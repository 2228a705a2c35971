/-
  RingSettles returns true whatever the input, and the input reads behind the call as it read before.
-/
import Derived.Test.YtklmfkejgjhneaaR15
import Derived.Test.YtklmfkejgjhneaaO4
import Derived.Test.YtklmfkejgjhneaaRows
import Derived.Test.YtklmfkejgjhneaaChecked
namespace Go.Proofs.Ytklmfkejgjhneaa
open Go.Eng Go.ChangeShapes Go.WideShapes Go.ChangeAt Go.RowKit

theorem ringSettles_ctr (x : Sh.Vals [.ksl shB, shI, .ki .u8]) (_hwf : Sh.wfs [.ksl shB, shI, .ki .u8] x) : Ctr Try.prog 16 (Sh.tops [.ksl shB, shI, .ki .u8] x) [] (.b true) :=
  Ctr.of_eq (args := [.rs 3 (x.1.map ofB).length (rowsB (x.1.map ofB)), .i .i64 x.2.1, .i .u8 x.2.2.1]) ⟨rsB _, AVEq.refl _, AVEq.refl _⟩ (ringSettles_fn (x.1.map ofB) x.2.1 x.2.2.1 _hwf.2.2.1)
set_option maxRecDepth 100000 in
theorem ringSettles_lifted (os : Os) (started : os.Started) (H : Type) (enc : TypeId × Value → H) :
    ReturnsInHanded {} Try.checked os 16 .any (Rows.ringSettlesSpec.pre6 enc Try.prog Try.f16 Rows.ringSettlesRow.domain false) (Rows.ringSettlesSpec.post enc Try.prog Try.f16 false true false false) := by
  refine returnsInHanded_of_change (C := Try.checked) Try.own started (by kernel_rfl) Try.func16
    (ChangeSpec.witness6 (enc := enc) (C := Try.checked) false ⟨#[], #[.slice none 0 0, .int .i64 0, .int .u8 0], []⟩ 8 (by kernel_rfl) (by kernel_rfl) (by kernel_rfl) (by kernel_rfl)) ?_
  intro W base args ds gs before hval0 hW hcnd _
  have hval : ∀ (j : Nat) t v, Try.f16.params[j]? = some t → args[j]? = some v → Value.okWide Try.prog W .any base t v := hval0
  have hW' := hW
  obtain ⟨p, q, hA0, hV, rfl, hfz, hnd⟩ := hW
  obtain ⟨rfl, rfl⟩ := trodVars_none hV
  obtain ⟨vs, rfl⟩ : ∃ vs : List Value, args = vs.toArray := ⟨args.toList, by simp⟩
  obtain ⟨x, hwf, hdl, hlen, hreps⟩ := open_all (P := Try.prog) (l := [.ksl shB, shI, .ki .u8]) (ts := Try.f16.params.toList) (base := base) (shAll_ok (by kernel_rfl)) (fun j t v h1 h2 => hval j t v (by simpa using h1) (by simpa using h2)) hA0
  refine ((ringSettles_ctr x hwf).2 W vs hlen hreps).mono ?_
  rintro e W' ⟨v, β, rfl, hb, _, hr⟩
  obtain rfl := hr.b_inv
  exact ⟨_, rfl, post_true Try.laidOut (by kernel_rfl) hW' rfl (by match ds, hdl with | [_, _, _], _ => rfl) rfl Try.underlying4 hb⟩

theorem ringSettles_holds : Rows.RingSettlesSaid :=
  OpenClaim.holds_of_wide 16 Try.f16 rfl rfl rfl rfl rfl rfl rfl ⟨rfl, rfl, rfl, rfl, rfl⟩ rfl rfl rfl rfl rfl (by kernel_rfl) Try.func16 (by kernel_rfl)
    (of_decide_eq_true (by kernel_rfl)) (by unfold Func.isWrapper; rw [if_neg (by decide +kernel)]; exact ⟨rfl, rfl⟩)
    (fun os started H enc _ => ringSettles_lifted os started H enc)
end Go.Proofs.Ytklmfkejgjhneaa
