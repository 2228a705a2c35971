/-
  RingLeast returns true whatever the input, and the input reads behind the call as it read before.
-/
import Derived.Test.YtklmfkejgjhneaaR16
import Derived.Test.YtklmfkejgjhneaaO4
import Derived.Test.YtklmfkejgjhneaaRows
import Derived.Test.YtklmfkejgjhneaaChecked
namespace Go.Proofs.Ytklmfkejgjhneaa
open Go.Eng Go.ChangeShapes Go.WideShapes Go.ChangeAt Go.RowKit

theorem ringLeast_ctr (x : Sh.Vals [.ksl shB, shI, .ksl shI, .ki .u8]) (_hwf : Sh.wfs [.ksl shB, shI, .ksl shI, .ki .u8] x) : Ctr Try.prog 17 (Sh.tops [.ksl shB, shI, .ksl shI, .ki .u8] x) [] (.b true) :=
  Ctr.of_eq (args := [.rs 3 (x.1.map ofB).length (rowsB (x.1.map ofB)), .i .i64 x.2.1, .rs 1 (x.2.2.1.map ofI).length (rowsI (x.2.2.1.map ofI)), .i .u8 x.2.2.2.1]) ⟨rsB _, AVEq.refl _, rsI _, AVEq.refl _⟩ (ringLeast_fn (x.1.map ofB) x.2.1 (x.2.2.1.map ofI) x.2.2.2.1 _hwf.2.2.2.1)
set_option maxRecDepth 100000 in
theorem ringLeast_lifted (os : Os) (started : os.Started) (H : Type) (enc : TypeId × Value → H) :
    ReturnsInHanded {} Try.checked os 17 .any (Rows.ringLeastSpec.pre6 enc Try.prog Try.f17 Rows.ringLeastRow.domain false) (Rows.ringLeastSpec.post enc Try.prog Try.f17 false true false false) := by
  refine returnsInHanded_of_change (C := Try.checked) Try.own started (by kernel_rfl) Try.func17
    (ChangeSpec.witness6 (enc := enc) (C := Try.checked) false ⟨#[], #[.slice none 0 0, .int .i64 0, .slice none 0 0, .int .u8 0], []⟩ 8 (by kernel_rfl) (by kernel_rfl) (by kernel_rfl) (by kernel_rfl)) ?_
  intro W base args ds gs before hval0 hW hcnd _
  have hval : ∀ (j : Nat) t v, Try.f17.params[j]? = some t → args[j]? = some v → Value.okWide Try.prog W .any base t v := hval0
  have hW' := hW
  obtain ⟨p, q, hA0, hV, rfl, hfz, hnd⟩ := hW
  obtain ⟨rfl, rfl⟩ := trodVars_none hV
  obtain ⟨vs, rfl⟩ : ∃ vs : List Value, args = vs.toArray := ⟨args.toList, by simp⟩
  obtain ⟨x, hwf, hdl, hlen, hreps⟩ := open_all (P := Try.prog) (l := [.ksl shB, shI, .ksl shI, .ki .u8]) (ts := Try.f17.params.toList) (base := base) (shAll_ok (by kernel_rfl)) (fun j t v h1 h2 => hval j t v (by simpa using h1) (by simpa using h2)) hA0
  refine ((ringLeast_ctr x hwf).2 W vs hlen hreps).mono ?_
  rintro e W' ⟨v, β, rfl, hb, _, hr⟩
  obtain rfl := hr.b_inv
  exact ⟨_, rfl, post_true Try.laidOut (by kernel_rfl) hW' rfl (by match ds, hdl with | [_, _, _, _], _ => rfl) rfl Try.underlying4 hb⟩

theorem ringLeast_holds : Rows.RingLeastSaid :=
  OpenClaim.holds_of_wide 17 Try.f17 rfl rfl rfl rfl rfl rfl rfl ⟨rfl, rfl, rfl, rfl, rfl⟩ rfl rfl rfl rfl rfl (by kernel_rfl) Try.func17 (by kernel_rfl)
    (of_decide_eq_true (by kernel_rfl)) (by unfold Func.isWrapper; rw [if_neg (by decide +kernel)]; exact ⟨rfl, rfl⟩)
    (fun os started H enc _ => ringLeast_lifted os started H enc)
end Go.Proofs.Ytklmfkejgjhneaa
