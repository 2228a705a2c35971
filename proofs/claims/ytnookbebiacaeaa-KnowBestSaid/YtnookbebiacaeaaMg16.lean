/-
  Several texts in one: O1, O2.
-/
import Derived.Test.YtnookbebiacaeaaChecked
import Derived.Test.YtnookbebiacaeaaMg15

section
/-
  Notes and profiles, as a law's arguments have them.
-/
namespace Go.Proofs.Ytnookbebiacaeaa
open Go.Eng

theorem Try.own : ownKnob Try.prog.godebug = none := by kernel_rfl
theorem Try.laidOut : laidOutB Try.prog = true := by kernel_rfl

def shI : Sh := .ki .i64
def shB : Sh := .kb
def shN : Sh := .kst [shI, shI, shI, shI, shB]
def ofN (v : shN.Val) : Note := ⟨v.1, v.2.1, v.2.2.1, v.2.2.2.1, v.2.2.2.2.1⟩
theorem rsN (l : List shN.Val) : AVEq (.rs 5 (l.map ofN).length (rowsN (l.map ofN))) (Sh.top (.ksl shN) l) := map_rs shN ofN Note.av dN (fun _ => rfl) l rfl
end Go.Proofs.Ytnookbebiacaeaa
end

section
/-
  Formulas, as a law's arguments have them.
-/
namespace Go.Proofs.Ytnookbebiacaeaa
open Go.Eng

/-- The shape of a formula, to a depth. -/
def shF : Nat → Sh
  | 0 => .kst [shI, shI, shI, shI, .kx]
  | d + 1 => .kst [shI, shI, shI, shI, .ksl (shF d)]
def ofF : (d : Nat) → (shF d).Val → Fm
  | 0, v => .mk v.1 v.2.1 v.2.2.1 v.2.2.2.1 []
  | d + 1, v => .mk v.1 v.2.1 v.2.2.1 v.2.2.2.1 (List.map (ofF d) v.2.2.2.2.1)
theorem shF_sz (d : Nat) : (shF d).sz = 5 := by cases d <;> rfl
theorem getD_map {α β : Type} (g : α → β) (l : List α) (a : α) (b : β) {k : Nat} (h : k < l.length) : (l.map g).getD k b = g (l.getD k a) := by simp [List.getD, h]
theorem kids_w : ∀ (d : Nat) (l : List (shF d).Val) (f : Fm), f.args = l.map (ofF d) → ∀ k, k < l.length → AVWs (kidsD d f k) (Sh.av (shF d) (l.getD k (shF d).dv))
  | 0, l, f, _, k, _ => ⟨AVW.u _, AVW.u _, AVW.u _, AVW.u _, AVW.u _, trivial⟩
  | d + 1, l, f, hf, k, hk => by
    have e : f.args.getD k dF = ofF (d + 1) (l.getD k (shF (d + 1)).dv) := by rw [hf]; exact getD_map _ _ _ _ hk
    show AVWs [.i .i64 (f.args.getD k dF).op, .i .i64 (f.args.getD k dF).m, .i .i64 (f.args.getD k dF).w, .i .i64 (f.args.getD k dF).l, .rs 5 (f.args.getD k dF).args.length (kidsD d (f.args.getD k dF))] _
    rw [e]
    generalize l.getD k (shF (d + 1)).dv = v
    have hrec := kids_w d v.2.2.2.2.1 (ofF (d + 1) v) rfl
    have hl : (ofF (d + 1) v).args.length = List.length v.2.2.2.2.1 := List.length_map _
    have key : AVW (.rs 5 (ofF (d + 1) v).args.length (kidsD d (ofF (d + 1) v))) (.rs (shF d).sz (List.length v.2.2.2.2.1) fun k => Sh.av (shF d) (List.getD v.2.2.2.2.1 k (shF d).dv)) := by
      rw [shF_sz]
      exact AVW.rs' hl.symm fun j hj => hrec j (by rw [hl] at hj; exact hj)
    exact ⟨AVW.refl _, AVW.refl _, AVW.refl _, AVW.refl _, key, trivial⟩
theorem form_w (d : Nat) (v : (shF (d + 1)).Val) : AVW (.ag (avD d (ofF (d + 1) v))) (Sh.top (shF (d + 1)) v) := by
  have hrec := kids_w d v.2.2.2.2.1 (ofF (d + 1) v) rfl
  have hl : (ofF (d + 1) v).args.length = List.length v.2.2.2.2.1 := List.length_map _
  have key : AVW (.rs 5 (ofF (d + 1) v).args.length (kidsD d (ofF (d + 1) v))) (.rs (shF d).sz (List.length v.2.2.2.2.1) fun k => Sh.av (shF d) (List.getD v.2.2.2.2.1 k (shF d).dv)) := by
    rw [shF_sz]
    exact AVW.rs' hl.symm fun j hj => hrec j (by rw [hl] at hj; exact hj)
  exact AVW.ag ⟨AVW.refl _, AVW.refl _, AVW.refl _, AVW.refl _, key, trivial⟩
end Go.Proofs.Ytnookbebiacaeaa
end
