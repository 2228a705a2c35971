/-
  Several texts in one: O1.
-/
import Derived.Test.YtnookbebiacaeaaChecked
import Derived.Test.YtnookbebiacaeaaMg15

section
/-
  Notes and profiles, as a law's arguments have them.
-/
namespace Go.Proofs.Ytnookbebiacaeaa
open Go.Eng

theorem Try.own : ownKnob Try.prog.godebug = none := by kernel_rfl
theorem Try.laidOut : laidOutB Try.prog = true := by kernel_rfl

def shI : Sh := .ki .i64
def shB : Sh := .kb
def shN : Sh := .kst [shI, shI, shI, shI, shB]
def ofN (v : shN.Val) : Note := ⟨v.1, v.2.1, v.2.2.1, v.2.2.2.1, v.2.2.2.2.1⟩
theorem rsN (l : List shN.Val) : AVEq (.rs 5 (l.map ofN).length (rowsN (l.map ofN))) (Sh.top (.ksl shN) l) := map_rs shN ofN Note.av dN (fun _ => rfl) l rfl
end Go.Proofs.Ytnookbebiacaeaa
end
