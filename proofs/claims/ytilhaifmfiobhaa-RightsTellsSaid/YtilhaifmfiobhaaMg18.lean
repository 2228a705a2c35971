/-
  Several texts in one: O1.
-/
import Derived.Test.YtilhaifmfiobhaaChecked
import Derived.Test.YtilhaifmfiobhaaMg17

section
/-
  Clauses, claims, proofs and grants, as a law's arguments have them.
-/
namespace Go.Proofs.Ytilhaifmfiobhaa
open Go.Eng

theorem Try.own : ownKnob Try.prog.godebug = none := by kernel_rfl
theorem Try.laidOut : laidOutB Try.prog = true := by kernel_rfl

def shI : Sh := .ki .i64
def shB : Sh := .kb
def shC : Sh := .kst [shI, shI]
def shP : Sh := .kst [shI, shI, shI]
def ofM (v : shC.Val) : Cm := ⟨v.1, v.2.1⟩
def ofP (v : shP.Val) : Pf := ⟨v.1, v.2.1, v.2.2.1⟩
def ofG (v : shP.Val) : Gt := ⟨v.1, v.2.1, v.2.2.1⟩
theorem rsM (l : List shC.Val) : AVEq (.rs 2 (l.map ofM).length (rowsM (l.map ofM))) (Sh.top (.ksl shC) l) := map_rs shC ofM Cm.av dCm (fun _ => rfl) l rfl
theorem rsP (l : List shP.Val) : AVEq (.rs 3 (l.map ofP).length (rowsP (l.map ofP))) (Sh.top (.ksl shP) l) := map_rs shP ofP Pf.av dPf (fun _ => rfl) l rfl
theorem rsG (l : List shP.Val) : AVEq (.rs 3 (l.map ofG).length (rowsG (l.map ofG))) (Sh.top (.ksl shP) l) := map_rs shP ofG Gt.av dGt (fun _ => rfl) l rfl
end Go.Proofs.Ytilhaifmfiobhaa
end
