/-
  Holds and orders, as a law's arguments have them.
-/
import Derived.Test.YtklmfkejgjhneaaEngO
import Derived.Test.YtklmfkejgjhneaaH4
import Derived.Test.YtklmfkejgjhneaaChecked
namespace Go.Proofs.Ytklmfkejgjhneaa
open Go.Eng

theorem Try.own : ownKnob Try.prog.godebug = none := by kernel_rfl
theorem Try.laidOut : laidOutB Try.prog = true := by kernel_rfl

def shI : Sh := .ki .i64
def shH : Sh := .kst [shI, shI, shI, shI]
def ofH (v : shH.Val) : Hld := ⟨v.1, v.2.1, v.2.2.1, v.2.2.2.1⟩
def ofO (v : shH.Val) : Ord := ⟨v.1, v.2.1, v.2.2.1, v.2.2.2.1⟩
theorem rsH (l : List shH.Val) : AVEq (.rs 4 (l.map ofH).length (rowsH (l.map ofH))) (Sh.top (.ksl shH) l) := map_rs shH ofH Hld.av dH (fun _ => rfl) l rfl
theorem rsO (l : List shH.Val) : AVEq (.rs 4 (l.map ofO).length (rowsO (l.map ofO))) (Sh.top (.ksl shH) l) := map_rs shH ofO Ord.av dO (fun _ => rfl) l rfl
end Go.Proofs.Ytklmfkejgjhneaa
