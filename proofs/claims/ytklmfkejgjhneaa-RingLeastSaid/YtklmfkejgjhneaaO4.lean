/-
  Bridges, as a law's arguments have them.
-/
import Derived.Test.YtklmfkejgjhneaaEngO
import Derived.Test.YtklmfkejgjhneaaR2
import Derived.Test.YtklmfkejgjhneaaChecked
namespace Go.Proofs.Ytklmfkejgjhneaa
open Go.Eng

theorem Try.own : ownKnob Try.prog.godebug = none := by kernel_rfl
theorem Try.laidOut : laidOutB Try.prog = true := by kernel_rfl

def shI : Sh := .ki .i64
def shB : Sh := .kst [shI, shI, .kb]
def ofB (v : shB.Val) : Bri := ⟨v.1, v.2.1, v.2.2.1⟩
def ofI (v : shI.Val) : Int := v
def avI (v : Int) : List AV := [.i .i64 v]
theorem rsB (l : List shB.Val) : AVEq (.rs 3 (l.map ofB).length (rowsB (l.map ofB))) (Sh.top (.ksl shB) l) := map_rs shB ofB Bri.av dB (fun _ => rfl) l rfl
theorem rsI (l : List shI.Val) : AVEq (.rs 1 (l.map ofI).length (rowsI (l.map ofI))) (Sh.top (.ksl shI) l) := map_rs shI ofI avI 0 (fun _ => rfl) l rfl
end Go.Proofs.Ytklmfkejgjhneaa
