/-
  Several texts in one: O6.
-/
import Derived.Test.YtnookbebiacaeaaChecked
import Derived.Test.YtnookbebiacaeaaMg23

section
namespace Go.Proofs.Ytnookbebiacaeaa
open Go.Eng
theorem Try.own : ownKnob Try.prog.godebug = none := by kernel_rfl
theorem Try.laidOut : laidOutB Try.prog = true := by kernel_rfl
def shI : Sh := .ki .i64
def shB : Sh := .kb
def shS : Sh := .ks
def shO : Sh := .kst [shI, shI, shI, shS]
def ofO (v : shO.Val) : Opn where
 d := v.1
 t := v.2.1
 n := v.2.2.1
 x := v.2.2.2.1
theorem rsO (l : List shO.Val) : AVEq (.rs 4 (l.map ofO).length (rOp (l.map ofO))) (Sh.top (.ksl shO) l) := map_rs shO ofO Opn.av dOp (fun _ => rfl) l rfl
theorem lenO {l : List shO.Val} (h : List.length l ≤ maxLen) : (l.map ofO).length < 2^63 := by
 rw [List.length_map]
 exact Nat.lt_of_le_of_lt h (by decide)
end Go.Proofs.Ytnookbebiacaeaa
end
