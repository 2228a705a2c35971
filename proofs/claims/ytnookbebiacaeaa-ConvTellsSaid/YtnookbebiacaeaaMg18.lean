/-
  Several texts in one: O5.
-/
import Derived.Test.YtnookbebiacaeaaChecked
import Derived.Test.YtnookbebiacaeaaMg17

section
/-
  Events, as a law's arguments have them.
-/
namespace Go.Proofs.Ytnookbebiacaeaa
open Go.Eng

theorem Try.own : ownKnob Try.prog.godebug = none := by kernel_rfl
theorem Try.laidOut : laidOutB Try.prog = true := by kernel_rfl

def shI : Sh := .ki .i64
def shB : Sh := .kb
def shS : Sh := .ks
def shE : Sh := .kst [shI, shI, .ksl shI, shI, shI, shI, shI, shI, shI, shS, .ksl shI, shI]
def ofE (v : shE.Val) : Ev where
  a := v.1
  s := v.2.1
  cs := v.2.2.1
  k := v.2.2.2.1
  g := v.2.2.2.2.1
  t := v.2.2.2.2.2.1
  q := v.2.2.2.2.2.2.1
  w := v.2.2.2.2.2.2.2.1
  n := v.2.2.2.2.2.2.2.2.1
  x := v.2.2.2.2.2.2.2.2.2.1
  fs := v.2.2.2.2.2.2.2.2.2.2.1
  st := v.2.2.2.2.2.2.2.2.2.2.2.1
theorem rsE (l : List shE.Val) : AVEq (.rs 12 (l.map ofE).length (rE (l.map ofE))) (Sh.top (.ksl shE) l) := map_rs shE ofE Ev.av dE (fun _ => rfl) l rfl
theorem lenE {l : List shE.Val} (h : List.length l ≤ maxLen) : (l.map ofE).length < 2^63 := by
  rw [List.length_map]
  exact Nat.lt_of_le_of_lt h (by decide)
end Go.Proofs.Ytnookbebiacaeaa
end
