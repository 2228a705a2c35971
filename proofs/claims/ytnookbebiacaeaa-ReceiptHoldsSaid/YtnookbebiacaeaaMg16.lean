/-
  Several texts in one: O1.
-/
import Derived.Test.YtnookbebiacaeaaChecked
import Derived.Test.YtnookbebiacaeaaMg15

section
/-
  Notes and profiles, as a law's arguments have them.
-/
namespace Go.Proofs.Ytnookbebiacaeaa
open Go.Eng

theorem Try.own : ownKnob Try.prog.godebug = none := by kernel_rfl
theorem Try.laidOut : laidOutB Try.prog = true := by kernel_rfl

def shI : Sh := .ki .i64
def shB : Sh := .kb
def shS : Sh := .ks
def shN : Sh := .kst [shI, shI, shI, shI, shB]
def shPr : Sh := .kst [shS, shI, shI, shI, shB, shI, shB, shB, shI, shI, shI, shI, .ksl shS, shI, shI, shI, shI, shB, shI, shI, shI, shI]
def ofN (v : shN.Val) : Note := ⟨v.1, v.2.1, v.2.2.1, v.2.2.2.1, v.2.2.2.2.1⟩
def ofPr (v : shPr.Val) : Prof where
  nm := v.1
  a1 := v.2.1
  a2 := v.2.2.1
  a3 := v.2.2.2.1
  b4 := v.2.2.2.2.1
  a5 := v.2.2.2.2.2.1
  b6 := v.2.2.2.2.2.2.1
  b7 := v.2.2.2.2.2.2.2.1
  a8 := v.2.2.2.2.2.2.2.2.1
  a9 := v.2.2.2.2.2.2.2.2.2.1
  a10 := v.2.2.2.2.2.2.2.2.2.2.1
  a11 := v.2.2.2.2.2.2.2.2.2.2.2.1
  tn := List.length v.2.2.2.2.2.2.2.2.2.2.2.2.1
  ty := fun k => Sh.av shS (List.getD v.2.2.2.2.2.2.2.2.2.2.2.2.1 k shS.dv)
  a13 := v.2.2.2.2.2.2.2.2.2.2.2.2.2.1
  a14 := v.2.2.2.2.2.2.2.2.2.2.2.2.2.2.1
  a15 := v.2.2.2.2.2.2.2.2.2.2.2.2.2.2.2.1
  lv := v.2.2.2.2.2.2.2.2.2.2.2.2.2.2.2.2.1
  b17 := v.2.2.2.2.2.2.2.2.2.2.2.2.2.2.2.2.2.1
  a18 := v.2.2.2.2.2.2.2.2.2.2.2.2.2.2.2.2.2.2.1
  a19 := v.2.2.2.2.2.2.2.2.2.2.2.2.2.2.2.2.2.2.2.1
  a20 := v.2.2.2.2.2.2.2.2.2.2.2.2.2.2.2.2.2.2.2.2.1
  a21 := v.2.2.2.2.2.2.2.2.2.2.2.2.2.2.2.2.2.2.2.2.2.1
theorem rsN (l : List shN.Val) : AVEq (.rs 5 (l.map ofN).length (rowsN (l.map ofN))) (Sh.top (.ksl shN) l) := map_rs shN ofN Note.av dN (fun _ => rfl) l rfl
theorem agPr (v : shPr.Val) : AVEq (.ag (ofPr v).av) (Sh.top shPr v) := AVEq.refl _
end Go.Proofs.Ytnookbebiacaeaa
end
