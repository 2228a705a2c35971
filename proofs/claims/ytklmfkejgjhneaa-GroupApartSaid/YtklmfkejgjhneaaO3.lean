/-
  Events and grants, as a law's arguments have them.
-/
import Derived.Test.YtklmfkejgjhneaaEngO
import Derived.Test.YtklmfkejgjhneaaG2
import Derived.Test.YtklmfkejgjhneaaChecked
namespace Go.Proofs.Ytklmfkejgjhneaa
open Go.Eng

theorem Try.own : ownKnob Try.prog.godebug = none := by kernel_rfl
theorem Try.laidOut : laidOutB Try.prog = true := by kernel_rfl

def shI : Sh := .ki .i64
def shE : Sh := .kst [shI, shI, .ksl shI, shI, shI, shI, shI, shI, shI, .ks, .ksl shI, shI]
def shG : Sh := .kst [shI, shI, shI]
def ofE (v : shE.Val) : Ev := ⟨v.1, v.2.1, v.2.2.1, v.2.2.2.1, v.2.2.2.2.1, v.2.2.2.2.2.1, v.2.2.2.2.2.2.1, v.2.2.2.2.2.2.2.1, v.2.2.2.2.2.2.2.2.1, v.2.2.2.2.2.2.2.2.2.1, v.2.2.2.2.2.2.2.2.2.2.1, v.2.2.2.2.2.2.2.2.2.2.2.1⟩
def ofG (v : shG.Val) : Gra := ⟨v.1, v.2.1, v.2.2.1⟩
theorem rsE (l : List shE.Val) : AVEq (.rs 12 (l.map ofE).length (rowsE (l.map ofE))) (Sh.top (.ksl shE) l) := map_rs shE ofE Ev.av dE (fun _ => rfl) l rfl
theorem rsG (l : List shG.Val) : AVEq (.rs 3 (l.map ofG).length (rowsG (l.map ofG))) (Sh.top (.ksl shG) l) := map_rs shG ofG Gra.av dG (fun _ => rfl) l rfl
theorem evWf {l : List shE.Val} (h : Sh.wf (.ksl shE) l) : ∀ x ∈ l.map ofE, (Lit.int .i64 x.who).wf = true := by
  intro x hx
  rw [List.mem_map] at hx
  obtain ⟨v, hv, rfl⟩ := hx
  exact (h.2 v hv).2.2.2.2.2.2.2.1
end Go.Proofs.Ytklmfkejgjhneaa
