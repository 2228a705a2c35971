/-
  The types that the functions name, as the engine's table.
-/
import Derived.Test.YtilkcfabbilcbaaEng13
import Derived.Test.YtilkcfabbilcbaaProg
import Derived.KernelRfl
namespace Go.Proofs.Ytilkcfabbilcbaa
open Go.Eng
def ti22 : TI := ⟨(.slice 30), false, 1, 24, (.slice none 0 0)⟩   -- []api.Note
theorem tiOk22 : TIOk Try.prog 22 ti22 := TIOk.of (by kernel_rfl) rfl (by kernel_rfl)
def ti3 : TI := ⟨(.int .i64), false, 1, 8, (.int .i64 0)⟩   -- int
theorem tiOk3 : TIOk Try.prog 3 ti3 := TIOk.of (by kernel_rfl) rfl (by kernel_rfl)
def ti4 : TI := ⟨.bool, false, 1, 1, (.bool false)⟩   -- bool
theorem tiOk4 : TIOk Try.prog 4 ti4 := TIOk.of (by kernel_rfl) rfl (by kernel_rfl)
def ti30 : TI := ⟨(.struct #[⟨ "Message", 3, 0, false, "", "", 0⟩, ⟨ "Who", 3, 1, false, "", "", 8⟩, ⟨ "Level", 3, 2, false, "", "", 16⟩, ⟨ "Step", 3, 3, false, "", "", 24⟩, ⟨ "Not", 4, 4, false, "", "", 32⟩]), true, 5, 40, (.agg #[(.int .i64 0), (.int .i64 0), (.int .i64 0), (.int .i64 0), (.bool false)])⟩   -- api.Note
theorem tiOk30 : TIOk Try.prog 30 ti30 := TIOk.of (by kernel_rfl) rfl (by kernel_rfl)
def ti5 : TI := ⟨(.int .u8), false, 1, 1, (.int .u8 0)⟩   -- uint8
theorem tiOk5 : TIOk Try.prog 5 ti5 := TIOk.of (by kernel_rfl) rfl (by kernel_rfl)
def ti38 : TI := ⟨(.struct #[⟨ "message", 3, 0, false, "", "lingua/levels", 0⟩, ⟨ "who", 3, 1, false, "", "lingua/levels", 8⟩]), true, 2, 16, (.agg #[(.int .i64 0), (.int .i64 0)])⟩   -- levels.pair
theorem tiOk38 : TIOk Try.prog 38 ti38 := TIOk.of (by kernel_rfl) rfl (by kernel_rfl)

def T : List (Nat × TI) := [(22, ti22), (3, ti3), (4, ti4), (30, ti30), (5, ti5), (38, ti38)]
theorem mixedOk : Try.prog.follows .mixedOrders = true := by kernel_rfl
theorem tabOk : TabOk Try.prog T := ⟨tiOk22, tiOk3, tiOk4, tiOk30, tiOk5, tiOk38, mixedOk⟩
end Go.Proofs.Ytilkcfabbilcbaa
