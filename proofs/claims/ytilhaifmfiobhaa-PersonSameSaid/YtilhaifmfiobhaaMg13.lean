/-
  Several texts in one: Tab.
-/
import Derived.Test.YtilhaifmfiobhaaProg
import Derived.KernelRfl
import Derived.Test.YtilhaifmfiobhaaMg12

section
/-
  The types that the functions name, as the engine's table.
-/
namespace Go.Proofs.Ytilhaifmfiobhaa
open Go.Eng
def ti25 : TI := ⟨(.struct #[⟨ "A", 3, 0, false, "", "", 0⟩, ⟨ "B", 3, 1, false, "", "", 8⟩]), true, 2, 16, (.agg #[(.int .i64 0), (.int .i64 0)]), true⟩   -- api.Clause
theorem tiOk25 : TIOk Try.prog 25 ti25 := TIOk.of (by kernel_rfl) rfl (by kernel_rfl)
theorem cmpOk25 : ti25.cmp = true → structCmpB Try.prog 25 = true := fun _ => by kernel_rfl
def ti22 : TI := ⟨(.slice 25), false, 1, 24, (.slice none 0 0), false⟩   -- []api.Clause
theorem tiOk22 : TIOk Try.prog 22 ti22 := TIOk.of (by kernel_rfl) rfl (by kernel_rfl)
theorem cmpOk22 : ti22.cmp = true → structCmpB Try.prog 22 = true := fun h => by cases h
def ti3 : TI := ⟨(.int .i64), false, 1, 8, (.int .i64 0), false⟩   -- int
theorem tiOk3 : TIOk Try.prog 3 ti3 := TIOk.of (by kernel_rfl) rfl (by kernel_rfl)
theorem cmpOk3 : ti3.cmp = true → structCmpB Try.prog 3 = true := fun h => by cases h
def ti23 : TI := ⟨(.slice 3), false, 1, 24, (.slice none 0 0), false⟩   -- []int
theorem tiOk23 : TIOk Try.prog 23 ti23 := TIOk.of (by kernel_rfl) rfl (by kernel_rfl)
theorem cmpOk23 : ti23.cmp = true → structCmpB Try.prog 23 = true := fun h => by cases h
def ti4 : TI := ⟨.bool, false, 1, 1, (.bool false), false⟩   -- bool
theorem tiOk4 : TIOk Try.prog 4 ti4 := TIOk.of (by kernel_rfl) rfl (by kernel_rfl)
theorem cmpOk4 : ti4.cmp = true → structCmpB Try.prog 4 = true := fun h => by cases h
def ti30 : TI := ⟨(.int .i64), false, 1, 8, (.int .i64 0), false⟩   -- api.Errno
theorem tiOk30 : TIOk Try.prog 30 ti30 := TIOk.of (by kernel_rfl) rfl (by kernel_rfl)
theorem cmpOk30 : ti30.cmp = true → structCmpB Try.prog 30 = true := fun h => by cases h
def ti29 : TI := ⟨(.slice 4), false, 1, 24, (.slice none 0 0), false⟩   -- []bool
theorem tiOk29 : TIOk Try.prog 29 ti29 := TIOk.of (by kernel_rfl) rfl (by kernel_rfl)
theorem cmpOk29 : ti29.cmp = true → structCmpB Try.prog 29 = true := fun h => by cases h
def ti43 : TI := ⟨(.slice 55), false, 1, 24, (.slice none 0 0), false⟩   -- []api.Proof
theorem tiOk43 : TIOk Try.prog 43 ti43 := TIOk.of (by kernel_rfl) rfl (by kernel_rfl)
theorem cmpOk43 : ti43.cmp = true → structCmpB Try.prog 43 = true := fun h => by cases h
def ti42 : TI := ⟨(.slice 73), false, 1, 24, (.slice none 0 0), false⟩   -- []api.Claim
theorem tiOk42 : TIOk Try.prog 42 ti42 := TIOk.of (by kernel_rfl) rfl (by kernel_rfl)
theorem cmpOk42 : ti42.cmp = true → structCmpB Try.prog 42 = true := fun h => by cases h
def ti5 : TI := ⟨(.int .u8), false, 1, 1, (.int .u8 0), false⟩   -- uint8
theorem tiOk5 : TIOk Try.prog 5 ti5 := TIOk.of (by kernel_rfl) rfl (by kernel_rfl)
theorem cmpOk5 : ti5.cmp = true → structCmpB Try.prog 5 = true := fun h => by cases h
def ti55 : TI := ⟨(.struct #[⟨ "Kind", 3, 0, false, "", "", 0⟩, ⟨ "A", 3, 1, false, "", "", 8⟩, ⟨ "B", 3, 2, false, "", "", 16⟩]), true, 3, 24, (.agg #[(.int .i64 0), (.int .i64 0), (.int .i64 0)]), true⟩   -- api.Proof
theorem tiOk55 : TIOk Try.prog 55 ti55 := TIOk.of (by kernel_rfl) rfl (by kernel_rfl)
theorem cmpOk55 : ti55.cmp = true → structCmpB Try.prog 55 = true := fun _ => by kernel_rfl
def ti57 : TI := ⟨(.slice 29), false, 1, 24, (.slice none 0 0), false⟩   -- [][]bool
theorem tiOk57 : TIOk Try.prog 57 ti57 := TIOk.of (by kernel_rfl) rfl (by kernel_rfl)
theorem cmpOk57 : ti57.cmp = true → structCmpB Try.prog 57 = true := fun h => by cases h
def ti68 : TI := ⟨(.struct #[⟨ "Group", 3, 0, false, "", "", 0⟩, ⟨ "Person", 3, 1, false, "", "", 8⟩, ⟨ "Rights", 3, 2, false, "", "", 16⟩]), true, 3, 24, (.agg #[(.int .i64 0), (.int .i64 0), (.int .i64 0)]), true⟩   -- api.Grant
theorem tiOk68 : TIOk Try.prog 68 ti68 := TIOk.of (by kernel_rfl) rfl (by kernel_rfl)
theorem cmpOk68 : ti68.cmp = true → structCmpB Try.prog 68 = true := fun _ => by kernel_rfl
def ti66 : TI := ⟨(.slice 68), false, 1, 24, (.slice none 0 0), false⟩   -- []api.Grant
theorem tiOk66 : TIOk Try.prog 66 ti66 := TIOk.of (by kernel_rfl) rfl (by kernel_rfl)
theorem cmpOk66 : ti66.cmp = true → structCmpB Try.prog 66 = true := fun h => by cases h
def ti73 : TI := ⟨(.struct #[⟨ "Account", 3, 0, false, "", "", 0⟩, ⟨ "Person", 3, 1, false, "", "", 8⟩]), true, 2, 16, (.agg #[(.int .i64 0), (.int .i64 0)]), true⟩   -- api.Claim
theorem tiOk73 : TIOk Try.prog 73 ti73 := TIOk.of (by kernel_rfl) rfl (by kernel_rfl)
theorem cmpOk73 : ti73.cmp = true → structCmpB Try.prog 73 = true := fun _ => by kernel_rfl
def ti93 : TI := ⟨(.func #[3] #[4] false), false, 1, 8, .nilFunc, false⟩   -- func(int) bool
theorem tiOk93 : TIOk Try.prog 93 ti93 := TIOk.of (by kernel_rfl) rfl (by kernel_rfl)
theorem cmpOk93 : ti93.cmp = true → structCmpB Try.prog 93 = true := fun h => by cases h
def ti87 : TI := ⟨(.map 3 23), false, 1, 8, (.map none), false⟩   -- sat.implied
theorem tiOk87 : TIOk Try.prog 87 ti87 := TIOk.of (by kernel_rfl) rfl (by kernel_rfl)
theorem cmpOk87 : ti87.cmp = true → structCmpB Try.prog 87 = true := fun h => by cases h
def ti100 : TI := ⟨(.map 73 4), false, 1, 8, (.map none), false⟩   -- map[api.Claim]bool
theorem tiOk100 : TIOk Try.prog 100 ti100 := TIOk.of (by kernel_rfl) rfl (by kernel_rfl)
theorem cmpOk100 : ti100.cmp = true → structCmpB Try.prog 100 = true := fun h => by cases h
def ti117 : TI := ⟨(.map 3 4), false, 1, 8, (.map none), false⟩   -- map[int]bool
theorem tiOk117 : TIOk Try.prog 117 ti117 := TIOk.of (by kernel_rfl) rfl (by kernel_rfl)
theorem cmpOk117 : ti117.cmp = true → structCmpB Try.prog 117 = true := fun h => by cases h
def ti127 : TI := ⟨(.map 3 3), false, 1, 8, (.map none), false⟩   -- map[int]int
theorem tiOk127 : TIOk Try.prog 127 ti127 := TIOk.of (by kernel_rfl) rfl (by kernel_rfl)
theorem cmpOk127 : ti127.cmp = true → structCmpB Try.prog 127 = true := fun h => by cases h
def ti133 : TI := ⟨(.struct #[⟨ "claims", 42, 0, false, "", "lingua/rights", 0⟩, ⟨ "clauses", 22, 1, false, "", "lingua/rights", 24⟩, ⟨ "has", 117, 2, false, "", "lingua/rights", 48⟩]), true, 3, 56, (.agg #[(.slice none 0 0), (.slice none 0 0), (.map none)]), false⟩   -- rights.problem
theorem tiOk133 : TIOk Try.prog 133 ti133 := TIOk.of (by kernel_rfl) rfl (by kernel_rfl)
theorem cmpOk133 : ti133.cmp = true → structCmpB Try.prog 133 = true := fun h => by cases h
def ti136 : TI := ⟨(.int .u64), false, 1, 8, (.int .u64 0), false⟩   -- uint
theorem tiOk136 : TIOk Try.prog 136 ti136 := TIOk.of (by kernel_rfl) rfl (by kernel_rfl)
theorem cmpOk136 : ti136.cmp = true → structCmpB Try.prog 136 = true := fun h => by cases h
def ti137 : TI := ⟨(.func #[3] #[] false), false, 1, 8, .nilFunc, false⟩   -- func(int)
theorem tiOk137 : TIOk Try.prog 137 ti137 := TIOk.of (by kernel_rfl) rfl (by kernel_rfl)
theorem cmpOk137 : ti137.cmp = true → structCmpB Try.prog 137 = true := fun h => by cases h
def ti141 : TI := ⟨(.int .i64), false, 1, 8, (.int .i64 0), false⟩   -- slices.sortedHint
theorem tiOk141 : TIOk Try.prog 141 ti141 := TIOk.of (by kernel_rfl) rfl (by kernel_rfl)
theorem cmpOk141 : ti141.cmp = true → structCmpB Try.prog 141 = true := fun h => by cases h
def ti149 : TI := ⟨(.int .u32), false, 1, 4, (.int .u32 0), false⟩   -- uint32
theorem tiOk149 : TIOk Try.prog 149 ti149 := TIOk.of (by kernel_rfl) rfl (by kernel_rfl)
theorem cmpOk149 : ti149.cmp = true → structCmpB Try.prog 149 = true := fun h => by cases h
def ti153 : TI := ⟨(.int .u64), false, 1, 8, (.int .u64 0), false⟩   -- slices.xorshift
theorem tiOk153 : TIOk Try.prog 153 ti153 := TIOk.of (by kernel_rfl) rfl (by kernel_rfl)
theorem cmpOk153 : ti153.cmp = true → structCmpB Try.prog 153 = true := fun h => by cases h
def ti9 : TI := ⟨.string, false, 1, 16, (.string ⟨#[]⟩), false⟩   -- string
theorem tiOk9 : TIOk Try.prog 9 ti9 := TIOk.of (by kernel_rfl) rfl (by kernel_rfl)
theorem cmpOk9 : ti9.cmp = true → structCmpB Try.prog 9 = true := fun h => by cases h
def ti151 : TI := ⟨(.int .u64), false, 1, 8, (.int .u64 0), false⟩   -- uint64
theorem tiOk151 : TIOk Try.prog 151 ti151 := TIOk.of (by kernel_rfl) rfl (by kernel_rfl)
theorem cmpOk151 : ti151.cmp = true → structCmpB Try.prog 151 = true := fun h => by cases h

def T : List (Nat × TI) := [(25, ti25), (22, ti22), (3, ti3), (23, ti23), (4, ti4), (30, ti30), (29, ti29), (43, ti43), (42, ti42), (5, ti5), (55, ti55), (57, ti57), (68, ti68), (66, ti66), (73, ti73), (93, ti93), (87, ti87), (100, ti100), (117, ti117), (127, ti127), (133, ti133), (136, ti136), (137, ti137), (141, ti141), (149, ti149), (153, ti153), (9, ti9), (151, ti151)]
theorem mixedOk : Try.prog.follows .mixedOrders = true := by kernel_rfl
theorem tabOk : TabOk Try.prog T := ⟨⟨tiOk25, cmpOk25⟩, ⟨tiOk22, cmpOk22⟩, ⟨tiOk3, cmpOk3⟩, ⟨tiOk23, cmpOk23⟩, ⟨tiOk4, cmpOk4⟩, ⟨tiOk30, cmpOk30⟩, ⟨tiOk29, cmpOk29⟩, ⟨tiOk43, cmpOk43⟩, ⟨tiOk42, cmpOk42⟩, ⟨tiOk5, cmpOk5⟩, ⟨tiOk55, cmpOk55⟩, ⟨tiOk57, cmpOk57⟩, ⟨tiOk68, cmpOk68⟩, ⟨tiOk66, cmpOk66⟩, ⟨tiOk73, cmpOk73⟩, ⟨tiOk93, cmpOk93⟩, ⟨tiOk87, cmpOk87⟩, ⟨tiOk100, cmpOk100⟩, ⟨tiOk117, cmpOk117⟩, ⟨tiOk127, cmpOk127⟩, ⟨tiOk133, cmpOk133⟩, ⟨tiOk136, cmpOk136⟩, ⟨tiOk137, cmpOk137⟩, ⟨tiOk141, cmpOk141⟩, ⟨tiOk149, cmpOk149⟩, ⟨tiOk153, cmpOk153⟩, ⟨tiOk9, cmpOk9⟩, ⟨tiOk151, cmpOk151⟩, mixedOk⟩
end Go.Proofs.Ytilhaifmfiobhaa
end
