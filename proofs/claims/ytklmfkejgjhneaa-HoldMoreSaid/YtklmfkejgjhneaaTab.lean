/-
  The types that the functions name, as the engine's table.
-/
import Derived.Test.YtklmfkejgjhneaaEngL
import Derived.Test.YtklmfkejgjhneaaProg
import Derived.KernelRfl
namespace Go.Proofs.Ytklmfkejgjhneaa
open Go.Eng
def ti22 : TI := ⟨(.slice 36), false, 1, 24, (.slice none 0 0), false⟩   -- []api.Event
theorem tiOk22 : TIOk Try.prog 22 ti22 := TIOk.of (by kernel_rfl) rfl (by kernel_rfl)
theorem cmpOk22 : ti22.cmp = true → structCmpB Try.prog 22 = true := fun h => by cases h
def ti3 : TI := ⟨(.int .i64), false, 1, 8, (.int .i64 0), false⟩   -- int
theorem tiOk3 : TIOk Try.prog 3 ti3 := TIOk.of (by kernel_rfl) rfl (by kernel_rfl)
theorem cmpOk3 : ti3.cmp = true → structCmpB Try.prog 3 = true := fun h => by cases h
def ti23 : TI := ⟨(.slice 41), false, 1, 24, (.slice none 0 0), false⟩   -- []api.Grant
theorem tiOk23 : TIOk Try.prog 23 ti23 := TIOk.of (by kernel_rfl) rfl (by kernel_rfl)
theorem cmpOk23 : ti23.cmp = true → structCmpB Try.prog 23 = true := fun h => by cases h
def ti26 : TI := ⟨(.slice 34), false, 1, 24, (.slice none 0 0), false⟩   -- []api.Stay
theorem tiOk26 : TIOk Try.prog 26 ti26 := TIOk.of (by kernel_rfl) rfl (by kernel_rfl)
theorem cmpOk26 : ti26.cmp = true → structCmpB Try.prog 26 = true := fun h => by cases h
def ti34 : TI := ⟨(.struct #[⟨ "Account", 3, 0, false, "", "", 0⟩, ⟨ "Group", 3, 1, false, "", "", 8⟩, ⟨ "From", 3, 2, false, "", "", 16⟩, ⟨ "To", 3, 3, false, "", "", 24⟩]), true, 4, 32, (.agg #[(.int .i64 0), (.int .i64 0), (.int .i64 0), (.int .i64 0)]), true⟩   -- api.Stay
theorem tiOk34 : TIOk Try.prog 34 ti34 := TIOk.of (by kernel_rfl) rfl (by kernel_rfl)
theorem cmpOk34 : ti34.cmp = true → structCmpB Try.prog 34 = true := fun _ => by kernel_rfl
def ti36 : TI := ⟨(.struct #[⟨ "Author", 3, 0, false, "", "", 0⟩, ⟨ "Seq", 3, 1, false, "", "", 8⟩, ⟨ "Causes", 29, 2, false, "", "", 16⟩, ⟨ "Kind", 3, 3, false, "", "", 40⟩, ⟨ "Group", 3, 4, false, "", "", 48⟩, ⟨ "Target", 3, 5, false, "", "", 56⟩, ⟨ "Quote", 3, 6, false, "", "", 64⟩, ⟨ "Who", 3, 7, false, "", "", 72⟩, ⟨ "N", 3, 8, false, "", "", 80⟩, ⟨ "Text", 9, 9, false, "", "", 88⟩, ⟨ "Files", 29, 10, false, "", "", 104⟩, ⟨ "Step", 3, 11, false, "", "", 128⟩]), true, 12, 136, (.agg #[(.int .i64 0), (.int .i64 0), (.slice none 0 0), (.int .i64 0), (.int .i64 0), (.int .i64 0), (.int .i64 0), (.int .i64 0), (.int .i64 0), (.string ⟨#[]⟩), (.slice none 0 0), (.int .i64 0)]), false⟩   -- api.Event
theorem tiOk36 : TIOk Try.prog 36 ti36 := TIOk.of (by kernel_rfl) rfl (by kernel_rfl)
theorem cmpOk36 : ti36.cmp = true → structCmpB Try.prog 36 = true := fun h => by cases h
def ti4 : TI := ⟨.bool, false, 1, 1, (.bool false), false⟩   -- bool
theorem tiOk4 : TIOk Try.prog 4 ti4 := TIOk.of (by kernel_rfl) rfl (by kernel_rfl)
theorem cmpOk4 : ti4.cmp = true → structCmpB Try.prog 4 = true := fun h => by cases h
def ti29 : TI := ⟨(.slice 3), false, 1, 24, (.slice none 0 0), false⟩   -- []int
theorem tiOk29 : TIOk Try.prog 29 ti29 := TIOk.of (by kernel_rfl) rfl (by kernel_rfl)
theorem cmpOk29 : ti29.cmp = true → structCmpB Try.prog 29 = true := fun h => by cases h
def ti41 : TI := ⟨(.struct #[⟨ "Group", 3, 0, false, "", "", 0⟩, ⟨ "Person", 3, 1, false, "", "", 8⟩, ⟨ "Rights", 3, 2, false, "", "", 16⟩]), true, 3, 24, (.agg #[(.int .i64 0), (.int .i64 0), (.int .i64 0)]), true⟩   -- api.Grant
theorem tiOk41 : TIOk Try.prog 41 ti41 := TIOk.of (by kernel_rfl) rfl (by kernel_rfl)
theorem cmpOk41 : ti41.cmp = true → structCmpB Try.prog 41 = true := fun _ => by kernel_rfl
def ti45 : TI := ⟨(.struct #[⟨ "Name", 3, 0, false, "", "", 0⟩, ⟨ "Step", 3, 1, false, "", "", 8⟩, ⟨ "Bad", 4, 2, false, "", "", 16⟩]), true, 3, 24, (.agg #[(.int .i64 0), (.int .i64 0), (.bool false)]), true⟩   -- api.Verdict
theorem tiOk45 : TIOk Try.prog 45 ti45 := TIOk.of (by kernel_rfl) rfl (by kernel_rfl)
theorem cmpOk45 : ti45.cmp = true → structCmpB Try.prog 45 = true := fun _ => by kernel_rfl
def ti43 : TI := ⟨(.slice 45), false, 1, 24, (.slice none 0 0), false⟩   -- []api.Verdict
theorem tiOk43 : TIOk Try.prog 43 ti43 := TIOk.of (by kernel_rfl) rfl (by kernel_rfl)
theorem cmpOk43 : ti43.cmp = true → structCmpB Try.prog 43 = true := fun h => by cases h
def ti46 : TI := ⟨(.int .i64), false, 1, 8, (.int .i64 0), false⟩   -- api.Errno
theorem tiOk46 : TIOk Try.prog 46 ti46 := TIOk.of (by kernel_rfl) rfl (by kernel_rfl)
theorem cmpOk46 : ti46.cmp = true → structCmpB Try.prog 46 = true := fun h => by cases h
def ti56 : TI := ⟨(.slice 67), false, 1, 24, (.slice none 0 0), false⟩   -- []api.Order
theorem tiOk56 : TIOk Try.prog 56 ti56 := TIOk.of (by kernel_rfl) rfl (by kernel_rfl)
theorem cmpOk56 : ti56.cmp = true → structCmpB Try.prog 56 = true := fun h => by cases h
def ti67 : TI := ⟨(.struct #[⟨ "Kind", 3, 0, false, "", "", 0⟩, ⟨ "Event", 3, 1, false, "", "", 8⟩, ⟨ "By", 3, 2, false, "", "", 16⟩, ⟨ "Step", 3, 3, false, "", "", 24⟩]), true, 4, 32, (.agg #[(.int .i64 0), (.int .i64 0), (.int .i64 0), (.int .i64 0)]), true⟩   -- api.Order
theorem tiOk67 : TIOk Try.prog 67 ti67 := TIOk.of (by kernel_rfl) rfl (by kernel_rfl)
theorem cmpOk67 : ti67.cmp = true → structCmpB Try.prog 67 = true := fun _ => by kernel_rfl
def ti70 : TI := ⟨(.struct #[⟨ "Id", 3, 0, false, "", "", 0⟩, ⟨ "Event", 3, 1, false, "", "", 8⟩, ⟨ "From", 3, 2, false, "", "", 16⟩, ⟨ "To", 3, 3, false, "", "", 24⟩]), true, 4, 32, (.agg #[(.int .i64 0), (.int .i64 0), (.int .i64 0), (.int .i64 0)]), true⟩   -- api.Hold
theorem tiOk70 : TIOk Try.prog 70 ti70 := TIOk.of (by kernel_rfl) rfl (by kernel_rfl)
theorem cmpOk70 : ti70.cmp = true → structCmpB Try.prog 70 = true := fun _ => by kernel_rfl
def ti55 : TI := ⟨(.slice 70), false, 1, 24, (.slice none 0 0), false⟩   -- []api.Hold
theorem tiOk55 : TIOk Try.prog 55 ti55 := TIOk.of (by kernel_rfl) rfl (by kernel_rfl)
theorem cmpOk55 : ti55.cmp = true → structCmpB Try.prog 55 = true := fun h => by cases h
def ti73 : TI := ⟨(.slice 83), false, 1, 24, (.slice none 0 0), false⟩   -- []api.Bridge
theorem tiOk73 : TIOk Try.prog 73 ti73 := TIOk.of (by kernel_rfl) rfl (by kernel_rfl)
theorem cmpOk73 : ti73.cmp = true → structCmpB Try.prog 73 = true := fun h => by cases h
def ti83 : TI := ⟨(.struct #[⟨ "From", 3, 0, false, "", "", 0⟩, ⟨ "To", 3, 1, false, "", "", 8⟩, ⟨ "Own", 4, 2, false, "", "", 16⟩]), true, 3, 24, (.agg #[(.int .i64 0), (.int .i64 0), (.bool false)]), true⟩   -- api.Bridge
theorem tiOk83 : TIOk Try.prog 83 ti83 := TIOk.of (by kernel_rfl) rfl (by kernel_rfl)
theorem cmpOk83 : ti83.cmp = true → structCmpB Try.prog 83 = true := fun _ => by kernel_rfl
def ti84 : TI := ⟨(.slice 4), false, 1, 24, (.slice none 0 0), false⟩   -- []bool
theorem tiOk84 : TIOk Try.prog 84 ti84 := TIOk.of (by kernel_rfl) rfl (by kernel_rfl)
theorem cmpOk84 : ti84.cmp = true → structCmpB Try.prog 84 = true := fun h => by cases h
def ti5 : TI := ⟨(.int .u8), false, 1, 1, (.int .u8 0), false⟩   -- uint8
theorem tiOk5 : TIOk Try.prog 5 ti5 := TIOk.of (by kernel_rfl) rfl (by kernel_rfl)
theorem cmpOk5 : ti5.cmp = true → structCmpB Try.prog 5 = true := fun h => by cases h
def ti89 : TI := ⟨(.map 91 3), false, 1, 8, (.map none), false⟩   -- map[group.place]int
theorem tiOk89 : TIOk Try.prog 89 ti89 := TIOk.of (by kernel_rfl) rfl (by kernel_rfl)
theorem cmpOk89 : ti89.cmp = true → structCmpB Try.prog 89 = true := fun h => by cases h
def ti91 : TI := ⟨(.struct #[⟨ "account", 3, 0, false, "", "lingua/group", 0⟩, ⟨ "group", 3, 1, false, "", "lingua/group", 8⟩]), true, 2, 16, (.agg #[(.int .i64 0), (.int .i64 0)]), true⟩   -- group.place
theorem tiOk91 : TIOk Try.prog 91 ti91 := TIOk.of (by kernel_rfl) rfl (by kernel_rfl)
theorem cmpOk91 : ti91.cmp = true → structCmpB Try.prog 91 = true := fun _ => by kernel_rfl
def ti94 : TI := ⟨(.map 3 4), false, 1, 8, (.map none), false⟩   -- map[int]bool
theorem tiOk94 : TIOk Try.prog 94 ti94 := TIOk.of (by kernel_rfl) rfl (by kernel_rfl)
theorem cmpOk94 : ti94.cmp = true → structCmpB Try.prog 94 = true := fun h => by cases h
def ti119 : TI := ⟨(.int .u64), false, 1, 8, (.int .u64 0), false⟩   -- uint
theorem tiOk119 : TIOk Try.prog 119 ti119 := TIOk.of (by kernel_rfl) rfl (by kernel_rfl)
theorem cmpOk119 : ti119.cmp = true → structCmpB Try.prog 119 = true := fun h => by cases h
def ti122 : TI := ⟨(.map 3 3), false, 1, 8, (.map none), false⟩   -- map[int]int
theorem tiOk122 : TIOk Try.prog 122 ti122 := TIOk.of (by kernel_rfl) rfl (by kernel_rfl)
theorem cmpOk122 : ti122.cmp = true → structCmpB Try.prog 122 = true := fun h => by cases h
def ti125 : TI := ⟨(.int .i64), false, 1, 8, (.int .i64 0), false⟩   -- slices.sortedHint
theorem tiOk125 : TIOk Try.prog 125 ti125 := TIOk.of (by kernel_rfl) rfl (by kernel_rfl)
theorem cmpOk125 : ti125.cmp = true → structCmpB Try.prog 125 = true := fun h => by cases h
def ti133 : TI := ⟨(.int .u32), false, 1, 4, (.int .u32 0), false⟩   -- uint32
theorem tiOk133 : TIOk Try.prog 133 ti133 := TIOk.of (by kernel_rfl) rfl (by kernel_rfl)
theorem cmpOk133 : ti133.cmp = true → structCmpB Try.prog 133 = true := fun h => by cases h
def ti138 : TI := ⟨(.int .u64), false, 1, 8, (.int .u64 0), false⟩   -- slices.xorshift
theorem tiOk138 : TIOk Try.prog 138 ti138 := TIOk.of (by kernel_rfl) rfl (by kernel_rfl)
theorem cmpOk138 : ti138.cmp = true → structCmpB Try.prog 138 = true := fun h => by cases h
def ti9 : TI := ⟨.string, false, 1, 16, (.string ⟨#[]⟩), false⟩   -- string
theorem tiOk9 : TIOk Try.prog 9 ti9 := TIOk.of (by kernel_rfl) rfl (by kernel_rfl)
theorem cmpOk9 : ti9.cmp = true → structCmpB Try.prog 9 = true := fun h => by cases h
def ti135 : TI := ⟨(.int .u64), false, 1, 8, (.int .u64 0), false⟩   -- uint64
theorem tiOk135 : TIOk Try.prog 135 ti135 := TIOk.of (by kernel_rfl) rfl (by kernel_rfl)
theorem cmpOk135 : ti135.cmp = true → structCmpB Try.prog 135 = true := fun h => by cases h

def T : List (Nat × TI) := [(22, ti22), (3, ti3), (23, ti23), (26, ti26), (34, ti34), (36, ti36), (4, ti4), (29, ti29), (41, ti41), (45, ti45), (43, ti43), (46, ti46), (56, ti56), (67, ti67), (70, ti70), (55, ti55), (73, ti73), (83, ti83), (84, ti84), (5, ti5), (89, ti89), (91, ti91), (94, ti94), (119, ti119), (122, ti122), (125, ti125), (133, ti133), (138, ti138), (9, ti9), (135, ti135)]
theorem mixedOk : Try.prog.follows .mixedOrders = true := by kernel_rfl
theorem tabOk : TabOk Try.prog T := ⟨⟨tiOk22, cmpOk22⟩, ⟨tiOk3, cmpOk3⟩, ⟨tiOk23, cmpOk23⟩, ⟨tiOk26, cmpOk26⟩, ⟨tiOk34, cmpOk34⟩, ⟨tiOk36, cmpOk36⟩, ⟨tiOk4, cmpOk4⟩, ⟨tiOk29, cmpOk29⟩, ⟨tiOk41, cmpOk41⟩, ⟨tiOk45, cmpOk45⟩, ⟨tiOk43, cmpOk43⟩, ⟨tiOk46, cmpOk46⟩, ⟨tiOk56, cmpOk56⟩, ⟨tiOk67, cmpOk67⟩, ⟨tiOk70, cmpOk70⟩, ⟨tiOk55, cmpOk55⟩, ⟨tiOk73, cmpOk73⟩, ⟨tiOk83, cmpOk83⟩, ⟨tiOk84, cmpOk84⟩, ⟨tiOk5, cmpOk5⟩, ⟨tiOk89, cmpOk89⟩, ⟨tiOk91, cmpOk91⟩, ⟨tiOk94, cmpOk94⟩, ⟨tiOk119, cmpOk119⟩, ⟨tiOk122, cmpOk122⟩, ⟨tiOk125, cmpOk125⟩, ⟨tiOk133, cmpOk133⟩, ⟨tiOk138, cmpOk138⟩, ⟨tiOk9, cmpOk9⟩, ⟨tiOk135, cmpOk135⟩, mixedOk⟩
end Go.Proofs.Ytklmfkejgjhneaa
