/-
  Several texts in one: Tab, W1, W2, W3, W4, W5, W6, L1, L2, Rc1, Rc2, Sn, Rc3, Rc4, Rc5, K1, K2.
-/
import Derived.Test.YtnookbebiacaeaaProg
import Derived.KernelRfl
import Derived.Test.YtnookbebiacaeaaMg13

section
/-
  The types that the functions name, as the engine's table.
-/
namespace Go.Proofs.Ytnookbebiacaeaa
open Go.Eng
def ti24 : TI := ⟨(.struct #[⟨"Message", 3, 0, false, "", "", 0⟩, ⟨"Who", 3, 1, false, "", "", 8⟩, ⟨"Level", 3, 2, false, "", "", 16⟩, ⟨"Step", 3, 3, false, "", "", 24⟩, ⟨"Not", 4, 4, false, "", "", 32⟩]), true, 5, 40, (.agg #[(.int .i64 0), (.int .i64 0), (.int .i64 0), (.int .i64 0), (.bool false)]), true⟩   -- api.Note
theorem tiOk24 : TIOk Try.prog 24 ti24 := TIOk.of (by kernel_rfl) rfl (by kernel_rfl)
theorem cmpOk24 : ti24.cmp = true → structCmpB Try.prog 24 = true := fun _ => by kernel_rfl
def ti27 : TI := ⟨(.struct #[⟨"Name", 9, 0, false, "", "", 0⟩, ⟨"Edit", 3, 1, false, "", "", 16⟩, ⟨"Within", 3, 2, false, "", "", 24⟩, ⟨"Delete", 3, 3, false, "", "", 32⟩, ⟨"React", 4, 4, false, "", "", 40⟩, ⟨"Thread", 3, 5, false, "", "", 48⟩, ⟨"Quote", 4, 6, false, "", "", 56⟩, ⟨"Mention", 4, 7, false, "", "", 57⟩, ⟨"Size", 3, 8, false, "", "", 64⟩, ⟨"Parts", 3, 9, false, "", "", 72⟩, ⟨"Files", 3, 10, false, "", "", 80⟩, ⟨"Bytes", 3, 11, false, "", "", 88⟩, ⟨"Types", 25, 12, false, "", "", 96⟩, ⟨"Join", 3, 13, false, "", "", 120⟩, ⟨"History", 3, 14, false, "", "", 128⟩, ⟨"Remove", 3, 15, false, "", "", 136⟩, ⟨"Level", 3, 16, false, "", "", 144⟩, ⟨"Batch", 4, 17, false, "", "", 152⟩, ⟨"Rate", 3, 18, false, "", "", 160⟩, ⟨"Down", 3, 19, false, "", "", 168⟩, ⟨"Window", 3, 20, false, "", "", 176⟩, ⟨"Keep", 3, 21, false, "", "", 184⟩]), true, 22, 192, (.agg #[(.string ⟨#[]⟩), (.int .i64 0), (.int .i64 0), (.int .i64 0), (.bool false), (.int .i64 0), (.bool false), (.bool false), (.int .i64 0), (.int .i64 0), (.int .i64 0), (.int .i64 0), (.slice none 0 0), (.int .i64 0), (.int .i64 0), (.int .i64 0), (.int .i64 0), (.bool false), (.int .i64 0), (.int .i64 0), (.int .i64 0), (.int .i64 0)]), false⟩   -- api.Profile
theorem tiOk27 : TIOk Try.prog 27 ti27 := TIOk.of (by kernel_rfl) rfl (by kernel_rfl)
theorem cmpOk27 : ti27.cmp = true → structCmpB Try.prog 27 = true := fun h => by cases h
def ti22 : TI := ⟨(.slice 24), false, 1, 24, (.slice none 0 0), false⟩   -- []api.Note
theorem tiOk22 : TIOk Try.prog 22 ti22 := TIOk.of (by kernel_rfl) rfl (by kernel_rfl)
theorem cmpOk22 : ti22.cmp = true → structCmpB Try.prog 22 = true := fun h => by cases h
def ti3 : TI := ⟨(.int .i64), false, 1, 8, (.int .i64 0), false⟩   -- int
theorem tiOk3 : TIOk Try.prog 3 ti3 := TIOk.of (by kernel_rfl) rfl (by kernel_rfl)
theorem cmpOk3 : ti3.cmp = true → structCmpB Try.prog 3 = true := fun h => by cases h
def ti29 : TI := ⟨(.int .i64), false, 1, 8, (.int .i64 0), false⟩   -- api.Errno
theorem tiOk29 : TIOk Try.prog 29 ti29 := TIOk.of (by kernel_rfl) rfl (by kernel_rfl)
theorem cmpOk29 : ti29.cmp = true → structCmpB Try.prog 29 = true := fun h => by cases h
def ti4 : TI := ⟨.bool, false, 1, 1, (.bool false), false⟩   -- bool
theorem tiOk4 : TIOk Try.prog 4 ti4 := TIOk.of (by kernel_rfl) rfl (by kernel_rfl)
theorem cmpOk4 : ti4.cmp = true → structCmpB Try.prog 4 = true := fun h => by cases h
def ti36 : TI := ⟨(.slice 3), false, 1, 24, (.slice none 0 0), false⟩   -- []int
theorem tiOk36 : TIOk Try.prog 36 ti36 := TIOk.of (by kernel_rfl) rfl (by kernel_rfl)
theorem cmpOk36 : ti36.cmp = true → structCmpB Try.prog 36 = true := fun h => by cases h
def ti50 : TI := ⟨(.struct #[⟨"Op", 3, 0, false, "", "", 0⟩, ⟨"Message", 3, 1, false, "", "", 8⟩, ⟨"Who", 3, 2, false, "", "", 16⟩, ⟨"Level", 3, 3, false, "", "", 24⟩, ⟨"Args", 48, 4, false, "", "", 32⟩]), true, 5, 56, (.agg #[(.int .i64 0), (.int .i64 0), (.int .i64 0), (.int .i64 0), (.slice none 0 0)]), false⟩   -- api.Formula
theorem tiOk50 : TIOk Try.prog 50 ti50 := TIOk.of (by kernel_rfl) rfl (by kernel_rfl)
theorem cmpOk50 : ti50.cmp = true → structCmpB Try.prog 50 = true := fun h => by cases h
def ti48 : TI := ⟨(.slice 50), false, 1, 24, (.slice none 0 0), false⟩   -- []api.Formula
theorem tiOk48 : TIOk Try.prog 48 ti48 := TIOk.of (by kernel_rfl) rfl (by kernel_rfl)
theorem cmpOk48 : ti48.cmp = true → structCmpB Try.prog 48 = true := fun h => by cases h
def ti68 : TI := ⟨(.pointer 151), false, 1, 8, (.pointer none), false⟩   -- *chunk.Store
theorem tiOk68 : TIOk Try.prog 68 ti68 := TIOk.of (by kernel_rfl) rfl (by kernel_rfl)
theorem cmpOk68 : ti68.cmp = true → structCmpB Try.prog 68 = true := fun h => by cases h
def ti66 : TI := ⟨(.slice 76), false, 1, 24, (.slice none 0 0), false⟩   -- []linguaref38.Op
theorem tiOk66 : TIOk Try.prog 66 ti66 := TIOk.of (by kernel_rfl) rfl (by kernel_rfl)
theorem cmpOk66 : ti66.cmp = true → structCmpB Try.prog 66 = true := fun h => by cases h
def ti76 : TI := ⟨(.struct #[⟨"Do", 3, 0, false, "", "", 0⟩, ⟨"Tenant", 3, 1, false, "", "", 8⟩, ⟨"Name", 3, 2, false, "", "", 16⟩, ⟨"Text", 9, 3, false, "", "", 24⟩]), true, 4, 40, (.agg #[(.int .i64 0), (.int .i64 0), (.int .i64 0), (.string ⟨#[]⟩)]), true⟩   -- linguaref38.Op
theorem tiOk76 : TIOk Try.prog 76 ti76 := TIOk.of (by kernel_rfl) rfl (by kernel_rfl)
theorem cmpOk76 : ti76.cmp = true → structCmpB Try.prog 76 = true := fun _ => by kernel_rfl
def ti73 : TI := ⟨(.struct #[⟨"N", 3, 0, false, "", "", 0⟩, ⟨"Text", 9, 1, false, "", "", 8⟩, ⟨"Err", 29, 2, false, "", "", 24⟩]), true, 3, 32, (.agg #[(.int .i64 0), (.string ⟨#[]⟩), (.int .i64 0)]), true⟩   -- linguaref38.Done
theorem tiOk73 : TIOk Try.prog 73 ti73 := TIOk.of (by kernel_rfl) rfl (by kernel_rfl)
theorem cmpOk73 : ti73.cmp = true → structCmpB Try.prog 73 = true := fun _ => by kernel_rfl
def ti25 : TI := ⟨(.slice 9), false, 1, 24, (.slice none 0 0), false⟩   -- []string
theorem tiOk25 : TIOk Try.prog 25 ti25 := TIOk.of (by kernel_rfl) rfl (by kernel_rfl)
theorem cmpOk25 : ti25.cmp = true → structCmpB Try.prog 25 = true := fun h => by cases h
def ti9 : TI := ⟨.string, false, 1, 16, (.string ⟨#[]⟩), false⟩   -- string
theorem tiOk9 : TIOk Try.prog 9 ti9 := TIOk.of (by kernel_rfl) rfl (by kernel_rfl)
theorem cmpOk9 : ti9.cmp = true → structCmpB Try.prog 9 = true := fun h => by cases h
def ti88 : TI := ⟨(.slice 73), false, 1, 24, (.slice none 0 0), false⟩   -- []linguaref38.Done
theorem tiOk88 : TIOk Try.prog 88 ti88 := TIOk.of (by kernel_rfl) rfl (by kernel_rfl)
theorem cmpOk88 : ti88.cmp = true → structCmpB Try.prog 88 = true := fun h => by cases h
def ti92 : TI := ⟨(.pointer 182), false, 1, 8, (.pointer none), false⟩   -- *conv.Conv
theorem tiOk92 : TIOk Try.prog 92 ti92 := TIOk.of (by kernel_rfl) rfl (by kernel_rfl)
theorem cmpOk92 : ti92.cmp = true → structCmpB Try.prog 92 = true := fun h => by cases h
def ti90 : TI := ⟨(.slice 96), false, 1, 24, (.slice none 0 0), false⟩   -- []api.Event
theorem tiOk90 : TIOk Try.prog 90 ti90 := TIOk.of (by kernel_rfl) rfl (by kernel_rfl)
theorem cmpOk90 : ti90.cmp = true → structCmpB Try.prog 90 = true := fun h => by cases h
def ti96 : TI := ⟨(.struct #[⟨"Author", 3, 0, false, "", "", 0⟩, ⟨"Seq", 3, 1, false, "", "", 8⟩, ⟨"Causes", 36, 2, false, "", "", 16⟩, ⟨"Kind", 3, 3, false, "", "", 40⟩, ⟨"Group", 3, 4, false, "", "", 48⟩, ⟨"Target", 3, 5, false, "", "", 56⟩, ⟨"Quote", 3, 6, false, "", "", 64⟩, ⟨"Who", 3, 7, false, "", "", 72⟩, ⟨"N", 3, 8, false, "", "", 80⟩, ⟨"Text", 9, 9, false, "", "", 88⟩, ⟨"Files", 36, 10, false, "", "", 104⟩, ⟨"Step", 3, 11, false, "", "", 128⟩]), true, 12, 136, (.agg #[(.int .i64 0), (.int .i64 0), (.slice none 0 0), (.int .i64 0), (.int .i64 0), (.int .i64 0), (.int .i64 0), (.int .i64 0), (.int .i64 0), (.string ⟨#[]⟩), (.slice none 0 0), (.int .i64 0)]), false⟩   -- api.Event
theorem tiOk96 : TIOk Try.prog 96 ti96 := TIOk.of (by kernel_rfl) rfl (by kernel_rfl)
theorem cmpOk96 : ti96.cmp = true → structCmpB Try.prog 96 = true := fun h => by cases h
def ti105 : TI := ⟨(.slice 36), false, 1, 24, (.slice none 0 0), false⟩   -- [][]int
theorem tiOk105 : TIOk Try.prog 105 ti105 := TIOk.of (by kernel_rfl) rfl (by kernel_rfl)
theorem cmpOk105 : ti105.cmp = true → structCmpB Try.prog 105 = true := fun h => by cases h
def ti109 : TI := ⟨(.slice 29), false, 1, 24, (.slice none 0 0), false⟩   -- []api.Errno
theorem tiOk109 : TIOk Try.prog 109 ti109 := TIOk.of (by kernel_rfl) rfl (by kernel_rfl)
theorem cmpOk109 : ti109.cmp = true → structCmpB Try.prog 109 = true := fun h => by cases h
def ti114 : TI := ⟨(.pointer 119), false, 1, 8, (.pointer none), false⟩   -- *linguaref15.Conv
theorem tiOk114 : TIOk Try.prog 114 ti114 := TIOk.of (by kernel_rfl) rfl (by kernel_rfl)
theorem cmpOk114 : ti114.cmp = true → structCmpB Try.prog 114 = true := fun h => by cases h
def ti119 : TI := ⟨(.struct #[⟨"L", 90, 0, false, "", "", 0⟩]), true, 1, 24, (.agg #[(.slice none 0 0)]), false⟩   -- linguaref15.Conv
theorem tiOk119 : TIOk Try.prog 119 ti119 := TIOk.of (by kernel_rfl) rfl (by kernel_rfl)
theorem cmpOk119 : ti119.cmp = true → structCmpB Try.prog 119 = true := fun h => by cases h
def ti126 : TI := ⟨(.map 128 4), false, 1, 8, (.map none), false⟩   -- map[receipt.about]bool
theorem tiOk126 : TIOk Try.prog 126 ti126 := TIOk.of (by kernel_rfl) rfl (by kernel_rfl)
theorem cmpOk126 : ti126.cmp = true → structCmpB Try.prog 126 = true := fun h => by cases h
def ti128 : TI := ⟨(.struct #[⟨"message", 3, 0, false, "", "lingua/receipt", 0⟩, ⟨"who", 3, 1, false, "", "lingua/receipt", 8⟩]), true, 2, 16, (.agg #[(.int .i64 0), (.int .i64 0)]), true⟩   -- receipt.about
theorem tiOk128 : TIOk Try.prog 128 ti128 := TIOk.of (by kernel_rfl) rfl (by kernel_rfl)
theorem cmpOk128 : ti128.cmp = true → structCmpB Try.prog 128 = true := fun _ => by kernel_rfl
def ti135 : TI := ⟨(.struct #[⟨"message", 3, 0, false, "", "lingua/levels", 0⟩, ⟨"who", 3, 1, false, "", "lingua/levels", 8⟩]), true, 2, 16, (.agg #[(.int .i64 0), (.int .i64 0)]), true⟩   -- levels.pair
theorem tiOk135 : TIOk Try.prog 135 ti135 := TIOk.of (by kernel_rfl) rfl (by kernel_rfl)
theorem cmpOk135 : ti135.cmp = true → structCmpB Try.prog 135 = true := fun _ => by kernel_rfl
def ti145 : TI := ⟨(.map 172 3), false, 1, 8, (.map none), false⟩   -- map[chunk.key]int
theorem tiOk145 : TIOk Try.prog 145 ti145 := TIOk.of (by kernel_rfl) rfl (by kernel_rfl)
theorem cmpOk145 : ti145.cmp = true → structCmpB Try.prog 145 = true := fun h => by cases h
def ti151 : TI := ⟨(.struct #[⟨"uses", 145, 0, false, "", "lingua/chunk", 0⟩, ⟨"tenants", 149, 1, false, "", "lingua/chunk", 8⟩]), true, 25, 200, (.agg #[(.map none), (.map none), (.int .i64 0), (.map none), (.int .i64 0), (.map none), (.int .i64 0), (.map none), (.int .i64 0), (.map none), (.int .i64 0), (.map none), (.int .i64 0), (.map none), (.int .i64 0), (.map none), (.int .i64 0), (.map none), (.int .i64 0), (.map none), (.int .i64 0), (.map none), (.int .i64 0), (.map none), (.int .i64 0)]), false⟩   -- chunk.Store
theorem tiOk151 : TIOk Try.prog 151 ti151 := TIOk.of (by kernel_rfl) rfl (by kernel_rfl)
theorem cmpOk151 : ti151.cmp = true → structCmpB Try.prog 151 = true := fun h => by cases h
def ti146 : TI := ⟨(.map 3 159), false, 1, 8, (.map none), false⟩   -- map[int]chunk.file
theorem tiOk146 : TIOk Try.prog 146 ti146 := TIOk.of (by kernel_rfl) rfl (by kernel_rfl)
theorem cmpOk146 : ti146.cmp = true → structCmpB Try.prog 146 = true := fun h => by cases h
def ti149 : TI := ⟨(.array 12 148), true, 24, 192, (.agg #[(.map none), (.int .i64 0), (.map none), (.int .i64 0), (.map none), (.int .i64 0), (.map none), (.int .i64 0), (.map none), (.int .i64 0), (.map none), (.int .i64 0), (.map none), (.int .i64 0), (.map none), (.int .i64 0), (.map none), (.int .i64 0), (.map none), (.int .i64 0), (.map none), (.int .i64 0), (.map none), (.int .i64 0)]), false⟩   -- [12]chunk.tenant
theorem tiOk149 : TIOk Try.prog 149 ti149 := TIOk.of (by kernel_rfl) rfl (by kernel_rfl)
theorem cmpOk149 : ti149.cmp = true → structCmpB Try.prog 149 = true := fun h => by cases h
def ti148 : TI := ⟨(.struct #[⟨"files", 146, 0, false, "", "lingua/chunk", 0⟩, ⟨"next", 3, 1, false, "", "lingua/chunk", 8⟩]), true, 2, 16, (.agg #[(.map none), (.int .i64 0)]), false⟩   -- chunk.tenant
theorem tiOk148 : TIOk Try.prog 148 ti148 := TIOk.of (by kernel_rfl) rfl (by kernel_rfl)
theorem cmpOk148 : ti148.cmp = true → structCmpB Try.prog 148 = true := fun h => by cases h
def ti154 : TI := ⟨(.struct #[⟨"Files", 152, 0, false, "", "", 0⟩, ⟨"Given", 36, 1, false, "", "", 24⟩]), true, 2, 48, (.agg #[(.slice none 0 0), (.slice none 0 0)]), false⟩   -- linguaref38.Store
theorem tiOk154 : TIOk Try.prog 154 ti154 := TIOk.of (by kernel_rfl) rfl (by kernel_rfl)
theorem cmpOk154 : ti154.cmp = true → structCmpB Try.prog 154 = true := fun h => by cases h
def ti152 : TI := ⟨(.slice 161), false, 1, 24, (.slice none 0 0), false⟩   -- []linguaref38.File
theorem tiOk152 : TIOk Try.prog 152 ti152 := TIOk.of (by kernel_rfl) rfl (by kernel_rfl)
theorem cmpOk152 : ti152.cmp = true → structCmpB Try.prog 152 = true := fun h => by cases h
def ti161 : TI := ⟨(.struct #[⟨"Tenant", 3, 0, false, "", "", 0⟩, ⟨"Name", 3, 1, false, "", "", 8⟩, ⟨"Text", 9, 2, false, "", "", 16⟩]), true, 3, 32, (.agg #[(.int .i64 0), (.int .i64 0), (.string ⟨#[]⟩)]), true⟩   -- linguaref38.File
theorem tiOk161 : TIOk Try.prog 161 ti161 := TIOk.of (by kernel_rfl) rfl (by kernel_rfl)
theorem cmpOk161 : ti161.cmp = true → structCmpB Try.prog 161 = true := fun _ => by kernel_rfl
def ti159 : TI := ⟨(.slice 172), false, 1, 24, (.slice none 0 0), false⟩   -- chunk.file
theorem tiOk159 : TIOk Try.prog 159 ti159 := TIOk.of (by kernel_rfl) rfl (by kernel_rfl)
theorem cmpOk159 : ti159.cmp = true → structCmpB Try.prog 159 = true := fun h => by cases h
def ti172 : TI := ⟨(.struct #[⟨"n", 3, 0, false, "", "lingua/chunk", 0⟩, ⟨"bytes", 170, 1, false, "", "lingua/chunk", 8⟩]), true, 33, 40, (.agg #[(.int .i64 0), (.int .u8 0), (.int .u8 0), (.int .u8 0), (.int .u8 0), (.int .u8 0), (.int .u8 0), (.int .u8 0), (.int .u8 0), (.int .u8 0), (.int .u8 0), (.int .u8 0), (.int .u8 0), (.int .u8 0), (.int .u8 0), (.int .u8 0), (.int .u8 0), (.int .u8 0), (.int .u8 0), (.int .u8 0), (.int .u8 0), (.int .u8 0), (.int .u8 0), (.int .u8 0), (.int .u8 0), (.int .u8 0), (.int .u8 0), (.int .u8 0), (.int .u8 0), (.int .u8 0), (.int .u8 0), (.int .u8 0), (.int .u8 0)]), false⟩   -- chunk.key
theorem tiOk172 : TIOk Try.prog 172 ti172 := TIOk.of (by kernel_rfl) rfl (by kernel_rfl)
theorem cmpOk172 : ti172.cmp = true → structCmpB Try.prog 172 = true := fun h => by cases h
def ti179 : TI := ⟨(.map 3 36), false, 1, 8, (.map none), false⟩   -- map[int][]int
theorem tiOk179 : TIOk Try.prog 179 ti179 := TIOk.of (by kernel_rfl) rfl (by kernel_rfl)
theorem cmpOk179 : ti179.cmp = true → structCmpB Try.prog 179 = true := fun h => by cases h
def ti180 : TI := ⟨(.map 3 4), false, 1, 8, (.map none), false⟩   -- map[int]bool
theorem tiOk180 : TIOk Try.prog 180 ti180 := TIOk.of (by kernel_rfl) rfl (by kernel_rfl)
theorem cmpOk180 : ti180.cmp = true → structCmpB Try.prog 180 = true := fun h => by cases h
def ti182 : TI := ⟨(.struct #[⟨"events", 90, 0, false, "", "lingua/conv", 0⟩, ⟨"own", 179, 1, false, "", "lingua/conv", 24⟩, ⟨"deleted", 180, 2, false, "", "lingua/conv", 32⟩]), true, 3, 40, (.agg #[(.slice none 0 0), (.map none), (.map none)]), false⟩   -- conv.Conv
theorem tiOk182 : TIOk Try.prog 182 ti182 := TIOk.of (by kernel_rfl) rfl (by kernel_rfl)
theorem cmpOk182 : ti182.cmp = true → structCmpB Try.prog 182 = true := fun h => by cases h
def ti188 : TI := ⟨(.slice 4), false, 1, 24, (.slice none 0 0), false⟩   -- []bool
theorem tiOk188 : TIOk Try.prog 188 ti188 := TIOk.of (by kernel_rfl) rfl (by kernel_rfl)
theorem cmpOk188 : ti188.cmp = true → structCmpB Try.prog 188 = true := fun h => by cases h
def ti192 : TI := ⟨(.int .u64), false, 1, 8, (.int .u64 0), false⟩   -- uint
theorem tiOk192 : TIOk Try.prog 192 ti192 := TIOk.of (by kernel_rfl) rfl (by kernel_rfl)
theorem cmpOk192 : ti192.cmp = true → structCmpB Try.prog 192 = true := fun h => by cases h
def ti142 : TI := ⟨(.slice 196), false, 1, 24, (.slice none 0 0), false⟩   -- []know.pair
theorem tiOk142 : TIOk Try.prog 142 ti142 := TIOk.of (by kernel_rfl) rfl (by kernel_rfl)
theorem cmpOk142 : ti142.cmp = true → structCmpB Try.prog 142 = true := fun h => by cases h
def ti196 : TI := ⟨(.struct #[⟨"message", 3, 0, false, "", "lingua/know", 0⟩, ⟨"who", 3, 1, false, "", "lingua/know", 8⟩]), true, 2, 16, (.agg #[(.int .i64 0), (.int .i64 0)]), true⟩   -- know.pair
theorem tiOk196 : TIOk Try.prog 196 ti196 := TIOk.of (by kernel_rfl) rfl (by kernel_rfl)
theorem cmpOk196 : ti196.cmp = true → structCmpB Try.prog 196 = true := fun _ => by kernel_rfl
def ti199 : TI := ⟨(.struct #[⟨"nodes", 3, 0, false, "", "lingua/know", 0⟩, ⟨"pairs", 142, 1, false, "", "lingua/know", 8⟩]), true, 2, 32, (.agg #[(.int .i64 0), (.slice none 0 0)]), false⟩   -- know.size
theorem tiOk199 : TIOk Try.prog 199 ti199 := TIOk.of (by kernel_rfl) rfl (by kernel_rfl)
theorem cmpOk199 : ti199.cmp = true → structCmpB Try.prog 199 = true := fun h => by cases h
def ti53 : TI := ⟨(.func #[50] #[4] false), false, 1, 8, .nilFunc, false⟩   -- func(api.Formula) bool
theorem tiOk53 : TIOk Try.prog 53 ti53 := TIOk.of (by kernel_rfl) rfl (by kernel_rfl)
theorem cmpOk53 : ti53.cmp = true → structCmpB Try.prog 53 = true := fun h => by cases h
def ti207 : TI := ⟨(.struct #[⟨"addr", 204, 0, false, "", "strings", 0⟩, ⟨"buf", 205, 1, false, "", "strings", 8⟩]), true, 2, 32, (.agg #[(.pointer none), (.slice none 0 0)]), false⟩   -- strings.Builder
theorem tiOk207 : TIOk Try.prog 207 ti207 := TIOk.of (by kernel_rfl) rfl (by kernel_rfl)
theorem cmpOk207 : ti207.cmp = true → structCmpB Try.prog 207 = true := fun h => by cases h
def ti170 : TI := ⟨(.array 32 5), true, 32, 32, (.agg #[(.int .u8 0), (.int .u8 0), (.int .u8 0), (.int .u8 0), (.int .u8 0), (.int .u8 0), (.int .u8 0), (.int .u8 0), (.int .u8 0), (.int .u8 0), (.int .u8 0), (.int .u8 0), (.int .u8 0), (.int .u8 0), (.int .u8 0), (.int .u8 0), (.int .u8 0), (.int .u8 0), (.int .u8 0), (.int .u8 0), (.int .u8 0), (.int .u8 0), (.int .u8 0), (.int .u8 0), (.int .u8 0), (.int .u8 0), (.int .u8 0), (.int .u8 0), (.int .u8 0), (.int .u8 0), (.int .u8 0), (.int .u8 0)]), false⟩   -- [32]uint8
theorem tiOk170 : TIOk Try.prog 170 ti170 := TIOk.of (by kernel_rfl) rfl (by kernel_rfl)
theorem cmpOk170 : ti170.cmp = true → structCmpB Try.prog 170 = true := fun h => by cases h
def ti205 : TI := ⟨(.slice 5), false, 1, 24, (.slice none 0 0), false⟩   -- []uint8
theorem tiOk205 : TIOk Try.prog 205 ti205 := TIOk.of (by kernel_rfl) rfl (by kernel_rfl)
theorem cmpOk205 : ti205.cmp = true → structCmpB Try.prog 205 = true := fun h => by cases h
def ti219 : TI := ⟨(.int .i64), false, 1, 8, (.int .i64 0), false⟩   -- slices.sortedHint
theorem tiOk219 : TIOk Try.prog 219 ti219 := TIOk.of (by kernel_rfl) rfl (by kernel_rfl)
theorem cmpOk219 : ti219.cmp = true → structCmpB Try.prog 219 = true := fun h => by cases h
def ti227 : TI := ⟨(.int .u32), false, 1, 4, (.int .u32 0), false⟩   -- uint32
theorem tiOk227 : TIOk Try.prog 227 ti227 := TIOk.of (by kernel_rfl) rfl (by kernel_rfl)
theorem cmpOk227 : ti227.cmp = true → structCmpB Try.prog 227 = true := fun h => by cases h
def ti235 : TI := ⟨(.pointer 5), false, 1, 8, (.pointer none), false⟩   -- *uint8
theorem tiOk235 : TIOk Try.prog 235 ti235 := TIOk.of (by kernel_rfl) rfl (by kernel_rfl)
theorem cmpOk235 : ti235.cmp = true → structCmpB Try.prog 235 = true := fun h => by cases h
def ti204 : TI := ⟨(.pointer 207), false, 1, 8, (.pointer none), false⟩   -- *strings.Builder
theorem tiOk204 : TIOk Try.prog 204 ti204 := TIOk.of (by kernel_rfl) rfl (by kernel_rfl)
theorem cmpOk204 : ti204.cmp = true → structCmpB Try.prog 204 = true := fun h => by cases h
def ti5 : TI := ⟨(.int .u8), false, 1, 1, (.int .u8 0), false⟩   -- uint8
theorem tiOk5 : TIOk Try.prog 5 ti5 := TIOk.of (by kernel_rfl) rfl (by kernel_rfl)
theorem cmpOk5 : ti5.cmp = true → structCmpB Try.prog 5 = true := fun h => by cases h

def T : List (Nat × TI) := [(24, ti24), (27, ti27), (22, ti22), (3, ti3), (29, ti29), (4, ti4), (36, ti36), (50, ti50), (48, ti48), (68, ti68), (66, ti66), (76, ti76), (73, ti73), (25, ti25), (9, ti9), (88, ti88), (92, ti92), (90, ti90), (96, ti96), (105, ti105), (109, ti109), (114, ti114), (119, ti119), (126, ti126), (128, ti128), (135, ti135), (145, ti145), (151, ti151), (146, ti146), (149, ti149), (148, ti148), (154, ti154), (152, ti152), (161, ti161), (159, ti159), (172, ti172), (179, ti179), (180, ti180), (182, ti182), (188, ti188), (192, ti192), (142, ti142), (196, ti196), (199, ti199), (53, ti53), (207, ti207), (170, ti170), (205, ti205), (219, ti219), (227, ti227), (235, ti235), (204, ti204), (5, ti5)]
theorem mixedOk : Try.prog.follows .mixedOrders = true := by kernel_rfl
theorem tabOk : TabOk Try.prog T := ⟨⟨tiOk24, cmpOk24⟩, ⟨tiOk27, cmpOk27⟩, ⟨tiOk22, cmpOk22⟩, ⟨tiOk3, cmpOk3⟩, ⟨tiOk29, cmpOk29⟩, ⟨tiOk4, cmpOk4⟩, ⟨tiOk36, cmpOk36⟩, ⟨tiOk50, cmpOk50⟩, ⟨tiOk48, cmpOk48⟩, ⟨tiOk68, cmpOk68⟩, ⟨tiOk66, cmpOk66⟩, ⟨tiOk76, cmpOk76⟩, ⟨tiOk73, cmpOk73⟩, ⟨tiOk25, cmpOk25⟩, ⟨tiOk9, cmpOk9⟩, ⟨tiOk88, cmpOk88⟩, ⟨tiOk92, cmpOk92⟩, ⟨tiOk90, cmpOk90⟩, ⟨tiOk96, cmpOk96⟩, ⟨tiOk105, cmpOk105⟩, ⟨tiOk109, cmpOk109⟩, ⟨tiOk114, cmpOk114⟩, ⟨tiOk119, cmpOk119⟩, ⟨tiOk126, cmpOk126⟩, ⟨tiOk128, cmpOk128⟩, ⟨tiOk135, cmpOk135⟩, ⟨tiOk145, cmpOk145⟩, ⟨tiOk151, cmpOk151⟩, ⟨tiOk146, cmpOk146⟩, ⟨tiOk149, cmpOk149⟩, ⟨tiOk148, cmpOk148⟩, ⟨tiOk154, cmpOk154⟩, ⟨tiOk152, cmpOk152⟩, ⟨tiOk161, cmpOk161⟩, ⟨tiOk159, cmpOk159⟩, ⟨tiOk172, cmpOk172⟩, ⟨tiOk179, cmpOk179⟩, ⟨tiOk180, cmpOk180⟩, ⟨tiOk182, cmpOk182⟩, ⟨tiOk188, cmpOk188⟩, ⟨tiOk192, cmpOk192⟩, ⟨tiOk142, cmpOk142⟩, ⟨tiOk196, cmpOk196⟩, ⟨tiOk199, cmpOk199⟩, ⟨tiOk53, cmpOk53⟩, ⟨tiOk207, cmpOk207⟩, ⟨tiOk170, cmpOk170⟩, ⟨tiOk205, cmpOk205⟩, ⟨tiOk219, cmpOk219⟩, ⟨tiOk227, cmpOk227⟩, ⟨tiOk235, cmpOk235⟩, ⟨tiOk204, cmpOk204⟩, ⟨tiOk5, cmpOk5⟩, mixedOk⟩
end Go.Proofs.Ytnookbebiacaeaa
end

section
namespace Go.Proofs.Ytnookbebiacaeaa
open Go.Eng

theorem between_fn (n a b : Int) : Ctr Try.prog 161 [.i .i64 n, .i .i64 a, .i .i64 b] [] (.b (decide (a ≤ n) && decide (n ≤ b))) := by
  refine fn_of_exec tabOk Try.func161 (by kernel_rfl) rfl (N := Try.f161.ntmps) rfl (res := [.tmp 6]) rfl rfl [] ?_
  exact RetIs.b rfl

structure Note where
  m : Int
  w : Int
  l : Int
  s : Int
  n : Bool
def Note.av (n : Note) : List AV := [.i .i64 n.m, .i .i64 n.w, .i .i64 n.l, .i .i64 n.s, .b n.n]

def says (n : Note) (b : Bool) (pm pw : Int) : Bool := !n.n && n.w == pw && (n.m == pm || b && decide (n.m > pm))
set_option maxRecDepth 20000 in
theorem says_fn (n : Note) (b : Bool) (pm pw : Int) : Ctr Try.prog 162 [.ag n.av, .b b, .ag [.i .i64 pm, .i .i64 pw]] [] (.b (says n b pm pw)) := by
  refine fn_of_exec tabOk Try.func162 (by kernel_rfl) rfl (N := Try.f162.ntmps) rfl (res := [.tmp 6]) rfl rfl [] ?_
  exact RetIs.b rfl

def vnote (n : Note) : Bool := (decide (0 ≤ n.m) && decide (n.m ≤ 99999)) && (decide (0 ≤ n.w) && decide (n.w ≤ 1999)) && (decide (1 ≤ n.l) && decide (n.l ≤ 4)) && (decide (0 ≤ n.s) && decide (n.s ≤ 1073741824))
end Go.Proofs.Ytnookbebiacaeaa
end

section
namespace Go.Proofs.Ytnookbebiacaeaa
open Go.Eng

def dN : Note := ⟨0, 0, 0, 0, false⟩
def rowsN (l : List Note) (k : Nat) : List AV := (l.getD k dN).av
def low (l : List Note) (b : Bool) (pm pw : Int) : Int := l.foldl (fun a n => if says n b pm pw then max a n.l else a) 0
theorem low_succ (l : List Note) (b : Bool) (pm pw : Int) (k : Nat) (h : k < l.length) : low (l.take (k + 1)) b pm pw = if says (l.getD k dN) b pm pw then max (low (l.take k) b pm pw) (l.getD k dN).l else low (l.take k) b pm pw :=
  foldl_take _ _ l k dN h

set_option maxRecDepth 20000 in
theorem low_fn (l : List Note) (hl : l.length < 2^62) (b : Bool) (pm pw : Int) : Ctr Try.prog 111 [.rs 5 l.length (rowsN l), .b b, .ag [.i .i64 pm, .i .i64 pw]] [] (.i .i64 (low l b pm pw)) := by
  refine fn_of_exec tabOk Try.func111 (by kernel_rfl) rfl (N := Try.f111.ntmps) rfl (res := [.tmp 6]) rfl rfl [] ?_
  refine .inl ⟨[], Nat, fun k => k ≤ l.length, fun k => [⟨12, [], .i .i64 k⟩, ⟨7, [], .i .i64 (low (l.take k) b pm pw)⟩], fun _ => [], fun k => l.length - k,
    ⟨0, [], Nat.zero_le _, rfl, rfl, rfl, rfl, rfl, ⟨⟨rfl, rfl⟩, rfl, rfl⟩, trivial⟩, ?_⟩
  intro k hk
  refine .inl ⟨fun hc => ?_, fun hc => ?_⟩
  · have hc := dlt hc
    have hs := low_succ l b pm pw k (by omega)
    refine .inl ⟨by omega, .inl ⟨[], _, says_fn (l.getD k dN) _ _ _, ⟨fun h => ?_, fun h => ?_⟩⟩⟩
    · refine ⟨k + 1, [], by dsimp only; omega, by dsimp only; omega, rfl, rfl, rfl, rfl, rfl, ⟨⟨rfl, wr (by omega) (by omega)⟩, rfl, ?_⟩, trivial⟩
      rw [hs, h, if_pos rfl]
      rfl
    · refine ⟨k + 1, [], by dsimp only; omega, by dsimp only; omega, rfl, rfl, rfl, rfl, rfl, ⟨⟨rfl, wr (by omega) (by omega)⟩, rfl, ?_⟩, trivial⟩
      rw [hs, h, if_neg (by simp)]
  · have hc := dnlt hc
    refine RetIs.i ?_
    rw [List.take_of_length_le (by omega)]
end Go.Proofs.Ytnookbebiacaeaa
end

section
namespace Go.Proofs.Ytnookbebiacaeaa
open Go.Eng

set_option maxRecDepth 20000 in
theorem valid1_fn (n : Note) : Ctr Try.prog 160 [.ag n.av] [] (.b (!vnote n)) := by
  refine fn_of_exec tabOk Try.func160 (by kernel_rfl) rfl (N := Try.f160.ntmps) rfl (res := [.tmp 2]) rfl rfl [] ?_
  refine .inl ⟨[], _, between_fn _ _ _, .inl ⟨[], _, fun _ => between_fn _ _ _, .inl ⟨[], _, fun _ => between_fn _ _ _, .inl ⟨[], _, fun _ => between_fn _ _ _, ?_⟩⟩⟩⟩
  refine RetIs.b ?_
  simp [vnote, Bool.not_and]

theorem gd {l : List Note} {k : Nat} (h : k < l.length) : l.getD k dN = l[k] := by simp [List.getD_eq_getElem?_getD, h]
/-- The first place where p holds, or -1. -/
def idxF (p : Note → Bool) (l : List Note) : Int := match l.findIdx? p with | some k => k | none => -1
theorem idxF_some (p : Note → Bool) (l : List Note) (k : Nat) (hk : k < l.length) (h1 : ∀ j, j < k → p (l.getD j dN) = false) (h2 : p (l.getD k dN) = true) : idxF p l = k := by
  have : l.findIdx? p = some k := by
    rw [List.findIdx?_eq_some_iff_getElem]
    refine ⟨hk, ?_, fun j hj => ?_⟩
    · rw [gd hk] at h2; exact h2
    · have := h1 j hj
      rw [gd (by omega)] at this
      simp [this]
  simp [idxF, this]
theorem idxF_none (p : Note → Bool) (l : List Note) (h1 : ∀ j, j < l.length → p (l.getD j dN) = false) : idxF p l = -1 := by
  have : l.findIdx? p = none := by
    rw [List.findIdx?_eq_none_iff]
    intro x hx
    obtain ⟨j, hj, rfl⟩ := List.getElem_of_mem hx
    have := h1 j hj
    rw [gd hj] at this
    exact this
  simp [idxF, this]
theorem idxF_any (p : Note → Bool) (l : List Note) : decide (idxF p l ≥ 0) = l.any p := by
  unfold idxF
  cases h : l.findIdx? p with
  | none =>
    rw [List.findIdx?_eq_none_iff] at h
    have : l.any p = false := by simpa using h
    rw [this]; rfl
  | some k =>
    rw [List.findIdx?_eq_some_iff_getElem] at h
    obtain ⟨hk, hp, _⟩ := h
    have : l.any p = true := by rw [List.any_eq_true]; exact ⟨_, List.getElem_mem hk, hp⟩
    rw [this]
    simp

set_option maxRecDepth 20000 in
theorem index0_fn (l : List Note) (hl : l.length < 2^62) (fid : FuncId) (p : Note → Bool) (hp : ∀ x : Note, Ctr Try.prog fid [.ag x.av] [] (.b (p x))) :
    Ctr Try.prog 163 [.rs 5 l.length (rowsN l), .fn fid []] [] (.i .i64 (idxF p l)) := by
  refine fn_of_exec tabOk Try.func163 (by kernel_rfl) rfl (N := Try.f163.ntmps) rfl (res := [.tmp 4]) rfl rfl [] ?_
  refine .inl ⟨[], Nat, fun k => k ≤ l.length ∧ ∀ j, j < k → p (l.getD j dN) = false, fun k => [⟨8, [], .i .i64 k⟩], fun _ => [], fun k => l.length - k,
    ⟨0, [], ⟨Nat.zero_le _, fun j hj => by omega⟩, rfl, rfl, rfl, rfl, rfl, ⟨rfl, rfl⟩, trivial⟩, ?_⟩
  intro k hk
  obtain ⟨hk, hno⟩ := hk
  refine .inl ⟨fun hc => ?_, fun hc => ?_⟩
  · have hc := dlt hc
    refine .inl ⟨by omega, .inl ⟨[], _, hp (l.getD k dN), ⟨fun h => ?_, fun h => ?_⟩⟩⟩
    · refine RetIs.i ?_
      exact (idxF_some p l k (by omega) hno h).symm
    · refine ⟨k + 1, [], ⟨by omega, fun j hj => ?_⟩, by dsimp only; omega, rfl, rfl, rfl, rfl, rfl, ⟨rfl, wr (by omega) (by omega)⟩, trivial⟩
      by_cases hjk : j = k
      · subst hjk; exact h
      · exact hno j (by omega)
  · have hc := dnlt hc
    refine RetIs.i ?_
    exact (idxF_none p l fun j hj => hno j (by omega)).symm

set_option maxRecDepth 20000 in
theorem contains0_fn (l : List Note) (hl : l.length < 2^62) (fid : FuncId) (p : Note → Bool) (hp : ∀ x : Note, Ctr Try.prog fid [.ag x.av] [] (.b (p x))) :
    Ctr Try.prog 112 [.rs 5 l.length (rowsN l), .fn fid []] [] (.b (l.any p)) := by
  refine fn_of_exec tabOk Try.func112 (by kernel_rfl) rfl (N := Try.f112.ntmps) rfl (res := [.tmp 4]) rfl rfl [] ?_
  refine .inl ⟨[], _, index0_fn l hl fid p hp, ?_⟩
  exact RetIs.b (idxF_any p l)

def valid (l : List Note) : Bool := decide (l.length ≤ 1000) && !l.any fun n => !vnote n
set_option maxRecDepth 20000 in
theorem valid_fn (l : List Note) (hl : l.length < 2^62) : Ctr Try.prog 110 [.rs 5 l.length (rowsN l)] [] (.b (valid l)) := by
  refine fn_of_exec tabOk Try.func110 (by kernel_rfl) rfl (N := Try.f110.ntmps) rfl (res := [.tmp 2]) rfl rfl [] ?_
  refine .inl ⟨[], _, fun _ => contains0_fn l hl 160 (fun n => !vnote n) valid1_fn, ?_⟩
  refine RetIs.b ?_
  have : decide ((l.length : Int) ≤ 1000) = decide (l.length ≤ 1000) := decide_eq_decide.2 (by omega)
  simp [valid, this]

def den (n : Note) (pm pw : Int) : Bool := n.n && n.m == pm && n.w == pw
def high (l : List Note) (pm pw : Int) : Int := l.foldl (fun a n => if den n pm pw then min a (IntKind.i64.wrap (n.l - 1)) else a) 4
theorem high_succ (l : List Note) (pm pw : Int) (k : Nat) (h : k < l.length) : high (l.take (k + 1)) pm pw = if den (l.getD k dN) pm pw then min (high (l.take k) pm pw) (IntKind.i64.wrap ((l.getD k dN).l - 1)) else high (l.take k) pm pw :=
  foldl_take _ _ l k dN h

set_option maxRecDepth 20000 in
theorem high_fn (l : List Note) (hl : l.length < 2^62) (pm pw : Int) : Ctr Try.prog 114 [.rs 5 l.length (rowsN l), .ag [.i .i64 pm, .i .i64 pw]] [] (.i .i64 (high l pm pw)) := by
  refine fn_of_exec tabOk Try.func114 (by kernel_rfl) rfl (N := Try.f114.ntmps) rfl (res := [.tmp 4]) rfl rfl [] ?_
  refine .inl ⟨[], Nat, fun k => k ≤ l.length, fun k => [⟨10, [], .i .i64 k⟩, ⟨5, [], .i .i64 (high (l.take k) pm pw)⟩], fun _ => [], fun k => l.length - k,
    ⟨0, [], Nat.zero_le _, rfl, rfl, rfl, rfl, rfl, ⟨⟨rfl, rfl⟩, rfl, rfl⟩, trivial⟩, ?_⟩
  intro k hk
  refine .inl ⟨fun hc => ?_, fun hc => ?_⟩
  · have hc := dlt hc
    have hs := high_succ l pm pw k (by omega)
    refine .inl ⟨by omega, ⟨fun h => ?_, fun h => ?_⟩⟩
    · have h : den (l.getD k dN) pm pw = true := h
      refine ⟨k + 1, [], by dsimp only; omega, by dsimp only; omega, rfl, rfl, rfl, rfl, rfl, ⟨⟨rfl, wr (by omega) (by omega)⟩, rfl, ?_⟩, trivial⟩
      rw [hs, h, if_pos rfl]
      rfl
    · have h : den (l.getD k dN) pm pw = false := h
      refine ⟨k + 1, [], by dsimp only; omega, by dsimp only; omega, rfl, rfl, rfl, rfl, rfl, ⟨⟨rfl, wr (by omega) (by omega)⟩, rfl, ?_⟩, trivial⟩
      rw [hs, h, if_neg (by simp)]
  · have hc := dnlt hc
    refine RetIs.i ?_
    rw [List.take_of_length_le (by omega)]
end Go.Proofs.Ytnookbebiacaeaa
end

section
namespace Go.Proofs.Ytnookbebiacaeaa
open Go.Eng

def Low (l : List Note) (b : Bool) (m w : Int) : Int := if valid l then low l b m w else 0
def High (l : List Note) (m w : Int) : Int := if valid l then high l m w else 4
set_option maxRecDepth 20000 in
theorem Low_fn (l : List Note) (hl : l.length < 2^62) (b : Bool) (m w : Int) : Ctr Try.prog 35 [.rs 5 l.length (rowsN l), .b b, .i .i64 m, .i .i64 w] [] (.i .i64 (Low l b m w)) := by
  refine fn_of_exec tabOk Try.func35 (by kernel_rfl) rfl (N := Try.f35.ntmps) rfl (res := [.tmp 8]) rfl rfl [] ?_
  refine .inl (.inl ⟨[], _, valid_fn l hl, ⟨fun h => ?_, fun h => .inl ⟨[], _, low_fn l hl b m w, ?_⟩⟩⟩)
  · exact RetIs.i (by simp at h; simp [Low, h])
  · exact RetIs.i (by simp at h; simp [Low, h])
set_option maxRecDepth 20000 in
theorem High_fn (l : List Note) (hl : l.length < 2^62) (b : Bool) (m w : Int) : Ctr Try.prog 37 [.rs 5 l.length (rowsN l), .b b, .i .i64 m, .i .i64 w] [] (.i .i64 (High l m w)) := by
  refine fn_of_exec tabOk Try.func37 (by kernel_rfl) rfl (N := Try.f37.ntmps) rfl (res := [.tmp 8]) rfl rfl [] ?_
  refine .inl (.inl ⟨[], _, valid_fn l hl, ⟨fun h => ?_, fun h => .inl ⟨[], _, high_fn l hl m w, ?_⟩⟩⟩)
  · exact RetIs.i (by simp at h; simp [High, h])
  · exact RetIs.i (by simp at h; simp [High, h])

def bad (l : List Note) (b : Bool) (n : Note) : Bool := n.n && decide (low l b n.m n.w > high l n.m n.w)
set_option maxRecDepth 20000 in
theorem right1_fn (l : List Note) (hl : l.length < 2^62) (b : Bool) (n : Note) : Ctr Try.prog 113 [.ag n.av, .rp [.rs 5 l.length (rowsN l)], .rp [.b b]] [] (.b (bad l b n)) := by
  refine fn_of_exec tabOk Try.func113 (by kernel_rfl) rfl (N := Try.f113.ntmps) rfl (res := [.tmp 4]) rfl rfl [] ?_
  refine .inl ⟨[], _, fun _ => low_fn l hl b _ _, .inl ⟨[], _, fun _ => high_fn l hl _ _, ?_⟩⟩
  exact RetIs.b rfl
end Go.Proofs.Ytnookbebiacaeaa
end

section
namespace Go.Proofs.Ytnookbebiacaeaa
open Go.Eng

set_option maxRecDepth 20000 in
theorem index2_fn (l : List Note) (hl : l.length < 2^62) (fid : FuncId) (c1 c2 : List AV) (p : Note → Bool) (hp : ∀ x : Note, Ctr Try.prog fid [.ag x.av, .rp c1, .rp c2] [] (.b (p x))) :
    Ctr Try.prog 163 [.rs 5 l.length (rowsN l), .fn fid [.rp c1, .rp c2]] [] (.i .i64 (idxF p l)) := by
  refine fn_of_exec tabOk Try.func163 (by kernel_rfl) rfl (N := Try.f163.ntmps) rfl (res := [.tmp 4]) rfl rfl [] ?_
  refine .inl ⟨[], Nat, fun k => k ≤ l.length ∧ ∀ j, j < k → p (l.getD j dN) = false, fun k => [⟨8, [], .i .i64 k⟩], fun _ => [], fun k => l.length - k,
    ⟨0, [], ⟨Nat.zero_le _, fun j hj => by omega⟩, rfl, rfl, rfl, rfl, rfl, ⟨rfl, rfl⟩, trivial⟩, ?_⟩
  intro k hk
  obtain ⟨hk, hno⟩ := hk
  refine .inl ⟨fun hc => ?_, fun hc => ?_⟩
  · have hc := dlt hc
    refine .inl ⟨by omega, .inl ⟨[], _, hp (l.getD k dN), ⟨fun h => ?_, fun h => ?_⟩⟩⟩
    · refine RetIs.i ?_
      exact (idxF_some p l k (by omega) hno h).symm
    · refine ⟨k + 1, [], ⟨by omega, fun j hj => ?_⟩, by dsimp only; omega, rfl, rfl, rfl, rfl, rfl, ⟨rfl, wr (by omega) (by omega)⟩, trivial⟩
      by_cases hjk : j = k
      · subst hjk; exact h
      · exact hno j (by omega)
  · have hc := dnlt hc
    refine RetIs.i ?_
    exact (idxF_none p l fun j hj => hno j (by omega)).symm

set_option maxRecDepth 20000 in
theorem contains2_fn (l : List Note) (hl : l.length < 2^62) (fid : FuncId) (c1 c2 : List AV) (p : Note → Bool) (hp : ∀ x : Note, Ctr Try.prog fid [.ag x.av, .rp c1, .rp c2] [] (.b (p x))) :
    Ctr Try.prog 112 [.rs 5 l.length (rowsN l), .fn fid [.rp c1, .rp c2]] [] (.b (l.any p)) := by
  refine fn_of_exec tabOk Try.func112 (by kernel_rfl) rfl (N := Try.f112.ntmps) rfl (res := [.tmp 4]) rfl rfl [] ?_
  refine .inl ⟨[], _, index2_fn l hl fid c1 c2 p hp, ?_⟩
  exact RetIs.b (idxF_any p l)

def Right (l : List Note) (b : Bool) : Bool := valid l && !l.any (bad l b)
set_option maxRecDepth 20000 in
theorem Right_fn (l : List Note) (hl : l.length < 2^62) (b : Bool) : Ctr Try.prog 36 [.rs 5 l.length (rowsN l), .b b] [] (.b (Right l b)) := by
  refine fn_of_exec tabOk Try.func36 (by kernel_rfl) rfl (N := Try.f36.ntmps) rfl (res := [.tmp 4]) rfl rfl [] ?_
  refine .inl (.inl ⟨[], _, valid_fn l hl, ⟨fun h => ?_, fun h => .inl ⟨[], _, contains2_fn l hl 113 _ _ (bad l b) (right1_fn l hl b), ?_⟩⟩⟩)
  · exact RetIs.b (by simp at h; simp [Right, h])
  · exact RetIs.b (by simp at h; simp [Right, h])

end Go.Proofs.Ytnookbebiacaeaa
end

section
namespace Go.Proofs.Ytnookbebiacaeaa
open Go.Eng

/-- The reference's law: no note at which the least level is over the greatest one. -/
def rRight (l : List Note) (b : Bool) : Bool := valid l && l.all fun n => decide (Low l b n.m n.w ≤ High l n.m n.w)
end Go.Proofs.Ytnookbebiacaeaa
end

section
namespace Go.Proofs.Ytnookbebiacaeaa
open Go.Eng

theorem foldl_le (b : Bool) (m w : Int) : ∀ (l : List Note) (a : Int), a ≤ 4 → (∀ n ∈ l, n.l ≤ 4) → l.foldl (fun a n => if says n b m w then max a n.l else a) a ≤ 4
  | [], a, h, _ => h
  | n :: r, a, h, hv => by
    refine foldl_le b m w r _ ?_ fun n hn => hv n (List.mem_cons_of_mem _ hn)
    have := hv n (by simp)
    dsimp only
    split <;> omega
theorem foldl_none (m w : Int) : ∀ (l : List Note) (a : Int), (∀ n ∈ l, den n m w = false) → l.foldl (fun a n => if den n m w then min a (IntKind.i64.wrap (n.l - 1)) else a) a = a
  | [], a, _ => rfl
  | n :: r, a, hv => by
    simp only [List.foldl_cons, hv n (by simp), Bool.false_eq_true, if_false]
    exact foldl_none m w r a fun n hn => hv n (List.mem_cons_of_mem _ hn)
theorem valid_all {l : List Note} (h : valid l = true) : ∀ n ∈ l, vnote n = true := by
  intro n hn
  unfold valid at h
  simp at h
  exact h.2 n hn
theorem right_eq (l : List Note) (b : Bool) : Right l b = rRight l b := by
  unfold Right rRight
  cases hv : valid l with
  | false => rfl
  | true =>
    have hall := valid_all hv
    simp only [Bool.true_and, Low, High, hv, if_true]
    rw [Bool.eq_iff_iff]
    simp only [Bool.not_eq_true', List.any_eq_false, List.all_eq_true, decide_eq_true_eq]
    constructor
    · intro h n hn
      by_cases hd : ∃ x ∈ l, den x n.m n.w = true
      · obtain ⟨x, hx, hxd⟩ := hd
        have h2 := h x hx
        unfold den at hxd
        simp at hxd
        obtain ⟨⟨h3, h4⟩, h5⟩ := hxd
        unfold bad at h2
        rw [h3, h4, h5] at h2
        simp at h2
        omega
      · have hno : ∀ x ∈ l, den x n.m n.w = false := fun x hx => by
          cases hh : den x n.m n.w with
          | false => rfl
          | true => exact (hd ⟨x, hx, hh⟩).elim
        have h1 : high l n.m n.w = 4 := foldl_none n.m n.w l 4 hno
        have h2 : low l b n.m n.w ≤ 4 := foldl_le b n.m n.w l 0 (by omega) fun x hx => by
          have := hall x hx
          unfold vnote at this
          simp at this
          omega
        omega
    · intro h n hn hb
      unfold bad at hb
      simp at hb
      have := h n hn
      omega
end Go.Proofs.Ytnookbebiacaeaa
end

section
/-
  LevelsMore in plain terms: what a further note, and another order and other steps, do to the least and the greatest level.
-/
namespace Go.Proofs.Ytnookbebiacaeaa
open Go.Eng

theorem foldmax_le (b : Bool) (m w v : Int) : ∀ (l : List Note) (a : Int), l.foldl (fun a n => if says n b m w then max a n.l else a) a ≤ v ↔ a ≤ v ∧ ∀ n ∈ l, says n b m w = true → n.l ≤ v
  | [], a => by simp
  | n :: r, a => by
    simp only [List.foldl_cons, List.mem_cons, forall_eq_or_imp]
    rw [foldmax_le b m w v r]
    cases hs : says n b m w
    · simp
    · simp only [if_true, forall_const]
      constructor
      · rintro ⟨h1, h2⟩; exact ⟨by omega, by omega, h2⟩
      · rintro ⟨h1, h2, h3⟩; exact ⟨by omega, h3⟩
theorem low_le (b : Bool) (m w v : Int) (l : List Note) : low l b m w ≤ v ↔ 0 ≤ v ∧ ∀ n ∈ l, says n b m w = true → n.l ≤ v := foldmax_le b m w v l 0
theorem foldmin_ge (m w v : Int) : ∀ (l : List Note) (a : Int), (∀ n ∈ l, vnote n = true) → (v ≤ l.foldl (fun a n => if den n m w then min a (IntKind.i64.wrap (n.l - 1)) else a) a ↔ v ≤ a ∧ ∀ n ∈ l, den n m w = true → v ≤ n.l - 1)
  | [], a, _ => by simp
  | n :: r, a, hv => by
    simp only [List.foldl_cons, List.mem_cons, forall_eq_or_imp]
    rw [foldmin_ge m w v r _ fun n hn => hv n (List.mem_cons_of_mem _ hn)]
    have hn := hv n (by simp)
    unfold vnote at hn
    simp at hn
    rw [wr (by omega) (by omega)]
    cases hs : den n m w
    · simp
    · simp only [if_true, forall_const]
      constructor
      · rintro ⟨h1, h2⟩; exact ⟨by omega, by omega, h2⟩
      · rintro ⟨h1, h2, h3⟩; exact ⟨by omega, h3⟩
theorem high_ge (m w v : Int) (l : List Note) (hv : ∀ n ∈ l, vnote n = true) : v ≤ high l m w ↔ v ≤ 4 ∧ ∀ n ∈ l, den n m w = true → v ≤ n.l - 1 := foldmin_ge m w v l 4 hv

/-- The note but for its step. -/
def strip (n : Note) : Note := { n with s := 0 }
/-- Each note of the one list, but for its step, is one of the other. -/
def subN (l l' : List Note) : Prop := ∀ n ∈ l, ∃ k ∈ l', strip n = strip k
def steps (r : List Note) : List Note := (List.range r.length).map fun j => { r.getD j dN with s := (j : Int) }
theorem subN.trans {a b c : List Note} (h1 : subN a b) (h2 : subN b c) : subN a c := fun n hn => by
  obtain ⟨k, hk, e⟩ := h1 n hn
  obtain ⟨j, hj, e2⟩ := h2 k hk
  exact ⟨j, hj, e.trans e2⟩
theorem ones (n : Note) : ∀ k, k < 1 → rowOf 5 n.av k = rowsN [n] k := by
  intro k hk
  have : k = 0 := by omega
  subst this
  rfl
end Go.Proofs.Ytnookbebiacaeaa
end

section
/-
  Receipts: copies, comparing, adding, forwarding.
-/
namespace Go.Proofs.Ytnookbebiacaeaa
open Go.Eng

theorem RetIs.soI {k : IntKind} {c d : Int} {e sz n n' : Nat} {get get' : Nat → List AV} {id nid : Nat} {O : List OE} (hg : getO id O = some ([], .row e sz n' get')) (hn : n' = n) (hget : ∀ k, k < n → get' k = get k) (hf : ∀ k, k < n → AV.freshs (get k) = true) (hd : d = c) :
    RetIs [.row e sz n get] (.tup [.so 0, .i k c]) (.tup [.so id, .i k d]) O nid := by
  subst hn
  subst hd
  refine ⟨[(0, id)], ⟨⟨⟨rfl, rfl, ?_⟩, trivial⟩, ⟨⟨rfl, rfl, trivial, ?_⟩, trivial⟩, rfl⟩, rfl, hf⟩
  · exact rfl
  · show (match AO.row e sz n' get, getO id O with
      | .dead, _ => True
      | o, some ([], o') => AOEq (o.ren (rn [(0, id)])) o'
      | _, _ => False)
    rw [hg]
    exact ⟨rfl, rfl, rfl, hget⟩
theorem fresh_rowsN (l : List Note) : ∀ k, k < l.length → AV.freshs (rowsN l k) = true := fun _ _ => rfl
theorem snocN (l : List Note) (n : Note) : ∀ k, k < (l ++ [n]).length → catG l.length (rowsN l) (rowOf 5 n.av) k = rowsN (l ++ [n]) k := by
  intro k hk
  unfold catG rowsN
  by_cases h : k < l.length
  · rw [if_pos h]
    simp [List.getD, List.getElem?_append_left h]
  · rw [if_neg h]
    have : k = l.length := by simp at hk; omega
    subst this
    simp [List.getD]
    rfl
theorem cat_rowsN (l : List Note) : ∀ k, k < l.length → catG 0 (rowOf 5 []) (rowsN l) k = rowsN l k := fun _ _ => rfl

def rowsI (l : List Int) (k : Nat) : List AV := [.i .i64 (l.getD k 0)]
set_option maxRecDepth 20000 in
theorem cloneN_fn (l : List Note) (hl : l.length ≤ 100000) : Ctr Try.prog 101 [.rs 5 l.length (rowsN l)] [.row 24 5 l.length (rowsN l)] (.so 0) := by
  refine fn_of_exec tabOk Try.func101 (by kernel_rfl) rfl (N := Try.f101.ntmps) rfl (res := [.tmp 2]) rfl rfl [(999999, [.nl 2 24 5])] ?_
  refine .inl fun c hc => ⟨fun h => ?_, fun h => ⟨fits (by omega), ?_⟩⟩
  · have h0 : l.length = 0 := hc (by cases c <;> first | rfl | cases h)
    exact RetIs.so rfl h0.symm (fun k hk => by omega) (fun k hk => by omega)
  · exact RetIs.so rfl (Nat.zero_add _) (cat_rowsN l) (fresh_rowsN l)

theorem onesN (n : Note) : AVEq (.rs 5 [n].length (rowsN [n])) (.rs 5 1 (rowOf 5 n.av)) := ⟨rfl, rfl, fun k hk => ones n k hk⟩
set_option maxRecDepth 20000 in
theorem valid1N_fn (n : Note) : Ctr Try.prog 100 [.ag n.av] [] (.b (Right [n] false)) := by
  refine fn_of_exec tabOk Try.func100 (by kernel_rfl) rfl (N := Try.f100.ntmps) rfl (res := [.tmp 2]) rfl rfl [] ?_
  repeat refine Or.inl ?_
  refine ⟨[], _, Ctr.of_eq (args := [.rs 5 [n].length (rowsN [n]), .b false]) ⟨onesN n, AVEq.refl _⟩ (Right_fn [n] (by simp) false), ?_⟩
  exact RetIs.b rfl

instance : DecidableEq Note := fun a b =>
  if h : a.m = b.m ∧ a.w = b.w ∧ a.l = b.l ∧ a.s = b.s ∧ a.n = b.n then isTrue (by obtain ⟨a1, a2, a3, a4, a5⟩ := a; obtain ⟨b1, b2, b3, b4, b5⟩ := b; simp at h; obtain ⟨rfl, rfl, rfl, rfl, rfl⟩ := h; rfl) else isFalse (by rintro rfl; exact h ⟨rfl, rfl, rfl, rfl, rfl⟩)
/-- Equality of two lists, looked through from the front. -/
def eqUpto {α : Type} [DecidableEq α] (d : α) (a b : List α) (k : Nat) : Prop := ∀ j, j < k → a.getD j d = b.getD j d
theorem eqUpto_all {α : Type} [DecidableEq α] {d : α} {a b : List α} (hl : a.length = b.length) (h : eqUpto d a b a.length) : a = b := by
  refine List.ext_getElem hl fun j h1 h2 => ?_
  have := h j h1
  simp only [List.getD, List.getElem?_eq_getElem h1, List.getElem?_eq_getElem h2, Option.getD_some] at this
  exact this

set_option maxRecDepth 20000 in
theorem ints_fn (a b : List Int) (ha : a.length < 2^62) (hb : b.length < 2^62) : Ctr Try.prog 30 [.rs 1 a.length (rowsI a), .rs 1 b.length (rowsI b)] [] (.b (decide (a = b))) := by
  refine fn_of_exec tabOk Try.func30 (by kernel_rfl) rfl (N := Try.f30.ntmps) rfl (res := [.tmp 4]) rfl rfl [] ?_
  refine .inl ⟨fun h => ?_, fun h => ?_⟩
  · refine RetIs.b ?_
    have h : ((a.length : Int) != b.length) = true := h
    simp at h
    simp
    intro he
    exact h (by rw [he])
  have h : ((a.length : Int) != b.length) = false := h
  simp at h
  have hl : a.length = b.length := by omega
  refine .inl ⟨[], Nat, fun k => k ≤ a.length ∧ eqUpto 0 a b k, fun k => [⟨5, [], .i .i64 k⟩], fun _ => [], fun k => a.length - k,
    ⟨0, [], ⟨Nat.zero_le _, fun j hj => by omega⟩, rfl, rfl, rfl, rfl, rfl, ⟨rfl, rfl⟩, trivial⟩, ?_⟩
  rintro k ⟨hk, he⟩
  refine .inl ⟨fun hc => ?_, fun hc => ?_⟩
  · have hc := dlt hc
    refine .inl ⟨⟨by omega, by omega⟩, ⟨by omega, by omega⟩, ⟨fun h2 => ?_, fun h2 => ?_⟩⟩
    · refine RetIs.b ?_
      have h2 : (a.getD (k : Int).toNat 0 != b.getD (k : Int).toNat 0) = true := h2
      rw [Int.toNat_natCast] at h2
      simp only [bne_iff_ne] at h2
      symm
      rw [decide_eq_false_iff_not]
      rintro rfl
      exact h2 rfl
    · have h2 : (a.getD (k : Int).toNat 0 != b.getD (k : Int).toNat 0) = false := h2
      rw [Int.toNat_natCast] at h2
      have h3 : a.getD k 0 = b.getD k 0 := by simpa using h2
      refine ⟨k + 1, [], ⟨by omega, fun j hj => ?_⟩, by dsimp only; omega, rfl, rfl, rfl, rfl, rfl, ⟨rfl, wr (by omega) (by omega)⟩, trivial⟩
      by_cases hjk : j = k
      · rw [hjk]; exact h3
      · exact he j (by omega)
  · have hc := dnlt hc
    refine RetIs.b ?_
    have hk2 : k = a.length := by omega
    subst hk2
    simp [eqUpto_all hl he]
theorem note_ne (a b : Note) : eqAVs a.av b.av = decide (a = b) := by
  obtain ⟨a1, a2, a3, a4, a5⟩ := a
  obtain ⟨b1, b2, b3, b4, b5⟩ := b
  simp only [Note.av, eqAVs, eqAV]
  rw [Bool.eq_iff_iff]
  simp [Note.mk.injEq]
set_option maxRecDepth 20000 in
theorem sameN_fn (a b : List Note) (ha : a.length < 2^62) (hb : b.length < 2^62) : Ctr Try.prog 27 [.rs 5 a.length (rowsN a), .rs 5 b.length (rowsN b)] [] (.b (decide (a = b))) := by
  refine fn_of_exec tabOk Try.func27 (by kernel_rfl) rfl (N := Try.f27.ntmps) rfl (res := [.tmp 4]) rfl rfl [] ?_
  refine .inl ⟨fun h => ?_, fun h => ?_⟩
  · refine RetIs.b ?_
    have h : ((a.length : Int) != b.length) = true := h
    simp at h
    simp
    intro he
    exact h (by rw [he])
  have h : ((a.length : Int) != b.length) = false := h
  simp at h
  have hl : a.length = b.length := by omega
  refine .inl ⟨[], Nat, fun k => k ≤ a.length ∧ eqUpto dN a b k, fun k => [⟨5, [], .i .i64 k⟩], fun _ => [], fun k => a.length - k,
    ⟨0, [], ⟨Nat.zero_le _, fun j hj => by omega⟩, rfl, rfl, rfl, rfl, rfl, ⟨rfl, rfl⟩, trivial⟩, ?_⟩
  rintro k ⟨hk, he⟩
  refine .inl ⟨fun hc => ?_, fun hc => ?_⟩
  · have hc := dlt hc
    refine .inl ⟨⟨by omega, by omega⟩, ⟨by omega, by omega⟩, ⟨fun h2 => ?_, fun h2 => ?_⟩⟩
    · refine RetIs.b ?_
      have h2 : (!eqAVs (a.getD (k : Int).toNat dN).av (b.getD (k : Int).toNat dN).av) = true := h2
      rw [Int.toNat_natCast, note_ne] at h2
      symm
      rw [decide_eq_false_iff_not]
      rintro rfl
      simp at h2
    · have h2 : (!eqAVs (a.getD (k : Int).toNat dN).av (b.getD (k : Int).toNat dN).av) = false := h2
      rw [Int.toNat_natCast, note_ne] at h2
      have h3 : a.getD k dN = b.getD k dN := by simpa using h2
      refine ⟨k + 1, [], ⟨by omega, fun j hj => ?_⟩, by dsimp only; omega, rfl, rfl, rfl, rfl, rfl, ⟨rfl, wr (by omega) (by omega)⟩, trivial⟩
      by_cases hjk : j = k
      · rw [hjk]; exact h3
      · exact he j (by omega)
  · have hc := dnlt hc
    refine RetIs.b ?_
    have hk2 : k = a.length := by omega
    subst hk2
    simp [eqUpto_all hl he]

def addY (l : List Note) (n : Note) (b : Bool) : List Note × Int :=
  if (!Right l b || !Right [n] false) = true then ([], 1) else if 1000 ≤ l.length then ([], 6) else if Right (l ++ [n]) b = false then ([], 17) else (l ++ [n], 0)
set_option maxRecDepth 20000 in
set_option maxHeartbeats 4000000 in
theorem Add_fn (l : List Note) (hl : l.length < 2^62) (n : Note) (b : Bool) : Ctr Try.prog 23 [.rs 5 l.length (rowsN l), .ag n.av, .b b] [.row 24 5 (addY l n b).1.length (rowsN (addY l n b).1)] (.tup [.so 0, .i .i64 (addY l n b).2]) := by
  refine fn_of_exec tabOk Try.func23 (by kernel_rfl) rfl (N := Try.f23.ntmps) rfl (res := [.tmp 6, .tmp 7]) rfl rfl [(999999, [.nl 6 24 5])] ?_
  repeat refine Or.inl ?_
  refine ⟨[], _, Right_fn l hl b, ?_⟩
  repeat refine Or.inl ?_
  refine ⟨[], _, fun _ => valid1N_fn n, ⟨fun h => ?_, fun h => ?_⟩⟩
  · have h : (!Right l b || !Right [n] false) = true := h
    have e : addY l n b = ([], 1) := by unfold addY; rw [if_pos h]
    rw [e]
    exact RetIs.soI rfl rfl (fun k hk => by simp at hk) (fun k hk => by simp at hk) rfl
  have h : (!Right l b || !Right [n] false) = false := h
  have hno : ¬ (!Right l b || !Right [n] false) = true := by rw [h]; simp
  repeat refine Or.inl ?_
  refine ⟨fun h2 => ?_, fun h2 => ?_⟩
  · have h2 : decide ((l.length : Int) ≥ 1000) = true := h2
    rw [decide_eq_true_eq] at h2
    have e : addY l n b = ([], 6) := by unfold addY; rw [if_neg hno, if_pos (by omega)]
    rw [e]
    exact RetIs.soI rfl rfl (fun k hk => by simp at hk) (fun k hk => by simp at hk) rfl
  have h2 : decide ((l.length : Int) ≥ 1000) = false := h2
  rw [decide_eq_false_iff_not] at h2
  have hlen : (l ++ [n]).length = l.length + 1 := by simp
  repeat refine Or.inl ?_
  refine ⟨_, _, cloneN_fn l (by omega), fits (by omega), ?_⟩
  have hA : AVEq (.rs 5 (l ++ [n]).length (rowsN (l ++ [n]))) (.rs 5 (l.length + 1) (catG l.length (rowsN l) (rowOf 5 n.av))) := ⟨rfl, hlen.symm, fun k hk => snocN l n k hk⟩
  repeat refine Or.inl ?_
  refine ⟨[], _, Ctr.of_eq (args := [.rs 5 (l ++ [n]).length (rowsN (l ++ [n])), .b b]) ⟨hA, AVEq.refl _⟩ (Right_fn (l ++ [n]) (by omega) b), ⟨fun h3 => ?_, fun h3 => ?_⟩⟩
  · have h3 : (!Right (l ++ [n]) b) = true := h3
    have e : addY l n b = ([], 17) := by unfold addY; rw [if_neg hno, if_neg (by omega), if_pos (by simpa using h3)]
    rw [e]
    exact RetIs.soI rfl rfl (fun k hk => by simp at hk) (fun k hk => by simp at hk) rfl
  have h3 : (!Right (l ++ [n]) b) = false := h3
  have e : addY l n b = (l ++ [n], 0) := by unfold addY; rw [if_neg hno, if_neg (by omega), if_neg (by simpa using h3)]
  rw [e]
  exact RetIs.soI rfl hlen.symm (snocN l n) (fresh_rowsN _) rfl
end Go.Proofs.Ytnookbebiacaeaa
end

section
/-
  Receipts: the reference's adding and taking back, forwarding, reasons.
-/
namespace Go.Proofs.Ytnookbebiacaeaa
open Go.Eng

theorem RetIs.note {n m : Note} {O : List OE} {nid : Nat} (h : m = n) : RetIs [] (.ag n.av) (.ag m.av) O nid := ⟨[], ⟨⟨⟨rfl, rfl, by subst h; exact AVEq.refl _⟩, trivial⟩, trivial, rfl⟩, rfl, trivial⟩
structure Prof where
  nm : ByteArray
  a1 : Int
  a2 : Int
  a3 : Int
  b4 : Bool
  a5 : Int
  b6 : Bool
  b7 : Bool
  a8 : Int
  a9 : Int
  a10 : Int
  a11 : Int
  tn : Nat
  ty : Nat → List AV
  a13 : Int
  a14 : Int
  a15 : Int
  lv : Int
  b17 : Bool
  a18 : Int
  a19 : Int
  a20 : Int
  a21 : Int
def Prof.av (p : Prof) : List AV := [.s p.nm, .i .i64 p.a1, .i .i64 p.a2, .i .i64 p.a3, .b p.b4, .i .i64 p.a5, .b p.b6, .b p.b7, .i .i64 p.a8, .i .i64 p.a9, .i .i64 p.a10, .i .i64 p.a11, .rs 1 p.tn p.ty, .i .i64 p.a13, .i .i64 p.a14, .i .i64 p.a15, .i .i64 p.lv, .b p.b17, .i .i64 p.a18, .i .i64 p.a19, .i .i64 p.a20, .i .i64 p.a21]
def forward (lv : Int) (n : Note) : Note := if n.n = false then ⟨n.m, n.w, min n.l lv, n.s, false⟩ else if n.l > lv then ⟨n.m, n.w, 0, n.s, false⟩ else n
set_option maxRecDepth 20000 in
set_option maxHeartbeats 4000000 in
theorem Forward_fn (p : Prof) (n : Note) : Ctr Try.prog 28 [.ag p.av, .ag n.av] [] (.ag (forward p.lv n).av) := by
  refine fn_of_exec tabOk Try.func28 (by kernel_rfl) rfl (N := Try.f28.ntmps) rfl (res := [.cell 4 24]) rfl rfl [] ?_
  repeat refine Or.inl ?_
  refine ⟨fun h => ?_, fun h => ⟨fun h2 => ?_, fun h2 => ?_⟩⟩
  · have h : (!n.n) = true := h
    refine RetIs.note (m := ⟨n.m, n.w, min n.l p.lv, n.s, n.n⟩) ?_
    have h : n.n = false := by simpa using h
    unfold forward
    rw [if_pos h, h]
  · have h : (!n.n) = false := h
    have h2 : decide (n.l > p.lv) = true := h2
    refine RetIs.note (m := ⟨n.m, n.w, 0, n.s, false⟩) ?_
    have h : n.n = true := by simpa using h
    unfold forward
    rw [if_neg (by rw [h]; decide), if_pos (by simpa using h2)]
  · have h : (!n.n) = false := h
    have h2 : decide (n.l > p.lv) = false := h2
    refine RetIs.note (m := n) ?_
    have h : n.n = true := by simpa using h
    unfold forward
    rw [if_neg (by rw [h]; decide), if_neg (by simpa using h2)]
/-- Without the note with number k. -/
def lessN (l : List Note) (k : Nat) : List Note := l.take k ++ l.drop (k + 1)
def withY (l : List Note) (i : Int) : List Note × Int := if i < 0 ∨ (l.length : Int) ≤ i then ([], 4) else (lessN l i.toNat, 0)
theorem lessN_len {l : List Note} {k : Nat} (hk : k < l.length) : (lessN l k).length + 1 = l.length := by
  unfold lessN
  rw [List.length_append, List.length_take, List.length_drop]
  omega
theorem lessN_get (l : List Note) (k q : Nat) (hk : k < l.length) : (lessN l k).getD q dN = if q < k then l.getD q dN else l.getD (q + 1) dN := by
  unfold lessN
  simp only [List.getD]
  by_cases h : q < k
  · rw [if_pos h, List.getElem?_append_left (by rw [List.length_take]; omega), List.getElem?_take, if_pos h]
  · rw [if_neg h, List.getElem?_append_right (by rw [List.length_take]; omega), List.getElem?_drop, List.length_take]
    congr 2
    omega
theorem find_none_of {α : Type} {p : α → Bool} {l : List α} (h : ∀ x ∈ l, p x = false) : l.find? p = none := List.find?_eq_none.2 fun x hx => by rw [h x hx]; simp
theorem find_range_some {p : Nat → Bool} : ∀ {n k : Nat}, k < n → p k = true → (∀ j, j < k → p j = false) → (List.range n).find? p = some k
  | 0, k, h, _, _ => by omega
  | n + 1, k, h, h1, h2 => by
    rw [List.range_succ, List.find?_append]
    by_cases hk : k < n
    · rw [find_range_some hk h1 h2]; rfl
    · obtain rfl : k = n := by omega
      rw [find_none_of (fun x hx => h2 x (List.mem_range.1 hx))]
      simp [h1]
/-- The first note that says as much as all. -/
def reasonL (l : List Note) (b : Bool) (m w : Int) : List Int :=
  if Low l b m w = 0 then [] else match (List.range l.length).find? fun k => decide (Low [l.getD k dN] b m w = Low l b m w) with
    | some k => [(k : Int)]
    | none => []
theorem reason_zero {l : List Note} {b : Bool} {m w : Int} (h : Low l b m w = 0) : reasonL l b m w = [] := by unfold reasonL; rw [if_pos h]
theorem reason_at {l : List Note} {b : Bool} {m w : Int} {k : Nat} (h : Low l b m w ≠ 0) (hk : k < l.length) (h1 : Low [l.getD k dN] b m w = Low l b m w) (h2 : ∀ j, j < k → Low [l.getD j dN] b m w ≠ Low l b m w) : reasonL l b m w = [(k : Int)] := by
  unfold reasonL
  rw [if_neg h, find_range_some hk (decide_eq_true h1) fun j hj => decide_eq_false (h2 j hj)]
theorem reason_no {l : List Note} {b : Bool} {m w : Int} (h2 : ∀ j, j < l.length → Low [l.getD j dN] b m w ≠ Low l b m w) : reasonL l b m w = [] := by
  unfold reasonL
  split
  · rfl
  · rw [find_none_of fun x hx => decide_eq_false (h2 x (List.mem_range.1 hx))]
theorem partN (l : List Note) (k : Nat) (_hk : k < l.length) (w : Int) (hw : w = (k : Int) + 1) : AVEq (.rs 5 [l.getD k dN].length (rowsN [l.getD k dN])) (.rs 5 (w - (k : Int)).toNat fun q => rowsN l ((k : Int).toNat + q)) := by
  subst hw
  refine ⟨rfl, by simp, fun q hq => ?_⟩
  have : q = 0 := by simpa using hq
  subst this
  simp [rowsN]
set_option maxRecDepth 20000 in
set_option maxHeartbeats 4000000 in
theorem Reason_fn (l : List Note) (hl : l.length ≤ 100000) (b : Bool) (m w : Int) : Ctr Try.prog 31 [.rs 5 l.length (rowsN l), .b b, .i .i64 m, .i .i64 w] [.row 3 1 (reasonL l b m w).length (rowsI (reasonL l b m w))] (.so 0) := by
  refine fn_of_exec tabOk Try.func31 (by kernel_rfl) rfl (N := Try.f31.ntmps) rfl (res := [.tmp 8]) rfl rfl [(999999, [.nl 8 3 1])] ?_
  repeat refine Or.inl ?_
  refine ⟨[], _, Low_fn l (by omega) b m w, ?_⟩
  repeat refine Or.inl ?_
  refine ⟨fun h => ?_, fun h => ?_⟩
  · have h : (Low l b m w == 0) = true := h
    rw [reason_zero (by simpa using h)]
    exact RetIs.so rfl rfl (fun k hk => by simp at hk) (fun k hk => by simp at hk)
  have h : (Low l b m w == 0) = false := h
  have h0 : Low l b m w ≠ 0 := by simpa using h
  repeat refine Or.inl ?_
  refine ⟨[], Nat, fun k => k ≤ l.length ∧ ∀ j, j < k → Low [l.getD j dN] b m w ≠ Low l b m w, fun k => [⟨20, [], .i .i64 k⟩], fun _ => [], fun k => l.length - k,
    ⟨0, [], ⟨Nat.zero_le _, fun j hj => by omega⟩, rfl, rfl, rfl, rfl, rfl, ⟨rfl, rfl⟩, trivial⟩, ?_⟩
  rintro k ⟨hk, hno⟩
  refine .inl ⟨fun hc => ?_, fun hc => ?_⟩
  · have hc := dlt hc
    have w1 : IntKind.i64.wrap ((k : Int) + 1) = ((k + 1 : Nat) : Int) := wr (by omega) (by omega)
    have hp := partN l k (by omega) (IntKind.i64.wrap ((k : Int) + 1)) (by rw [w1]; omega)
    repeat refine Or.inl ?_
    refine ⟨⟨by omega, by omega, by omega⟩, ?_⟩
    repeat refine Or.inl ?_
    refine ⟨[], _, Ctr.of_eq (args := [.rs 5 [l.getD k dN].length (rowsN [l.getD k dN]), .b b, .i .i64 m, .i .i64 w]) ⟨hp, AVEq.refl _, AVEq.refl _, AVEq.refl _⟩ (Low_fn [l.getD k dN] (by simp) b m w), ⟨fun h2 => ?_, fun h2 => ?_⟩⟩
    · have h2 : (Low [l.getD k dN] b m w == Low l b m w) = true := h2
      rw [reason_at h0 (by omega) (by simpa using h2) hno]
      exact RetIs.so rfl rfl (fun q hq => by
        have : q = 0 := by simpa using hq
        subst this
        rfl) (fun q hq => rfl)
    · have h2 : (Low [l.getD k dN] b m w == Low l b m w) = false := h2
      refine ⟨k + 1, [], ⟨by omega, fun j hj => ?_⟩, by dsimp only; omega, rfl, rfl, rfl, rfl, rfl, ⟨rfl, w1⟩, trivial⟩
      by_cases hjk : j = k
      · rw [hjk]; simpa using h2
      · exact hno j (by omega)
  · have hc := dnlt hc
    obtain rfl : k = l.length := by omega
    rw [reason_no hno]
    exact RetIs.so rfl rfl (fun k hk => by simp at hk) (fun k hk => by simp at hk)
end Go.Proofs.Ytnookbebiacaeaa
end

section
/-
  Receipts: notes sorted by message, then by account: the kit's contract on slices.SortFunc, laid at this program.
-/
namespace Go.Proofs.Ytnookbebiacaeaa
open Go.Eng Go.RowKit Go.Sort Go.Shelf

def sortN_ren : Go.Shelf.Ren := ⟨fun | 6 => 106 | 15 => 158 | 14 => 157 | 28 => 198 | 29 => 199 | 20 => 190 | 21 => 191 | 22 => 192 | 23 => 193 | 24 => 194 | 25 => 195 | 26 => 196 | 27 => 197 | 46 => 218 | 47 => 219 | 48 => 220 | 49 => 221 | 50 => 222 | 57 => 237 | n => n, fun | 22 => 22 | 24 => 24 | 25 => 132 | 3 => 3 | 39 => 192 | 0 => 0 | 53 => 227 | 55 => 229 | 4 => 4 | 46 => 220 | 45 => 219 | 50 => 224 | 5 => 5 | 9 => 9 | 66 => 243 | 70 => 247 | 76 => 259 | 77 => 140 | n => n, fun | n => n⟩
theorem sortN : Go.Proofs.SlLaysF0.n6 Try.prog sortN_ren := {
  mixed := by kernel_rfl,
  f6 := ⟨Try.f106.name, by decide, Try.func106.trans (congrArg some (by kernel_rfl))⟩,
  f14 := ⟨Try.f157.name, by decide, Try.func157.trans (congrArg some (by kernel_rfl))⟩,
  f15 := Try.func158.trans (congrArg some (by kernel_rfl)),
  f20 := ⟨Try.f190.name, by decide, Try.func190.trans (congrArg some (by kernel_rfl))⟩,
  f21 := ⟨Try.f191.name, by decide, Try.func191.trans (congrArg some (by kernel_rfl))⟩,
  f22 := ⟨Try.f192.name, by decide, Try.func192.trans (congrArg some (by kernel_rfl))⟩,
  f23 := ⟨Try.f193.name, by decide, Try.func193.trans (congrArg some (by kernel_rfl))⟩,
  f24 := ⟨Try.f194.name, by decide, Try.func194.trans (congrArg some (by kernel_rfl))⟩,
  f25 := ⟨Try.f195.name, by decide, Try.func195.trans (congrArg some (by kernel_rfl))⟩,
  f26 := ⟨Try.f196.name, by decide, Try.func196.trans (congrArg some (by kernel_rfl))⟩,
  f27 := ⟨Try.f197.name, by decide, Try.func197.trans (congrArg some (by kernel_rfl))⟩,
  f28 := Try.func198.trans (congrArg some (by kernel_rfl)),
  f29 := Try.func199.trans (congrArg some (by kernel_rfl)),
  f46 := ⟨Try.f218.name, by decide, Try.func218.trans (congrArg some (by kernel_rfl))⟩,
  f47 := Try.func219.trans (congrArg some (by kernel_rfl)),
  f48 := Try.func220.trans (congrArg some (by kernel_rfl)),
  f49 := ⟨Try.f221.name, by decide, Try.func221.trans (congrArg some (by kernel_rfl))⟩,
  f50 := ⟨Try.f222.name, by decide, Try.func222.trans (congrArg some (by kernel_rfl))⟩,
  f57 := ⟨Try.f237.name, by decide, Try.func237.trans (congrArg some (by kernel_rfl))⟩,
  t0 := Try.underlying0,
  a0 := Try.isAgg0,
  z0 := Try.sizeOf0,
  v0 := Try.zeroValue0,
  t3 := Try.underlying3,
  a3 := Try.isAgg3,
  z3 := Try.sizeOf3,
  v3 := Try.zeroValue3,
  t4 := Try.underlying4,
  a4 := Try.isAgg4,
  z4 := Try.sizeOf4,
  v4 := Try.zeroValue4,
  t5 := Try.underlying5,
  a5 := Try.isAgg5,
  z5 := Try.sizeOf5,
  v5 := Try.zeroValue5,
  t9 := Try.underlying9,
  a9 := Try.isAgg9,
  z9 := Try.sizeOf9,
  v9 := Try.zeroValue9,
  t22 := Try.underlying22,
  a22 := Try.isAgg22,
  z22 := Try.sizeOf22,
  v22 := Try.zeroValue22,
  t25 := Try.underlying132,
  a25 := Try.isAgg132,
  z25 := Try.sizeOf132,
  v25 := Try.zeroValue132,
  t39 := Try.underlying192,
  a39 := Try.isAgg192,
  z39 := Try.sizeOf192,
  v39 := Try.zeroValue192,
  t45 := Try.underlying219,
  a45 := Try.isAgg219,
  z45 := Try.sizeOf219,
  v45 := Try.zeroValue219,
  t46 := Try.underlying220,
  a46 := Try.isAgg220,
  z46 := Try.sizeOf220,
  v46 := Try.zeroValue220,
  t50 := Try.underlying224,
  a50 := Try.isAgg224,
  z50 := Try.sizeOf224,
  v50 := Try.zeroValue224,
  t53 := Try.underlying227,
  a53 := Try.isAgg227,
  z53 := Try.sizeOf227,
  v53 := Try.zeroValue227,
  t55 := Try.underlying229,
  a55 := Try.isAgg229,
  z55 := Try.sizeOf229,
  v55 := Try.zeroValue229,
  t66 := Try.underlying243,
  a66 := Try.isAgg243,
  z66 := Try.sizeOf243,
  v66 := Try.zeroValue243,
  t70 := Try.underlying247,
  a70 := Try.isAgg247,
  z70 := Try.sizeOf247,
  v70 := Try.zeroValue247,
  t76 := Try.underlying259,
  a76 := Try.isAgg259,
  z76 := Try.sizeOf259,
  v76 := Try.zeroValue259,
  t77 := Try.underlying140,
  a77 := Try.isAgg140,
  z77 := Try.sizeOf140,
  v77 := Try.zeroValue140 }
set_option maxRecDepth 20000 in
theorem isNaN_fn (n : Int) : Ctr Try.prog 159 [.i .i64 n] [] (.b false) := by
  refine fn_of_exec tabOk Try.func159 (by kernel_rfl) rfl (N := Try.f159.ntmps) rfl (res := [.tmp 2]) rfl rfl [] ?_
  refine RetIs.b ?_
  show (n != n) = false
  rw [bne_self_eq_false]
def cmpI (a b : Int) : Int := if a < b then -1 else if b < a then 1 else 0
set_option maxRecDepth 20000 in
theorem compare_fn (a b : Int) : Ctr Try.prog 109 [.i .i64 a, .i .i64 b] [] (.i .i64 (cmpI a b)) := by
  refine fn_of_exec tabOk Try.func109 (by kernel_rfl) rfl (N := Try.f109.ntmps) rfl (res := [.tmp 4]) rfl rfl [] ?_
  repeat refine Or.inl ?_
  refine ⟨[], _, isNaN_fn a, ?_⟩
  repeat refine Or.inl ?_
  refine ⟨[], _, isNaN_fn b, ?_⟩
  repeat refine Or.inl ?_
  refine ⟨fun h => (by cases h), fun _ => ?_⟩
  repeat refine Or.inl ?_
  refine ⟨fun h => (by cases h), fun _ => ?_⟩
  repeat refine Or.inl ?_
  refine ⟨fun h => ?_, fun h => ?_⟩
  · have h : decide (a < b) = true := h
    rw [decide_eq_true_eq] at h
    refine RetIs.i ?_
    unfold cmpI
    rw [if_pos h]
  have h : decide (a < b) = false := h
  rw [decide_eq_false_iff_not] at h
  repeat refine Or.inl ?_
  refine ⟨fun h2 => ?_, fun h2 => ?_⟩
  · have h2 : decide (a > b) = true := h2
    rw [decide_eq_true_eq] at h2
    refine RetIs.i ?_
    unfold cmpI
    rw [if_neg h, if_pos h2]
  · have h2 : decide (a > b) = false := h2
    rw [decide_eq_false_iff_not] at h2
    refine RetIs.i ?_
    unfold cmpI
    rw [if_neg h, if_neg h2]
/-- The first of some numbers that is not zero. -/
def firstNZ : List Int → Int
  | [] => 0
  | x :: r => if x = 0 then firstNZ r else x
theorem firstNZ_at : ∀ {l : List Int} {k : Nat}, k < l.length → (∀ j, j < k → l.getD j 0 = 0) → l.getD k 0 ≠ 0 → firstNZ l = l.getD k 0
  | [], k, h, _, _ => absurd h (Nat.not_lt_zero k)
  | x :: r, 0, _, _, h => by
    have h : x ≠ 0 := h
    unfold firstNZ
    rw [if_neg h]
    rfl
  | x :: r, k + 1, h, h1, h2 => by
    have h0 : x = 0 := h1 0 (Nat.succ_pos k)
    unfold firstNZ
    rw [if_pos h0]
    exact firstNZ_at (l := r) (k := k) (by simpa using h) (fun j hj => h1 (j + 1) (by omega)) h2
theorem firstNZ_no : ∀ {l : List Int}, (∀ j, j < l.length → l.getD j 0 = 0) → firstNZ l = 0
  | [], _ => rfl
  | x :: r, h => by
    have h0 : x = 0 := h 0 (by simp)
    unfold firstNZ
    rw [if_pos h0]
    exact firstNZ_no fun j hj => h (j + 1) (by simpa using hj)
set_option maxRecDepth 20000 in
set_option maxHeartbeats 4000000 in
theorem or_fn (l : List Int) (hl : l.length < 2 ^ 62) : Ctr Try.prog 108 [.rs 1 l.length (rowsI l)] [] (.i .i64 (firstNZ l)) := by
  refine fn_of_exec tabOk Try.func108 (by kernel_rfl) rfl (N := Try.f108.ntmps) rfl (res := [.tmp 2]) rfl rfl [] ?_
  repeat refine Or.inl ?_
  refine ⟨[], Nat, fun k => k ≤ l.length ∧ ∀ j, j < k → l.getD j 0 = 0, fun k => [⟨8, [], .i .i64 k⟩], fun _ => [], fun k => l.length - k,
    ⟨0, [], ⟨Nat.zero_le _, fun j hj => absurd hj (Nat.not_lt_zero j)⟩, rfl, rfl, rfl, rfl, rfl, ⟨rfl, rfl⟩, trivial⟩, ?_⟩
  rintro k ⟨hk, hno⟩
  have hk : k ≤ l.length := hk
  refine .inl ⟨fun hc => ?_, fun hc => ?_⟩
  · have hc := dlt hc
    have hc : (k : Int) < l.length := hc
    have ek : (k : Int).toNat = k := Int.toNat_natCast k
    repeat refine Or.inl ?_
    refine ⟨⟨by omega, by omega⟩, ?_⟩
    repeat refine Or.inl ?_
    refine ⟨fun h => ?_, fun h => ?_⟩
    · have h : (l.getD (k : Int).toNat 0 != 0) = true := h
      rw [ek, bne_iff_ne] at h
      refine RetIs.i ?_
      rw [ek]
      exact (firstNZ_at (by omega) hno h).symm
    · have h : (l.getD (k : Int).toNat 0 != 0) = false := h
      rw [ek, bne_eq_false_iff_eq] at h
      refine ⟨k + 1, [], ⟨by omega, fun j hj => ?_⟩, by dsimp only; omega, rfl, rfl, rfl, rfl, rfl, ⟨rfl, wr (by omega) (by omega)⟩, trivial⟩
      by_cases hjk : j = k
      · rw [hjk]; exact h
      · exact hno j (by omega)
  · have hc := dnlt hc
    have hc : (l.length : Int) ≤ k := hc
    obtain rfl : k = l.length := by omega
    exact RetIs.i (firstNZ_no hno).symm
theorem two {p : Nat → Prop} (h0 : p 0) (h1 : p 1) : ∀ k, k < 2 → p k := by
  intro k hk
  match k with
  | 0 => exact h0
  | 1 => exact h1
  | k + 2 => omega
theorem or2_fn (x y : Int) : Ctr Try.prog 108 [.rs 1 2 (rowOf 1 [.i .i64 x, .i .i64 y])] [] (.i .i64 (firstNZ [x, y])) :=
  Ctr.of_eq (args := [.rs 1 [x, y].length (rowsI [x, y])]) ⟨rfl, rfl, two rfl rfl⟩ (or_fn [x, y] (show 2 < 2 ^ 62 by decide))

def cmpN (a b : Note) : Int := firstNZ [cmpI a.m b.m, cmpI a.w b.w]
set_option maxRecDepth 20000 in
theorem cmpN_fn (a b : Note) : Ctr Try.prog 107 [.ag a.av, .ag b.av] [] (.i .i64 (cmpN a b)) := by
  refine fn_of_exec tabOk Try.func107 (by kernel_rfl) rfl (N := Try.f107.ntmps) rfl (res := [.tmp 4]) rfl rfl [] ?_
  repeat refine Or.inl ?_
  refine ⟨[], _, compare_fn a.m b.m, ?_⟩
  repeat refine Or.inl ?_
  refine ⟨[], _, compare_fn a.w b.w, ?_⟩
  repeat refine Or.inl ?_
  refine ⟨[], _, or2_fn _ _, ?_⟩
  exact RetIs.i rfl
instance : Inhabited Note := ⟨dN⟩
def encN (n : Note) : List Value := [.int .i64 n.m, .int .i64 n.w, .int .i64 n.l, .int .i64 n.s, .bool n.n]
theorem five {p : Nat → Prop} (h0 : p 0) (h1 : p 1) (h2 : p 2) (h3 : p 3) (h4 : p 4) : ∀ k, k < 5 → p k := by
  intro k hk
  match k with
  | 0 => exact h0
  | 1 => exact h1
  | 2 => exact h2
  | 3 => exact h3
  | 4 => exact h4
  | k + 5 => omega
theorem liesN : Lies 5 encN Note.av where
  pos := by decide
  len _ := rfl
  alen _ := rfl
  one x v hv := by
    simp [encN] at hv
    rcases hv with rfl | rfl | rfl | rfl | rfl <;> rfl
  to F w x j h1 h2 := by
    have hj : j < 5 := h2
    revert h1 h2
    refine five (p := fun j => ∀ (h1 : j < x.av.length) (h2 : j < (encN x).length), Rep0 F w x.av[j] (encN x)[j]) ?_ ?_ ?_ ?_ ?_ j hj
    · exact fun _ _ => .i _ _
    · exact fun _ _ => .i _ _
    · exact fun _ _ => .i _ _
    · exact fun _ _ => .i _ _
    · exact fun _ _ => .b _
  of F w x j v h1 h2 := by
    have hj : j < 5 := h2
    revert h1 h2
    refine five (p := fun j => ∀ (h1 : j < x.av.length) (h2 : j < (encN x).length), Rep0 F w x.av[j] v → v = (encN x)[j]) ?_ ?_ ?_ ?_ ?_ j hj
    · exact fun _ _ h => (by cases h; rfl)
    · exact fun _ _ h => (by cases h; rfl)
    · exact fun _ _ h => (by cases h; rfl)
    · exact fun _ _ h => (by cases h; rfl)
    · exact fun _ _ h => (by cases h; rfl)
def ltP (a b c d : Int) : Bool := decide (a < c ∨ (a = c ∧ b < d))
theorem cmp2_lt (a b c d : Int) : decide (firstNZ [cmpI a c, cmpI b d] < 0) = ltP a b c d := by
  unfold ltP firstNZ
  have h1 : cmpI a c = 0 ↔ a = c := by unfold cmpI; split <;> (try split) <;> omega
  have h2 : cmpI a c < 0 ↔ a < c := by unfold cmpI; split <;> (try split) <;> omega
  have h3 : cmpI b d = 0 ↔ b = d := by unfold cmpI; split <;> (try split) <;> omega
  have h4 : cmpI b d < 0 ↔ b < d := by unfold cmpI; split <;> (try split) <;> omega
  rw [decide_eq_decide]
  unfold firstNZ firstNZ
  by_cases e1 : cmpI a c = 0
  · rw [if_pos e1]
    by_cases e2 : cmpI b d = 0
    · rw [if_pos e2]
      have := h1.1 e1
      have := h3.1 e2
      omega
    · rw [if_neg e2, h4]
      have := h1.1 e1
      omega
  · rw [if_neg e1, h2]
    have : a ≠ c := fun h => e1 (h1.2 h)
    omega
theorem swo_ltP {α : Type} (f g : α → Int) {lt : α → α → Bool} (h : ∀ x y, lt x y = ltP (f x) (g x) (f y) (g y)) : SWO lt where
  irrefl x := by rw [h]; unfold ltP; simp
  trans x y z h1 h2 := by rw [h] at *; unfold ltP at *; simp at *; omega
  ntrans x y z h1 h2 := by rw [h] at *; unfold ltP at *; simp at *; omega
def ltN (x y : Note) : Bool := ltP x.m x.w y.m y.w
theorem ltN_eq (x y : Note) : ltOf cmpN x y = ltN x y := cmp2_lt x.m x.w y.m y.w
theorem sortsN : SortsBy Try.prog 106 107 5 encN (ltOf cmpN) :=
  ⟨⟨_, Try.func106, by kernel_rfl, rfl⟩, fun blk off cap ss W hH hblk hsz => by
    have := AnyQ.slices_SortFunc sortN 5 Try.isAgg24 Try.sizeOf24 encN (fun _ => rfl) liesN.one cmpN (swo_ltP Note.m Note.w ltN_eq) 107 #[] blk off cap ss.toArray W (fun args w => callFunc_run ⟨_, Try.func107, by kernel_rfl, rfl⟩ args) (cmpLays_of liesN cmpN_fn blk off _ W) hH hblk (by simpa using hsz)
    have e : ss.toArray.size = ss.length := by simp
    rw [e] at this
    exact this.mono fun _ _ ⟨h1, d', n, os, h2, h3, h4⟩ => ⟨h1, d', n, os, h2, h3, h4⟩, fun p cap W => AnyF.slices_SortFunc_none sortN p cap _ W⟩
end Go.Proofs.Ytnookbebiacaeaa
end

section
/-
  Receipts: what is weaker; plain Lean, no program in sight.
-/
namespace Go.Proofs.Ytnookbebiacaeaa
open Go.Eng

def wk (old : List Note) (b : Bool) (n : Note) : Note := ⟨n.m, n.w, Low old b n.m n.w, 0, false⟩
def isWk (old now : List Note) (b : Bool) (n : Note) : Bool := !n.n && decide (Low old b n.m n.w > Low now b n.m n.w)
/-- What was known by old notes and is not known by new ones: ascending, each once. -/
structure IsWeak (old now : List Note) (b : Bool) (L : List Note) : Prop where
  asc : L.Pairwise fun x y => ltN x y = true
  mem : ∀ x, x ∈ L ↔ ∃ n ∈ old, isWk old now b n = true ∧ x = wk old b n
theorem ltN_iff {x y : Note} : ltN x y = true ↔ x.m < y.m ∨ (x.m = y.m ∧ x.w < y.w) := by
  unfold ltN ltP
  rw [decide_eq_true_eq]
theorem ltN_irr (x : Note) : ltN x x = false := by
  rw [← Bool.not_eq_true, ltN_iff]
  omega
theorem ltN_trans {x y z : Note} (h1 : ltN x y = true) (h2 : ltN y z = true) : ltN x z = true := by
  rw [ltN_iff] at *
  omega
theorem ltN_asymm {x y : Note} (h1 : ltN x y = true) : ltN y x = false := by
  rw [← Bool.not_eq_true, ltN_iff]
  rw [ltN_iff] at h1
  omega
theorem asc_eqN : ∀ {L M : List Note}, (L.Pairwise fun x y => ltN x y = true) → (M.Pairwise fun x y => ltN x y = true) → (∀ x, x ∈ L ↔ x ∈ M) → L = M
  | [], [], _, _, _ => rfl
  | [], y :: M, _, _, h => by cases (h y).2 (by simp)
  | x :: L, [], _, _, h => by cases (h x).1 (by simp)
  | x :: L, y :: M, hL, hM, h => by
    rw [List.pairwise_cons] at hL hM
    have e : x = y := by
      rcases List.mem_cons.1 ((h x).1 (by simp)) with h1 | h1
      · exact h1
      · rcases List.mem_cons.1 ((h y).2 (by simp)) with h2 | h2
        · exact h2.symm
        · have := ltN_asymm (hM.1 x h1)
          rw [hL.1 y h2] at this
          cases this
    subst e
    congr 1
    refine asc_eqN hL.2 hM.2 fun z => ?_
    constructor
    · intro hz
      rcases List.mem_cons.1 ((h z).1 (List.mem_cons_of_mem _ hz)) with h1 | h1
      · subst h1
        have := hL.1 z hz
        rw [ltN_irr] at this
        cases this
      · exact h1
    · intro hz
      rcases List.mem_cons.1 ((h z).2 (List.mem_cons_of_mem _ hz)) with h1 | h1
      · subst h1
        have := hM.1 z hz
        rw [ltN_irr] at this
        cases this
      · exact h1
theorem IsWeak.uniq {old now : List Note} {b : Bool} {L M : List Note} (h1 : IsWeak old now b L) (h2 : IsWeak old now b M) : L = M :=
  asc_eqN h1.asc h2.asc fun x => (h1.mem x).trans (h2.mem x).symm
theorem wk_key {old : List Note} {b : Bool} {x y : Note} (h : x.m = y.m) (h2 : x.w = y.w) : wk old b x = wk old b y := by
  unfold wk
  rw [h, h2]
theorem tot_wk {old : List Note} {b : Bool} {x y : Note} (h1 : ltN (wk old b x) (wk old b y) = false) (h2 : wk old b x ≠ wk old b y) : ltN (wk old b y) (wk old b x) = true := by
  rw [← Bool.not_eq_true, ltN_iff] at h1
  rw [ltN_iff]
  have h1 : ¬ (x.m < y.m ∨ x.m = y.m ∧ x.w < y.w) := h1
  have h2 : ¬ (x.m = y.m ∧ x.w = y.w) := fun ⟨e1, e2⟩ => h2 (wk_key e1 e2)
  show y.m < x.m ∨ y.m = x.m ∧ y.w < x.w
  omega

/-! ### the reference's way: each in its place -/
/-- How far those that come before x reach, among the first k. -/
def atTo (L : List Note) (x : Note) : Nat → Nat
  | 0 => 0
  | k + 1 => if ltN (L.getD k dN) x = true then k + 1 else atTo L x k
theorem atTo_le (L : List Note) (x : Note) : ∀ k, atTo L x k ≤ k
  | 0 => Nat.le_refl _
  | k + 1 => by
    unfold atTo
    split
    · exact Nat.le_refl _
    · have := atTo_le L x k
      omega
theorem getD_pw {L : List Note} (h : L.Pairwise fun x y => ltN x y = true) {i j : Nat} (hij : i < j) (hj : j < L.length) : ltN (L.getD i dN) (L.getD j dN) = true := by
  have := List.pairwise_iff_getElem.1 h i j (by omega) hj hij
  simpa [List.getD, hj, show i < L.length by omega] using this
theorem atTo_spec {L : List Note} (x : Note) (h : L.Pairwise fun x y => ltN x y = true) : ∀ k, k ≤ L.length → (∀ j, j < atTo L x k → ltN (L.getD j dN) x = true) ∧ ∀ j, atTo L x k ≤ j → j < k → ltN (L.getD j dN) x = false
  | 0, _ => ⟨fun j hj => absurd hj (Nat.not_lt_zero j), fun j _ hj => absurd hj (Nat.not_lt_zero j)⟩
  | k + 1, hk => by
    have ih := atTo_spec x h k (by omega)
    unfold atTo
    split
    · rename_i hl
      refine ⟨fun j hj => ?_, fun j h1 h2 => by omega⟩
      by_cases e : j = k
      · rw [e]; exact hl
      · exact ltN_trans (getD_pw h (show j < k by omega) (by omega)) hl
    · rename_i hl
      refine ⟨ih.1, fun j h1 h2 => ?_⟩
      by_cases e : j = k
      · rw [e]; simpa using hl
      · exact ih.2 j h1 (by omega)
def putN (L : List Note) (x : Note) : List Note := L.take (atTo L x L.length) ++ x :: L.drop (atTo L x L.length)
def insN (L : List Note) (x : Note) : List Note := if x ∈ L then L else putN L x
theorem mem_putN {L : List Note} {x y : Note} : y ∈ putN L x ↔ y ∈ L ∨ y = x := by
  unfold putN
  rw [List.mem_append, List.mem_cons]
  constructor
  · rintro (h | h | h)
    · exact .inl (List.mem_of_mem_take h)
    · exact .inr h
    · exact .inl (List.mem_of_mem_drop h)
  · rintro (h | h)
    · rw [← List.take_append_drop (atTo L x L.length) L, List.mem_append] at h
      exact h.elim .inl fun h => .inr (.inr h)
    · exact .inr (.inl h)
theorem mem_insN {L : List Note} {x y : Note} : y ∈ insN L x ↔ y ∈ L ∨ y = x := by
  unfold insN
  split
  · rename_i h
    exact ⟨.inl, fun h2 => h2.elim id fun e => e ▸ h⟩
  · exact mem_putN
theorem asc_putN {L : List Note} {x : Note} (h : L.Pairwise fun x y => ltN x y = true) (hx : ∀ y ∈ L, ltN y x = false → ltN x y = true) : (putN L x).Pairwise fun x y => ltN x y = true := by
  obtain ⟨s1, s2⟩ := atTo_spec x h L.length (Nat.le_refl _)
  have hle := atTo_le L x L.length
  unfold putN
  have hT : ∀ y ∈ L.take (atTo L x L.length), ltN y x = true := fun y hy => by
    obtain ⟨j, hj, rfl⟩ := List.getElem_of_mem hy
    rw [List.length_take] at hj
    have := s1 j (by omega)
    simpa [List.getD, show j < L.length by omega] using this
  have hD : ∀ y ∈ L.drop (atTo L x L.length), ltN x y = true := fun y hy => by
    refine hx y (List.mem_of_mem_drop hy) ?_
    obtain ⟨j, hj, rfl⟩ := List.getElem_of_mem hy
    rw [List.length_drop] at hj
    have := s2 (atTo L x L.length + j) (by omega) (by omega)
    rw [List.getElem_drop]
    simpa [List.getD, show atTo L x L.length + j < L.length by omega] using this
  rw [List.pairwise_append, List.pairwise_cons]
  refine ⟨h.sublist (List.take_sublist _ _), ⟨hD, h.sublist (List.drop_sublist _ _)⟩, fun a ha c hc => ?_⟩
  rcases List.mem_cons.1 hc with e | hc
  · rw [e]; exact hT a ha
  · exact ltN_trans (hT a ha) (hD c hc)
def wkIns (old now : List Note) (b : Bool) (L : List Note) (n : Note) : List Note := if isWk old now b n = true then insN L (wk old b n) else L
def weakTo (old now : List Note) (b : Bool) (k : Nat) : List Note := (old.take k).foldl (wkIns old now b) []
def weakL (old now : List Note) (b : Bool) : List Note := weakTo old now b old.length
theorem weakTo_succ (old now : List Note) (b : Bool) {k : Nat} (h : k < old.length) : weakTo old now b (k + 1) = wkIns old now b (weakTo old now b k) (old.getD k dN) := by
  unfold weakTo
  rw [List.take_succ_eq_append_getElem h, List.foldl_append]
  simp [List.getD, h]
structure WeakK (old now : List Note) (b : Bool) (k : Nat) (L : List Note) : Prop where
  asc : L.Pairwise fun x y => ltN x y = true
  mem : ∀ x, x ∈ L ↔ ∃ j, j < k ∧ isWk old now b (old.getD j dN) = true ∧ x = wk old b (old.getD j dN)
  len : L.length ≤ k
theorem insN_len (L : List Note) (x : Note) : (insN L x).length ≤ L.length + 1 := by
  unfold insN
  split
  · omega
  · unfold putN
    rw [List.length_append, List.length_cons, List.length_take, List.length_drop]
    omega
theorem weakK (old now : List Note) (b : Bool) : ∀ k, k ≤ old.length → WeakK old now b k (weakTo old now b k)
  | 0, _ => ⟨.nil, fun x => ⟨fun h => (by cases h), fun ⟨j, hj, _⟩ => absurd hj (Nat.not_lt_zero j)⟩, Nat.le_refl _⟩
  | k + 1, hk => by
    have ih := weakK old now b k (by omega)
    rw [weakTo_succ old now b (by omega)]
    unfold wkIns
    split
    · rename_i hw
      refine ⟨?_, fun x => ?_, Nat.le_trans (insN_len _ _) (by have := ih.len; omega)⟩
      · unfold insN
        split
        · exact ih.asc
        · rename_i hx
          refine asc_putN ih.asc fun y hy hl => ?_
          obtain ⟨j, _, _, rfl⟩ := (ih.mem y).1 hy
          exact tot_wk hl fun e => hx (e ▸ hy)
      · rw [mem_insN, ih.mem]
        constructor
        · rintro (⟨j, hj, h1, h2⟩ | h)
          · exact ⟨j, by omega, h1, h2⟩
          · exact ⟨k, by omega, hw, h⟩
        · rintro ⟨j, hj, h1, h2⟩
          by_cases e : j = k
          · subst e; exact .inr h2
          · exact .inl ⟨j, by omega, h1, h2⟩
    · rename_i hw
      refine ⟨ih.asc, fun x => ?_, by have := ih.len; omega⟩
      rw [ih.mem]
      constructor
      · rintro ⟨j, hj, h⟩; exact ⟨j, by omega, h⟩
      · rintro ⟨j, hj, h1, h2⟩
        by_cases e : j = k
        · subst e; exact absurd h1 hw
        · exact ⟨j, by omega, h1, h2⟩
theorem WeakK.all {old now : List Note} {b : Bool} {L : List Note} (h : WeakK old now b old.length L) : IsWeak old now b L := by
  refine ⟨h.asc, fun x => (h.mem x).trans ?_⟩
  constructor
  · rintro ⟨j, hj, h1, h2⟩
    exact ⟨old.getD j dN, by simp [List.getD, hj], h1, h2⟩
  · rintro ⟨n, hn, h1, h2⟩
    obtain ⟨j, hj, rfl⟩ := List.getElem_of_mem hn
    exact ⟨j, hj, by simpa [List.getD, hj] using h1, by simpa [List.getD, hj] using h2⟩
theorem weakL_is (old now : List Note) (b : Bool) : IsWeak old now b (weakL old now b) := (weakK old now b old.length (Nat.le_refl _)).all
/-! ### the program's way: each pair looked at once, and sorted -/
def wkStep (old now : List Note) (b : Bool) (st : List ((Int × Int) × Bool) × List Note) (n : Note) : List ((Int × Int) × Bool) × List Note :=
  if (n.n || (mget st.1 (n.m, n.w)).getD false) = true then st else (mset st.1 (n.m, n.w) true, if Low old b n.m n.w > Low now b n.m n.w then st.2 ++ [wk old b n] else st.2)
def wkTo (old now : List Note) (b : Bool) (k : Nat) : List ((Int × Int) × Bool) × List Note := (old.take k).foldl (wkStep old now b) ([], [])
theorem wkTo_succ (old now : List Note) (b : Bool) {k : Nat} (h : k < old.length) : wkTo old now b (k + 1) = wkStep old now b (wkTo old now b k) (old.getD k dN) := by
  unfold wkTo
  rw [List.take_succ_eq_append_getElem h, List.foldl_append]
  simp [List.getD, h]
structure WkK (old now : List Note) (b : Bool) (k : Nat) (st : List ((Int × Int) × Bool) × List Note) : Prop where
  seen : ∀ p, (mget st.1 p).getD false = true ↔ ∃ j, j < k ∧ (old.getD j dN).n = false ∧ ((old.getD j dN).m, (old.getD j dN).w) = p
  mem : ∀ x, x ∈ st.2 ↔ ∃ j, j < k ∧ isWk old now b (old.getD j dN) = true ∧ x = wk old b (old.getD j dN)
  dist : st.2.Pairwise fun x y => ¬ (x.m = y.m ∧ x.w = y.w)
  len : st.2.length ≤ k
  mlen : st.1.length ≤ k
theorem mset_len {α γ : Type} [DecidableEq α] : ∀ (L : List (α × γ)) (k : α) (v : γ), (mset L k v).length ≤ L.length + 1
  | [], _, _ => Nat.le_refl _
  | p :: r, k, v => by
    unfold mset
    split
    · simp
    · have := mset_len r k v
      simp only [List.length_cons]
      omega
theorem wkK (old now : List Note) (b : Bool) : ∀ k, k ≤ old.length → WkK old now b k (wkTo old now b k)
  | 0, _ => ⟨fun p => ⟨fun h => (by cases h), fun ⟨j, hj, _⟩ => absurd hj (Nat.not_lt_zero j)⟩, fun x => ⟨fun h => (by cases h), fun ⟨j, hj, _⟩ => absurd hj (Nat.not_lt_zero j)⟩, .nil, Nat.le_refl _, Nat.le_refl _⟩
  | k + 1, hk => by
    have ih := wkK old now b k (by omega)
    rw [wkTo_succ old now b (by omega)]
    generalize hnd : old.getD k dN = n
    have il := ih.len
    have im := ih.mlen
    unfold wkStep
    split
    · rename_i h
      rw [Bool.or_eq_true] at h
      refine ⟨fun p => ?_, fun x => ?_, ih.dist, by omega, by omega⟩
      · rw [ih.seen]
        constructor
        · rintro ⟨j, hj, h1⟩; exact ⟨j, by omega, h1⟩
        · rintro ⟨j, hj, h1, h2⟩
          by_cases e : j = k
          · subst e
            rw [hnd] at h1 h2
            rw [h1] at h
            rw [← h2]
            exact (ih.seen _).1 (h.resolve_left (by decide))
          · exact ⟨j, by omega, h1, h2⟩
      · rw [ih.mem]
        constructor
        · rintro ⟨j, hj, h1⟩; exact ⟨j, by omega, h1⟩
        · rintro ⟨j, hj, h1, h2⟩
          by_cases e : j = k
          · subst e
            rw [hnd] at h1 h2
            have hn : n.n = false := by
              unfold isWk at h1
              rw [Bool.and_eq_true, Bool.not_eq_true'] at h1
              exact h1.1
            rw [hn] at h
            obtain ⟨i, hi, h3, h4⟩ := (ih.seen _).1 (h.resolve_left (by decide))
            rw [Prod.mk.injEq] at h4
            refine ⟨i, hi, ?_, by rw [h2]; exact (wk_key h4.1 h4.2).symm⟩
            unfold isWk at h1 ⊢
            rw [h3, h4.1, h4.2]
            rw [hn] at h1
            exact h1
          · exact ⟨j, by omega, h1, h2⟩
    · rename_i h
      rw [Bool.or_eq_true, not_or] at h
      obtain ⟨hn, hs⟩ := h
      have hn : n.n = false := by simpa using hn
      have hml := mset_len (wkTo old now b k).1 (n.m, n.w) true
      refine ⟨fun p => ?_, fun x => ?_, ?_, ?_, by dsimp only; omega⟩
      · dsimp only
        rw [mget_mset]
        by_cases e : p = (n.m, n.w)
        · rw [if_pos e]
          refine ⟨fun _ => ⟨k, by omega, by rw [hnd]; exact hn, by rw [hnd, e]⟩, fun _ => rfl⟩
        · rw [if_neg e, ih.seen]
          constructor
          · rintro ⟨j, hj, h1⟩; exact ⟨j, by omega, h1⟩
          · rintro ⟨j, hj, h1, h2⟩
            by_cases e2 : j = k
            · subst e2
              rw [hnd] at h2
              exact absurd h2.symm e
            · exact ⟨j, by omega, h1, h2⟩
      · dsimp only
        have hw : isWk old now b n = decide (Low old b n.m n.w > Low now b n.m n.w) := by unfold isWk; rw [hn]; rfl
        split
        · rename_i hl
          rw [List.mem_append, List.mem_singleton, ih.mem]
          constructor
          · rintro (⟨j, hj, h1⟩ | h1)
            · exact ⟨j, by omega, h1⟩
            · exact ⟨k, by omega, by rw [hnd, hw]; exact decide_eq_true hl, by rw [hnd]; exact h1⟩
          · rintro ⟨j, hj, h1, h2⟩
            by_cases e2 : j = k
            · subst e2
              rw [hnd] at h2
              exact .inr h2
            · exact .inl ⟨j, by omega, h1, h2⟩
        · rename_i hl
          rw [ih.mem]
          constructor
          · rintro ⟨j, hj, h1⟩; exact ⟨j, by omega, h1⟩
          · rintro ⟨j, hj, h1, h2⟩
            by_cases e2 : j = k
            · subst e2
              rw [hnd, hw] at h1
              exact absurd (of_decide_eq_true h1) hl
            · exact ⟨j, by omega, h1, h2⟩
      · dsimp only
        split
        · rw [List.pairwise_append]
          refine ⟨ih.dist, List.pairwise_singleton _ _, fun x hx y hy => ?_⟩
          rw [List.mem_singleton] at hy
          subst hy
          obtain ⟨j, hj, h1, rfl⟩ := (ih.mem x).1 hx
          rintro ⟨e1, e2⟩
          refine hs ((ih.seen _).2 ⟨j, hj, ?_, Prod.ext e1 e2⟩)
          unfold isWk at h1
          rw [Bool.and_eq_true, Bool.not_eq_true'] at h1
          exact h1.1
        · exact ih.dist
      · dsimp only
        split
        · rw [List.length_append, List.length_singleton]; omega
        · omega
/-- Sorted, it is what the reference has. -/
theorem wk_sorted {old now : List Note} {b : Bool} {ys : List Note} (hp : ys.Perm (wkTo old now b old.length).2) (hs : ys.Pairwise fun x y => ltN y x = false) : ys = weakL old now b := by
  have h := wkK old now b old.length (Nat.le_refl _)
  refine IsWeak.uniq (old := old) (now := now) (b := b) ?_ (weakL_is old now b)
  refine (WeakK.all ⟨?_, fun x => hp.mem_iff.trans (h.mem x), by rw [hp.length_eq]; exact h.len⟩)
  have hd : ys.Pairwise fun x y => ¬ (x.m = y.m ∧ x.w = y.w) := hp.symm.pairwise h.dist fun hxy e => hxy ⟨e.1.symm, e.2.symm⟩
  refine (hs.and hd).imp ?_
  rintro x y ⟨h1, h2⟩
  rw [← Bool.not_eq_true, ltN_iff] at h1
  rw [ltN_iff]
  omega
end Go.Proofs.Ytnookbebiacaeaa
end

section
/-
  Receipts: taking back, and what is weaker, walked.
-/
namespace Go.Proofs.Ytnookbebiacaeaa
open Go.Eng

set_option maxRecDepth 20000 in
set_option maxHeartbeats 4000000 in
theorem deleteN_fn (P : List Note) (hP : P.length ≤ 1000000) (i : Nat) (hi : i < P.length) (j : Int) (hj : j = (i : Int) + 1) :
    CtrM Try.prog 104 false [.row 24 5 P.length (rowsN P)] [.so 0, .i .i64 i, .i .i64 j] (fun _ : Unit => True) (fun _ => [.dead]) (fun _ => [.row 24 5 (lessN P i).length (rowsN (lessN P i))]) (fun _ => .so 1) := by
  refine fn_of_execM tabOk Try.func104 (by kernel_rfl) rfl (N := Try.f104.ntmps) rfl (res := [.tmp 6]) rfl false false [.row 24 5 P.length (rowsN P)] _ _ _ _ rfl (fun h => by cases h) [(999999, [.own 6])] ?_
  subst hj
  repeat refine Or.inl ?_
  refine ⟨⟨by omega, by omega, by omega, by omega⟩, ?_⟩
  repeat refine Or.inl ?_
  refine ⟨fun h => ?_, fun _ => ?_⟩
  · have h : ((i : Int) == (i : Int) + 1) = true := h
    rw [beq_iff_eq] at h
    omega
  repeat refine Or.inl ?_
  refine ⟨⟨by omega, by omega, by omega⟩, ?_⟩
  repeat refine Or.inl ?_
  refine ⟨⟨by omega, by omega, by omega⟩, ?_⟩
  repeat refine Or.inl ?_
  refine ⟨by omega, ?_⟩
  repeat refine Or.inl ?_
  refine ⟨⟨by omega, by omega, by omega⟩, ?_⟩
  have hel := lessN_len hi
  refine ⟨⟨(), [(1, 2)], trivial, ⟨⟨⟨rfl, rfl, rfl⟩, trivial⟩, ⟨⟨rfl, rfl, trivial, trivial⟩, ⟨rfl, rfl, trivial, ⟨rfl, rfl, ?_, fun q hq => ?_⟩⟩, trivial⟩, rfl⟩, rfl, fun _ => ⟨rfl, trivial, fun _ _ => rfl⟩⟩⟩
  · omega
  · have hq : q < (lessN P i).length := hq
    have e0 : q + Int.toNat 0 = q := rfl
    dsimp only
    rw [e0, if_neg (by omega)]
    unfold overG rowsN
    rw [lessN_get _ _ _ hi]
    by_cases h : q < i
    · rw [if_pos h, if_neg (by omega)]
    · rw [if_neg h, if_pos (by omega)]
      congr 2
      omega
set_option maxRecDepth 20000 in
set_option maxHeartbeats 4000000 in
theorem Withdraw_fn (l : List Note) (hl : l.length ≤ 100000) (i : Int) : Ctr Try.prog 25 [.rs 5 l.length (rowsN l), .i .i64 i] [.row 24 5 (withY l i).1.length (rowsN (withY l i).1)] (.tup [.so 0, .i .i64 (withY l i).2]) := by
  refine fn_of_exec tabOk Try.func25 (by kernel_rfl) rfl (N := Try.f25.ntmps) rfl (res := [.tmp 4, .tmp 5]) rfl rfl [(999999, [.nl 4 24 5])] ?_
  repeat refine Or.inl ?_
  refine ⟨fun h => ?_, fun h => ?_⟩
  · have h : (decide (i < 0) || decide (i ≥ (l.length : Int))) = true := h
    have e : withY l i = ([], 4) := by unfold withY; rw [if_pos (by simpa using h)]
    rw [e]
    exact RetIs.soI rfl rfl (fun k hk => by simp at hk) (fun k hk => by simp at hk) rfl
  have h : (decide (i < 0) || decide (i ≥ (l.length : Int))) = false := h
  simp only [Bool.or_eq_false_iff, decide_eq_false_iff_not] at h
  obtain ⟨m, rfl⟩ := Int.eq_ofNat_of_zero_le (show 0 ≤ i by omega)
  have e : withY l (m : Int) = (lessN l m, 0) := by unfold withY; rw [if_neg (by omega), Int.toNat_natCast]
  rw [e]
  repeat refine Or.inl ?_
  refine ⟨_, _, cloneN_fn l hl, ?_⟩
  refine .inr (.inr ⟨false, [0], rfl, Unit, _, _, _, _, deleteN_fn l (by omega) m (by omega) _ (wr (by omega) (by omega)), fun _ _ => ?_⟩)
  exact RetIs.soI rfl rfl (fun _ _ => rfl) (fresh_rowsN _) rfl

def kfA (p : Int × Int) : AV := .ag [.i .i64 p.1, .i .i64 p.2]
theorem kfA_inj : ∀ a b : Int × Int, kfA a = kfA b → a = b := by
  rintro ⟨a, b⟩ ⟨c, d⟩ h
  simp only [kfA, AV.ag.injEq, List.cons.injEq, AV.i.injEq, true_and, and_true] at h
  rw [h.1, h.2]
def dA : (Int × Int) × Bool := ((0, 0), false)
theorem snocN_row (o : List Note) (n : Note) {l : List Note} (hl : l = o ++ [n]) : AOEq (.row 24 5 l.length (rowsN l)) (.row 24 5 (o.length + 1) (catG o.length (rowsN o) (rowOf 5 n.av))) := by
  subst hl
  exact ⟨rfl, rfl, by simp, snocN o n⟩
theorem wkStep_no {old now : List Note} {b : Bool} {st : List ((Int × Int) × Bool) × List Note} {n : Note} (h : (n.n || (mget st.1 (n.m, n.w)).getD false) = true) : wkStep old now b st n = st := by
  unfold wkStep
  rw [if_pos h]
theorem wkStep_yes {old now : List Note} {b : Bool} {st : List ((Int × Int) × Bool) × List Note} {n : Note} (h : (n.n || (mget st.1 (n.m, n.w)).getD false) = false) (h2 : Low old b n.m n.w > Low now b n.m n.w) : wkStep old now b st n = (mset st.1 (n.m, n.w) true, st.2 ++ [wk old b n]) := by
  unfold wkStep
  rw [if_neg (by rw [h]; decide), if_pos h2]
theorem wkStep_same {old now : List Note} {b : Bool} {st : List ((Int × Int) × Bool) × List Note} {n : Note} (h : (n.n || (mget st.1 (n.m, n.w)).getD false) = false) (h2 : ¬ Low old b n.m n.w > Low now b n.m n.w) : wkStep old now b st n = (mset st.1 (n.m, n.w) true, st.2) := by
  unfold wkStep
  rw [if_neg (by rw [h]; decide), if_neg h2]
set_option maxRecDepth 20000 in
set_option maxHeartbeats 8000000 in
theorem Weaker_fn (old now : List Note) (ho : old.length ≤ 100000) (hn : now.length < 2 ^ 62) (b : Bool) : Ctr Try.prog 33 [.rs 5 old.length (rowsN old), .rs 5 now.length (rowsN now), .b b] [.row 24 5 (weakL old now b).length (rowsN (weakL old now b))] (.so 0) := by
  refine fn_of_exec tabOk Try.func33 (by kernel_rfl) rfl (N := Try.f33.ntmps) rfl (res := [.tmp 6]) rfl rfl [] ?_
  repeat refine Or.inl ?_
  refine ⟨[(8, 24, 5)], Nat, fun k => k ≤ old.length, fun k => [⟨16, [], .i .i64 k⟩, ⟨8, [], .so 1⟩], fun k => [⟨0, [], mpL kfA .b dA (wkTo old now b k).1⟩, ⟨1, [], .row 24 5 (wkTo old now b k).2.length (rowsN (wkTo old now b k).2)⟩], fun k => old.length - k,
    ⟨0, [], Nat.zero_le _, rfl, rfl, rfl, rfl, rfl, ⟨⟨rfl, rfl⟩, rfl⟩, ⟨⟨rfl, rfl, fun j hj => absurd hj (Nat.not_lt_zero j)⟩, ⟨rfl, rfl, rfl, fun j hj => absurd hj (Nat.not_lt_zero j)⟩⟩⟩, ?_⟩
  intro k hk
  have hk : k ≤ old.length := hk
  have hW := wkK old now b k hk
  have l1 := hW.len
  refine .inl ⟨fun hc => ?_, fun hc => ?_⟩
  · have hc := dlt hc
    have hc : (k : Int) < old.length := hc
    have ek : (k : Int).toNat = k := Int.toNat_natCast k
    have hst := wkTo_succ old now b (k := k) (by omega)
    repeat refine Or.inl ?_
    refine ⟨⟨by omega, by omega⟩, ?_⟩
    repeat refine Or.inl ?_
    refine ⟨_, _, ⟨fun _ => ⟨fun _ _ => rfl, rfl, lookOk_mget (L := (wkTo old now b k).1) (d := dA) (vf := fun v : Bool => AV.b v) kfA_inj ((old.getD (k : Int).toNat dN).m, (old.getD (k : Int).toNat dN).w) false⟩, ?_⟩⟩
    refine ⟨fun h => ?_, fun h => ?_⟩
    · have h : ((old.getD (k : Int).toNat dN).n || (mget (wkTo old now b k).1 ((old.getD (k : Int).toNat dN).m, (old.getD (k : Int).toNat dN).w)).getD false) = true := h
      rw [ek] at h
      rw [wkStep_no h] at hst
      refine ⟨k + 1, [], by dsimp only; omega, by dsimp only; omega, rfl, rfl, rfl, rfl, rfl, ⟨⟨rfl, wr (by omega) (by omega)⟩, rfl⟩, ?_⟩
      have ao : AOEq (mpL kfA .b dA (wkTo old now b (k + 1)).1) (mpL kfA .b dA (wkTo old now b k).1) := by rw [hst]; exact AOEq.refl _
      have ao2 : AOEq (.row 24 5 (wkTo old now b (k + 1)).2.length (rowsN (wkTo old now b (k + 1)).2)) (.row 24 5 (wkTo old now b k).2.length (rowsN (wkTo old now b k).2)) := by rw [hst]; exact AOEq.refl _
      exact ⟨ao, ao2⟩
    have h : ((old.getD (k : Int).toNat dN).n || (mget (wkTo old now b k).1 ((old.getD (k : Int).toNat dN).m, (old.getD (k : Int).toNat dN).w)).getD false) = false := h
    rw [ek] at h
    repeat refine Or.inl ?_
    refine ⟨_, _, _, _, _, ⟨fun _ _ => rfl, rfl, updOk_mset (L := (wkTo old now b k).1) (d := dA) (vf := fun v : Bool => AV.b v) kfA_inj ((old.getD (k : Int).toNat dN).m, (old.getD (k : Int).toNat dN).w) true⟩, ?_⟩
    repeat refine Or.inl ?_
    refine ⟨[], _, Low_fn old (by omega) b (old.getD (k : Int).toNat dN).m (old.getD (k : Int).toNat dN).w, ?_⟩
    repeat refine Or.inl ?_
    refine ⟨[], _, Low_fn now hn b (old.getD (k : Int).toNat dN).m (old.getD (k : Int).toNat dN).w, ?_⟩
    repeat refine Or.inl ?_
    refine ⟨fun h2 => ?_, fun h2 => ?_⟩
    · have h2 : decide (Low old b (old.getD (k : Int).toNat dN).m (old.getD (k : Int).toNat dN).w > Low now b (old.getD (k : Int).toNat dN).m (old.getD (k : Int).toNat dN).w) = true := h2
      rw [ek, decide_eq_true_eq] at h2
      rw [wkStep_yes h h2] at hst
      refine ⟨fits (by omega), ?_⟩
      refine ⟨k + 1, [(1, 5)], by dsimp only; omega, by dsimp only; omega, rfl, rfl, rfl, rfl, rfl, ⟨⟨rfl, wr (by omega) (by omega)⟩, rfl⟩, ?_⟩
      have ao : AOEq (mpL kfA .b dA (wkTo old now b (k + 1)).1) (mpL kfA .b dA (mset (wkTo old now b k).1 ((old.getD (k : Int).toNat dN).m, (old.getD (k : Int).toNat dN).w) true)) := by rw [hst, ek]; exact AOEq.refl _
      have ao2 : AOEq (.row 24 5 (wkTo old now b (k + 1)).2.length (rowsN (wkTo old now b (k + 1)).2)) (.row 24 5 ((wkTo old now b k).2.length + 1) (catG (wkTo old now b k).2.length (rowsN (wkTo old now b k).2) (rowOf 5 (wk old b (old.getD (k : Int).toNat dN)).av))) := snocN_row _ _ (by rw [hst, ek])
      exact ⟨ao, ao2⟩
    · have h2 : decide (Low old b (old.getD (k : Int).toNat dN).m (old.getD (k : Int).toNat dN).w > Low now b (old.getD (k : Int).toNat dN).m (old.getD (k : Int).toNat dN).w) = false := h2
      rw [ek, decide_eq_false_iff_not] at h2
      rw [wkStep_same h h2] at hst
      refine ⟨k + 1, [], by dsimp only; omega, by dsimp only; omega, rfl, rfl, rfl, rfl, rfl, ⟨⟨rfl, wr (by omega) (by omega)⟩, rfl⟩, ?_⟩
      have ao : AOEq (mpL kfA .b dA (wkTo old now b (k + 1)).1) (mpL kfA .b dA (mset (wkTo old now b k).1 ((old.getD (k : Int).toNat dN).m, (old.getD (k : Int).toNat dN).w) true)) := by rw [hst, ek]; exact AOEq.refl _
      have ao2 : AOEq (.row 24 5 (wkTo old now b (k + 1)).2.length (rowsN (wkTo old now b (k + 1)).2)) (.row 24 5 (wkTo old now b k).2.length (rowsN (wkTo old now b k).2)) := by rw [hst]; exact AOEq.refl _
      exact ⟨ao, ao2⟩
  · have hc := dnlt hc
    have hc : (old.length : Int) ≤ k := hc
    obtain rfl : k = old.length := by omega
    refine .inr (.inr ⟨false, [1], rfl, List Note, _, _, _, _, sortBy_ctr liesN sortsN (kt := 24) (wkTo old now b old.length).2 (rowsN (wkTo old now b old.length).2) (fun _ _ => rfl) (by omega), fun ys hy => ?_⟩)
    have e : ys = weakL old now b := wk_sorted hy.1 (hy.2.imp fun {x y} h => by rw [← ltN_eq]; exact h)
    rw [e]
    exact RetIs.so rfl rfl (fun _ _ => rfl) (fresh_rowsN _)
end Go.Proofs.Ytnookbebiacaeaa
end

section
/-
  Receipts: what is weaker, as the reference finds it.
-/
namespace Go.Proofs.Ytnookbebiacaeaa
open Go.Eng

end Go.Proofs.Ytnookbebiacaeaa
end

section
/-
  Formulas: how they lie, to a depth.
-/
namespace Go.Proofs.Ytnookbebiacaeaa
open Go.Eng

/-- A formula. -/
inductive Fm where
  | mk (op m w l : Int) (args : List Fm)
def Fm.op : Fm → Int | .mk o _ _ _ _ => o
def Fm.m : Fm → Int | .mk _ m _ _ _ => m
def Fm.w : Fm → Int | .mk _ _ w _ _ => w
def Fm.l : Fm → Int | .mk _ _ _ l _ => l
def Fm.args : Fm → List Fm | .mk _ _ _ _ a => a
def dF : Fm := .mk 0 0 0 0 []
/-- The cells of what stands in a formula's list, as far down as so many levels. -/
def kidsD : Nat → Fm → Nat → List AV
  | 0, _, _ => [.u, .u, .u, .u, .u]
  | d + 1, f, k => [.i .i64 (f.args.getD k dF).op, .i .i64 (f.args.getD k dF).m, .i .i64 (f.args.getD k dF).w, .i .i64 (f.args.getD k dF).l, .rs 5 (f.args.getD k dF).args.length (kidsD d (f.args.getD k dF))]
def avD (d : Nat) (f : Fm) : List AV := [.i .i64 f.op, .i .i64 f.m, .i .i64 f.w, .i .i64 f.l, .rs 5 f.args.length (kidsD d f)]
end Go.Proofs.Ytnookbebiacaeaa
end

section
/-
  Formulas: counted, and looked at node by node.
-/
namespace Go.Proofs.Ytnookbebiacaeaa
open Go.Eng

def noneF (f : Fm) : Bool := (f.m == 0 && (f.w == 0)) && (f.l == 0)
/-- A node is right, but for what is in its list. -/
def nodeF (f : Fm) : Bool :=
  if f.op = 0 then (((((decide (0 ≤ f.m) && decide (f.m < 100000)) && decide (0 ≤ f.w)) && decide (f.w < 2000)) && decide (0 ≤ f.l)) && decide (f.l < 5)) && ((f.args.length : Int) == 0)
  else if f.op = 1 ∨ f.op = 2 then noneF f else if f.op = 3 then noneF f && ((f.args.length : Int) == 1) else false
set_option maxRecDepth 20000 in
set_option maxHeartbeats 4000000 in
theorem node_fn (d : Nat) (f : Fm) : Ctr Try.prog 200 [.ag (avD d f)] [] (.b (nodeF f)) := by
  refine fn_of_exec tabOk Try.func200 (by kernel_rfl) rfl (N := Try.f200.ntmps) rfl (res := [.tmp 2]) rfl rfl [] ?_
  repeat refine Or.inl ?_
  refine ⟨fun h => ?_, fun h => ?_⟩
  · have h : (f.op == 0) = true := h
    rw [beq_iff_eq] at h
    refine RetIs.b ?_
    unfold nodeF
    rw [if_pos h]
  have h : (f.op == 0) = false := h
  rw [beq_eq_false_iff_ne] at h
  repeat refine Or.inl ?_
  refine ⟨fun h1 => ?_, fun h1 => ?_⟩
  · have h1 : (f.op == 1) = true := h1
    rw [beq_iff_eq] at h1
    repeat refine Or.inl ?_
    refine ⟨fun _ => ?_, fun h2 => ?_⟩
    · refine RetIs.b ?_
      unfold nodeF
      rw [if_neg h, if_pos (.inl h1)]
      rfl
    · have h2 : (f.op == 1) = false := h2
      rw [beq_eq_false_iff_ne] at h2
      exact absurd h1 h2
  have h1 : (f.op == 1) = false := h1
  rw [beq_eq_false_iff_ne] at h1
  repeat refine Or.inl ?_
  refine ⟨fun h2 => ?_, fun h2 => ?_⟩
  · have h2 : (f.op == 2) = true := h2
    rw [beq_iff_eq] at h2
    refine RetIs.b ?_
    unfold nodeF
    rw [if_neg h, if_pos (.inr h2)]
    rfl
  have h2 : (f.op == 2) = false := h2
  rw [beq_eq_false_iff_ne] at h2
  repeat refine Or.inl ?_
  refine ⟨fun h3 => ?_, fun h3 => ?_⟩
  · have h3 : (f.op == 3) = true := h3
    rw [beq_iff_eq] at h3
    refine RetIs.b ?_
    unfold nodeF
    rw [if_neg h, if_neg (by omega), if_pos h3]
    rfl
  refine RetIs.b ?_
  unfold nodeF
  rw [if_neg h, if_neg (by omega), if_neg (by
    have h3 : (f.op == 3) = false := h3
    rwa [beq_eq_false_iff_ne] at h3)]
end Go.Proofs.Ytnookbebiacaeaa
end
