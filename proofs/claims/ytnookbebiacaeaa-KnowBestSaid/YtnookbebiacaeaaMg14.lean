/-
  Several texts in one: Tab, W1, W2, W3, W4, W5, W6, L1, L2, Rc1, Rc2, Sn, Rc3, Rc4, Rc5, K1, K2, K3, K4, K5, K6.
-/
import Derived.Test.YtnookbebiacaeaaProg
import Derived.KernelRfl
import Derived.Test.YtnookbebiacaeaaMg13

section
/-
  The types that the functions name, as the engine's table.
-/
namespace Go.Proofs.Ytnookbebiacaeaa
open Go.Eng
def ti24 : TI := ⟨(.struct #[⟨"Message", 3, 0, false, "", "", 0⟩, ⟨"Who", 3, 1, false, "", "", 8⟩, ⟨"Level", 3, 2, false, "", "", 16⟩, ⟨"Step", 3, 3, false, "", "", 24⟩, ⟨"Not", 4, 4, false, "", "", 32⟩]), true, 5, 40, (.agg #[(.int .i64 0), (.int .i64 0), (.int .i64 0), (.int .i64 0), (.bool false)]), true⟩   -- api.Note
theorem tiOk24 : TIOk Try.prog 24 ti24 := TIOk.of (by kernel_rfl) rfl (by kernel_rfl)
theorem cmpOk24 : ti24.cmp = true → structCmpB Try.prog 24 = true := fun _ => by kernel_rfl
def ti27 : TI := ⟨(.struct #[⟨"Name", 9, 0, false, "", "", 0⟩, ⟨"Edit", 3, 1, false, "", "", 16⟩, ⟨"Within", 3, 2, false, "", "", 24⟩, ⟨"Delete", 3, 3, false, "", "", 32⟩, ⟨"React", 4, 4, false, "", "", 40⟩, ⟨"Thread", 3, 5, false, "", "", 48⟩, ⟨"Quote", 4, 6, false, "", "", 56⟩, ⟨"Mention", 4, 7, false, "", "", 57⟩, ⟨"Size", 3, 8, false, "", "", 64⟩, ⟨"Parts", 3, 9, false, "", "", 72⟩, ⟨"Files", 3, 10, false, "", "", 80⟩, ⟨"Bytes", 3, 11, false, "", "", 88⟩, ⟨"Types", 25, 12, false, "", "", 96⟩, ⟨"Join", 3, 13, false, "", "", 120⟩, ⟨"History", 3, 14, false, "", "", 128⟩, ⟨"Remove", 3, 15, false, "", "", 136⟩, ⟨"Level", 3, 16, false, "", "", 144⟩, ⟨"Batch", 4, 17, false, "", "", 152⟩, ⟨"Rate", 3, 18, false, "", "", 160⟩, ⟨"Down", 3, 19, false, "", "", 168⟩, ⟨"Window", 3, 20, false, "", "", 176⟩, ⟨"Keep", 3, 21, false, "", "", 184⟩]), true, 22, 192, (.agg #[(.string ⟨#[]⟩), (.int .i64 0), (.int .i64 0), (.int .i64 0), (.bool false), (.int .i64 0), (.bool false), (.bool false), (.int .i64 0), (.int .i64 0), (.int .i64 0), (.int .i64 0), (.slice none 0 0), (.int .i64 0), (.int .i64 0), (.int .i64 0), (.int .i64 0), (.bool false), (.int .i64 0), (.int .i64 0), (.int .i64 0), (.int .i64 0)]), false⟩   -- api.Profile
theorem tiOk27 : TIOk Try.prog 27 ti27 := TIOk.of (by kernel_rfl) rfl (by kernel_rfl)
theorem cmpOk27 : ti27.cmp = true → structCmpB Try.prog 27 = true := fun h => by cases h
def ti22 : TI := ⟨(.slice 24), false, 1, 24, (.slice none 0 0), false⟩   -- []api.Note
theorem tiOk22 : TIOk Try.prog 22 ti22 := TIOk.of (by kernel_rfl) rfl (by kernel_rfl)
theorem cmpOk22 : ti22.cmp = true → structCmpB Try.prog 22 = true := fun h => by cases h
def ti3 : TI := ⟨(.int .i64), false, 1, 8, (.int .i64 0), false⟩   -- int
theorem tiOk3 : TIOk Try.prog 3 ti3 := TIOk.of (by kernel_rfl) rfl (by kernel_rfl)
theorem cmpOk3 : ti3.cmp = true → structCmpB Try.prog 3 = true := fun h => by cases h
def ti29 : TI := ⟨(.int .i64), false, 1, 8, (.int .i64 0), false⟩   -- api.Errno
theorem tiOk29 : TIOk Try.prog 29 ti29 := TIOk.of (by kernel_rfl) rfl (by kernel_rfl)
theorem cmpOk29 : ti29.cmp = true → structCmpB Try.prog 29 = true := fun h => by cases h
def ti4 : TI := ⟨.bool, false, 1, 1, (.bool false), false⟩   -- bool
theorem tiOk4 : TIOk Try.prog 4 ti4 := TIOk.of (by kernel_rfl) rfl (by kernel_rfl)
theorem cmpOk4 : ti4.cmp = true → structCmpB Try.prog 4 = true := fun h => by cases h
def ti36 : TI := ⟨(.slice 3), false, 1, 24, (.slice none 0 0), false⟩   -- []int
theorem tiOk36 : TIOk Try.prog 36 ti36 := TIOk.of (by kernel_rfl) rfl (by kernel_rfl)
theorem cmpOk36 : ti36.cmp = true → structCmpB Try.prog 36 = true := fun h => by cases h
def ti50 : TI := ⟨(.struct #[⟨"Op", 3, 0, false, "", "", 0⟩, ⟨"Message", 3, 1, false, "", "", 8⟩, ⟨"Who", 3, 2, false, "", "", 16⟩, ⟨"Level", 3, 3, false, "", "", 24⟩, ⟨"Args", 48, 4, false, "", "", 32⟩]), true, 5, 56, (.agg #[(.int .i64 0), (.int .i64 0), (.int .i64 0), (.int .i64 0), (.slice none 0 0)]), false⟩   -- api.Formula
theorem tiOk50 : TIOk Try.prog 50 ti50 := TIOk.of (by kernel_rfl) rfl (by kernel_rfl)
theorem cmpOk50 : ti50.cmp = true → structCmpB Try.prog 50 = true := fun h => by cases h
def ti48 : TI := ⟨(.slice 50), false, 1, 24, (.slice none 0 0), false⟩   -- []api.Formula
theorem tiOk48 : TIOk Try.prog 48 ti48 := TIOk.of (by kernel_rfl) rfl (by kernel_rfl)
theorem cmpOk48 : ti48.cmp = true → structCmpB Try.prog 48 = true := fun h => by cases h
def ti68 : TI := ⟨(.pointer 151), false, 1, 8, (.pointer none), false⟩   -- *chunk.Store
theorem tiOk68 : TIOk Try.prog 68 ti68 := TIOk.of (by kernel_rfl) rfl (by kernel_rfl)
theorem cmpOk68 : ti68.cmp = true → structCmpB Try.prog 68 = true := fun h => by cases h
def ti66 : TI := ⟨(.slice 76), false, 1, 24, (.slice none 0 0), false⟩   -- []linguaref38.Op
theorem tiOk66 : TIOk Try.prog 66 ti66 := TIOk.of (by kernel_rfl) rfl (by kernel_rfl)
theorem cmpOk66 : ti66.cmp = true → structCmpB Try.prog 66 = true := fun h => by cases h
def ti76 : TI := ⟨(.struct #[⟨"Do", 3, 0, false, "", "", 0⟩, ⟨"Tenant", 3, 1, false, "", "", 8⟩, ⟨"Name", 3, 2, false, "", "", 16⟩, ⟨"Text", 9, 3, false, "", "", 24⟩]), true, 4, 40, (.agg #[(.int .i64 0), (.int .i64 0), (.int .i64 0), (.string ⟨#[]⟩)]), true⟩   -- linguaref38.Op
theorem tiOk76 : TIOk Try.prog 76 ti76 := TIOk.of (by kernel_rfl) rfl (by kernel_rfl)
theorem cmpOk76 : ti76.cmp = true → structCmpB Try.prog 76 = true := fun _ => by kernel_rfl
def ti73 : TI := ⟨(.struct #[⟨"N", 3, 0, false, "", "", 0⟩, ⟨"Text", 9, 1, false, "", "", 8⟩, ⟨"Err", 29, 2, false, "", "", 24⟩]), true, 3, 32, (.agg #[(.int .i64 0), (.string ⟨#[]⟩), (.int .i64 0)]), true⟩   -- linguaref38.Done
theorem tiOk73 : TIOk Try.prog 73 ti73 := TIOk.of (by kernel_rfl) rfl (by kernel_rfl)
theorem cmpOk73 : ti73.cmp = true → structCmpB Try.prog 73 = true := fun _ => by kernel_rfl
def ti25 : TI := ⟨(.slice 9), false, 1, 24, (.slice none 0 0), false⟩   -- []string
theorem tiOk25 : TIOk Try.prog 25 ti25 := TIOk.of (by kernel_rfl) rfl (by kernel_rfl)
theorem cmpOk25 : ti25.cmp = true → structCmpB Try.prog 25 = true := fun h => by cases h
def ti9 : TI := ⟨.string, false, 1, 16, (.string ⟨#[]⟩), false⟩   -- string
theorem tiOk9 : TIOk Try.prog 9 ti9 := TIOk.of (by kernel_rfl) rfl (by kernel_rfl)
theorem cmpOk9 : ti9.cmp = true → structCmpB Try.prog 9 = true := fun h => by cases h
def ti88 : TI := ⟨(.slice 73), false, 1, 24, (.slice none 0 0), false⟩   -- []linguaref38.Done
theorem tiOk88 : TIOk Try.prog 88 ti88 := TIOk.of (by kernel_rfl) rfl (by kernel_rfl)
theorem cmpOk88 : ti88.cmp = true → structCmpB Try.prog 88 = true := fun h => by cases h
def ti92 : TI := ⟨(.pointer 182), false, 1, 8, (.pointer none), false⟩   -- *conv.Conv
theorem tiOk92 : TIOk Try.prog 92 ti92 := TIOk.of (by kernel_rfl) rfl (by kernel_rfl)
theorem cmpOk92 : ti92.cmp = true → structCmpB Try.prog 92 = true := fun h => by cases h
def ti90 : TI := ⟨(.slice 96), false, 1, 24, (.slice none 0 0), false⟩   -- []api.Event
theorem tiOk90 : TIOk Try.prog 90 ti90 := TIOk.of (by kernel_rfl) rfl (by kernel_rfl)
theorem cmpOk90 : ti90.cmp = true → structCmpB Try.prog 90 = true := fun h => by cases h
def ti96 : TI := ⟨(.struct #[⟨"Author", 3, 0, false, "", "", 0⟩, ⟨"Seq", 3, 1, false, "", "", 8⟩, ⟨"Causes", 36, 2, false, "", "", 16⟩, ⟨"Kind", 3, 3, false, "", "", 40⟩, ⟨"Group", 3, 4, false, "", "", 48⟩, ⟨"Target", 3, 5, false, "", "", 56⟩, ⟨"Quote", 3, 6, false, "", "", 64⟩, ⟨"Who", 3, 7, false, "", "", 72⟩, ⟨"N", 3, 8, false, "", "", 80⟩, ⟨"Text", 9, 9, false, "", "", 88⟩, ⟨"Files", 36, 10, false, "", "", 104⟩, ⟨"Step", 3, 11, false, "", "", 128⟩]), true, 12, 136, (.agg #[(.int .i64 0), (.int .i64 0), (.slice none 0 0), (.int .i64 0), (.int .i64 0), (.int .i64 0), (.int .i64 0), (.int .i64 0), (.int .i64 0), (.string ⟨#[]⟩), (.slice none 0 0), (.int .i64 0)]), false⟩   -- api.Event
theorem tiOk96 : TIOk Try.prog 96 ti96 := TIOk.of (by kernel_rfl) rfl (by kernel_rfl)
theorem cmpOk96 : ti96.cmp = true → structCmpB Try.prog 96 = true := fun h => by cases h
def ti105 : TI := ⟨(.slice 36), false, 1, 24, (.slice none 0 0), false⟩   -- [][]int
theorem tiOk105 : TIOk Try.prog 105 ti105 := TIOk.of (by kernel_rfl) rfl (by kernel_rfl)
theorem cmpOk105 : ti105.cmp = true → structCmpB Try.prog 105 = true := fun h => by cases h
def ti109 : TI := ⟨(.slice 29), false, 1, 24, (.slice none 0 0), false⟩   -- []api.Errno
theorem tiOk109 : TIOk Try.prog 109 ti109 := TIOk.of (by kernel_rfl) rfl (by kernel_rfl)
theorem cmpOk109 : ti109.cmp = true → structCmpB Try.prog 109 = true := fun h => by cases h
def ti114 : TI := ⟨(.pointer 119), false, 1, 8, (.pointer none), false⟩   -- *linguaref15.Conv
theorem tiOk114 : TIOk Try.prog 114 ti114 := TIOk.of (by kernel_rfl) rfl (by kernel_rfl)
theorem cmpOk114 : ti114.cmp = true → structCmpB Try.prog 114 = true := fun h => by cases h
def ti119 : TI := ⟨(.struct #[⟨"L", 90, 0, false, "", "", 0⟩]), true, 1, 24, (.agg #[(.slice none 0 0)]), false⟩   -- linguaref15.Conv
theorem tiOk119 : TIOk Try.prog 119 ti119 := TIOk.of (by kernel_rfl) rfl (by kernel_rfl)
theorem cmpOk119 : ti119.cmp = true → structCmpB Try.prog 119 = true := fun h => by cases h
def ti126 : TI := ⟨(.map 128 4), false, 1, 8, (.map none), false⟩   -- map[receipt.about]bool
theorem tiOk126 : TIOk Try.prog 126 ti126 := TIOk.of (by kernel_rfl) rfl (by kernel_rfl)
theorem cmpOk126 : ti126.cmp = true → structCmpB Try.prog 126 = true := fun h => by cases h
def ti128 : TI := ⟨(.struct #[⟨"message", 3, 0, false, "", "lingua/receipt", 0⟩, ⟨"who", 3, 1, false, "", "lingua/receipt", 8⟩]), true, 2, 16, (.agg #[(.int .i64 0), (.int .i64 0)]), true⟩   -- receipt.about
theorem tiOk128 : TIOk Try.prog 128 ti128 := TIOk.of (by kernel_rfl) rfl (by kernel_rfl)
theorem cmpOk128 : ti128.cmp = true → structCmpB Try.prog 128 = true := fun _ => by kernel_rfl
def ti135 : TI := ⟨(.struct #[⟨"message", 3, 0, false, "", "lingua/levels", 0⟩, ⟨"who", 3, 1, false, "", "lingua/levels", 8⟩]), true, 2, 16, (.agg #[(.int .i64 0), (.int .i64 0)]), true⟩   -- levels.pair
theorem tiOk135 : TIOk Try.prog 135 ti135 := TIOk.of (by kernel_rfl) rfl (by kernel_rfl)
theorem cmpOk135 : ti135.cmp = true → structCmpB Try.prog 135 = true := fun _ => by kernel_rfl
def ti145 : TI := ⟨(.map 172 3), false, 1, 8, (.map none), false⟩   -- map[chunk.key]int
theorem tiOk145 : TIOk Try.prog 145 ti145 := TIOk.of (by kernel_rfl) rfl (by kernel_rfl)
theorem cmpOk145 : ti145.cmp = true → structCmpB Try.prog 145 = true := fun h => by cases h
def ti151 : TI := ⟨(.struct #[⟨"uses", 145, 0, false, "", "lingua/chunk", 0⟩, ⟨"tenants", 149, 1, false, "", "lingua/chunk", 8⟩]), true, 25, 200, (.agg #[(.map none), (.map none), (.int .i64 0), (.map none), (.int .i64 0), (.map none), (.int .i64 0), (.map none), (.int .i64 0), (.map none), (.int .i64 0), (.map none), (.int .i64 0), (.map none), (.int .i64 0), (.map none), (.int .i64 0), (.map none), (.int .i64 0), (.map none), (.int .i64 0), (.map none), (.int .i64 0), (.map none), (.int .i64 0)]), false⟩   -- chunk.Store
theorem tiOk151 : TIOk Try.prog 151 ti151 := TIOk.of (by kernel_rfl) rfl (by kernel_rfl)
theorem cmpOk151 : ti151.cmp = true → structCmpB Try.prog 151 = true := fun h => by cases h
def ti146 : TI := ⟨(.map 3 159), false, 1, 8, (.map none), false⟩   -- map[int]chunk.file
theorem tiOk146 : TIOk Try.prog 146 ti146 := TIOk.of (by kernel_rfl) rfl (by kernel_rfl)
theorem cmpOk146 : ti146.cmp = true → structCmpB Try.prog 146 = true := fun h => by cases h
def ti149 : TI := ⟨(.array 12 148), true, 24, 192, (.agg #[(.map none), (.int .i64 0), (.map none), (.int .i64 0), (.map none), (.int .i64 0), (.map none), (.int .i64 0), (.map none), (.int .i64 0), (.map none), (.int .i64 0), (.map none), (.int .i64 0), (.map none), (.int .i64 0), (.map none), (.int .i64 0), (.map none), (.int .i64 0), (.map none), (.int .i64 0), (.map none), (.int .i64 0)]), false⟩   -- [12]chunk.tenant
theorem tiOk149 : TIOk Try.prog 149 ti149 := TIOk.of (by kernel_rfl) rfl (by kernel_rfl)
theorem cmpOk149 : ti149.cmp = true → structCmpB Try.prog 149 = true := fun h => by cases h
def ti148 : TI := ⟨(.struct #[⟨"files", 146, 0, false, "", "lingua/chunk", 0⟩, ⟨"next", 3, 1, false, "", "lingua/chunk", 8⟩]), true, 2, 16, (.agg #[(.map none), (.int .i64 0)]), false⟩   -- chunk.tenant
theorem tiOk148 : TIOk Try.prog 148 ti148 := TIOk.of (by kernel_rfl) rfl (by kernel_rfl)
theorem cmpOk148 : ti148.cmp = true → structCmpB Try.prog 148 = true := fun h => by cases h
def ti154 : TI := ⟨(.struct #[⟨"Files", 152, 0, false, "", "", 0⟩, ⟨"Given", 36, 1, false, "", "", 24⟩]), true, 2, 48, (.agg #[(.slice none 0 0), (.slice none 0 0)]), false⟩   -- linguaref38.Store
theorem tiOk154 : TIOk Try.prog 154 ti154 := TIOk.of (by kernel_rfl) rfl (by kernel_rfl)
theorem cmpOk154 : ti154.cmp = true → structCmpB Try.prog 154 = true := fun h => by cases h
def ti152 : TI := ⟨(.slice 161), false, 1, 24, (.slice none 0 0), false⟩   -- []linguaref38.File
theorem tiOk152 : TIOk Try.prog 152 ti152 := TIOk.of (by kernel_rfl) rfl (by kernel_rfl)
theorem cmpOk152 : ti152.cmp = true → structCmpB Try.prog 152 = true := fun h => by cases h
def ti161 : TI := ⟨(.struct #[⟨"Tenant", 3, 0, false, "", "", 0⟩, ⟨"Name", 3, 1, false, "", "", 8⟩, ⟨"Text", 9, 2, false, "", "", 16⟩]), true, 3, 32, (.agg #[(.int .i64 0), (.int .i64 0), (.string ⟨#[]⟩)]), true⟩   -- linguaref38.File
theorem tiOk161 : TIOk Try.prog 161 ti161 := TIOk.of (by kernel_rfl) rfl (by kernel_rfl)
theorem cmpOk161 : ti161.cmp = true → structCmpB Try.prog 161 = true := fun _ => by kernel_rfl
def ti159 : TI := ⟨(.slice 172), false, 1, 24, (.slice none 0 0), false⟩   -- chunk.file
theorem tiOk159 : TIOk Try.prog 159 ti159 := TIOk.of (by kernel_rfl) rfl (by kernel_rfl)
theorem cmpOk159 : ti159.cmp = true → structCmpB Try.prog 159 = true := fun h => by cases h
def ti172 : TI := ⟨(.struct #[⟨"n", 3, 0, false, "", "lingua/chunk", 0⟩, ⟨"bytes", 170, 1, false, "", "lingua/chunk", 8⟩]), true, 33, 40, (.agg #[(.int .i64 0), (.int .u8 0), (.int .u8 0), (.int .u8 0), (.int .u8 0), (.int .u8 0), (.int .u8 0), (.int .u8 0), (.int .u8 0), (.int .u8 0), (.int .u8 0), (.int .u8 0), (.int .u8 0), (.int .u8 0), (.int .u8 0), (.int .u8 0), (.int .u8 0), (.int .u8 0), (.int .u8 0), (.int .u8 0), (.int .u8 0), (.int .u8 0), (.int .u8 0), (.int .u8 0), (.int .u8 0), (.int .u8 0), (.int .u8 0), (.int .u8 0), (.int .u8 0), (.int .u8 0), (.int .u8 0), (.int .u8 0), (.int .u8 0)]), false⟩   -- chunk.key
theorem tiOk172 : TIOk Try.prog 172 ti172 := TIOk.of (by kernel_rfl) rfl (by kernel_rfl)
theorem cmpOk172 : ti172.cmp = true → structCmpB Try.prog 172 = true := fun h => by cases h
def ti179 : TI := ⟨(.map 3 36), false, 1, 8, (.map none), false⟩   -- map[int][]int
theorem tiOk179 : TIOk Try.prog 179 ti179 := TIOk.of (by kernel_rfl) rfl (by kernel_rfl)
theorem cmpOk179 : ti179.cmp = true → structCmpB Try.prog 179 = true := fun h => by cases h
def ti180 : TI := ⟨(.map 3 4), false, 1, 8, (.map none), false⟩   -- map[int]bool
theorem tiOk180 : TIOk Try.prog 180 ti180 := TIOk.of (by kernel_rfl) rfl (by kernel_rfl)
theorem cmpOk180 : ti180.cmp = true → structCmpB Try.prog 180 = true := fun h => by cases h
def ti182 : TI := ⟨(.struct #[⟨"events", 90, 0, false, "", "lingua/conv", 0⟩, ⟨"own", 179, 1, false, "", "lingua/conv", 24⟩, ⟨"deleted", 180, 2, false, "", "lingua/conv", 32⟩]), true, 3, 40, (.agg #[(.slice none 0 0), (.map none), (.map none)]), false⟩   -- conv.Conv
theorem tiOk182 : TIOk Try.prog 182 ti182 := TIOk.of (by kernel_rfl) rfl (by kernel_rfl)
theorem cmpOk182 : ti182.cmp = true → structCmpB Try.prog 182 = true := fun h => by cases h
def ti188 : TI := ⟨(.slice 4), false, 1, 24, (.slice none 0 0), false⟩   -- []bool
theorem tiOk188 : TIOk Try.prog 188 ti188 := TIOk.of (by kernel_rfl) rfl (by kernel_rfl)
theorem cmpOk188 : ti188.cmp = true → structCmpB Try.prog 188 = true := fun h => by cases h
def ti192 : TI := ⟨(.int .u64), false, 1, 8, (.int .u64 0), false⟩   -- uint
theorem tiOk192 : TIOk Try.prog 192 ti192 := TIOk.of (by kernel_rfl) rfl (by kernel_rfl)
theorem cmpOk192 : ti192.cmp = true → structCmpB Try.prog 192 = true := fun h => by cases h
def ti142 : TI := ⟨(.slice 196), false, 1, 24, (.slice none 0 0), false⟩   -- []know.pair
theorem tiOk142 : TIOk Try.prog 142 ti142 := TIOk.of (by kernel_rfl) rfl (by kernel_rfl)
theorem cmpOk142 : ti142.cmp = true → structCmpB Try.prog 142 = true := fun h => by cases h
def ti196 : TI := ⟨(.struct #[⟨"message", 3, 0, false, "", "lingua/know", 0⟩, ⟨"who", 3, 1, false, "", "lingua/know", 8⟩]), true, 2, 16, (.agg #[(.int .i64 0), (.int .i64 0)]), true⟩   -- know.pair
theorem tiOk196 : TIOk Try.prog 196 ti196 := TIOk.of (by kernel_rfl) rfl (by kernel_rfl)
theorem cmpOk196 : ti196.cmp = true → structCmpB Try.prog 196 = true := fun _ => by kernel_rfl
def ti199 : TI := ⟨(.struct #[⟨"nodes", 3, 0, false, "", "lingua/know", 0⟩, ⟨"pairs", 142, 1, false, "", "lingua/know", 8⟩]), true, 2, 32, (.agg #[(.int .i64 0), (.slice none 0 0)]), false⟩   -- know.size
theorem tiOk199 : TIOk Try.prog 199 ti199 := TIOk.of (by kernel_rfl) rfl (by kernel_rfl)
theorem cmpOk199 : ti199.cmp = true → structCmpB Try.prog 199 = true := fun h => by cases h
def ti53 : TI := ⟨(.func #[50] #[4] false), false, 1, 8, .nilFunc, false⟩   -- func(api.Formula) bool
theorem tiOk53 : TIOk Try.prog 53 ti53 := TIOk.of (by kernel_rfl) rfl (by kernel_rfl)
theorem cmpOk53 : ti53.cmp = true → structCmpB Try.prog 53 = true := fun h => by cases h
def ti207 : TI := ⟨(.struct #[⟨"addr", 204, 0, false, "", "strings", 0⟩, ⟨"buf", 205, 1, false, "", "strings", 8⟩]), true, 2, 32, (.agg #[(.pointer none), (.slice none 0 0)]), false⟩   -- strings.Builder
theorem tiOk207 : TIOk Try.prog 207 ti207 := TIOk.of (by kernel_rfl) rfl (by kernel_rfl)
theorem cmpOk207 : ti207.cmp = true → structCmpB Try.prog 207 = true := fun h => by cases h
def ti170 : TI := ⟨(.array 32 5), true, 32, 32, (.agg #[(.int .u8 0), (.int .u8 0), (.int .u8 0), (.int .u8 0), (.int .u8 0), (.int .u8 0), (.int .u8 0), (.int .u8 0), (.int .u8 0), (.int .u8 0), (.int .u8 0), (.int .u8 0), (.int .u8 0), (.int .u8 0), (.int .u8 0), (.int .u8 0), (.int .u8 0), (.int .u8 0), (.int .u8 0), (.int .u8 0), (.int .u8 0), (.int .u8 0), (.int .u8 0), (.int .u8 0), (.int .u8 0), (.int .u8 0), (.int .u8 0), (.int .u8 0), (.int .u8 0), (.int .u8 0), (.int .u8 0), (.int .u8 0)]), false⟩   -- [32]uint8
theorem tiOk170 : TIOk Try.prog 170 ti170 := TIOk.of (by kernel_rfl) rfl (by kernel_rfl)
theorem cmpOk170 : ti170.cmp = true → structCmpB Try.prog 170 = true := fun h => by cases h
def ti205 : TI := ⟨(.slice 5), false, 1, 24, (.slice none 0 0), false⟩   -- []uint8
theorem tiOk205 : TIOk Try.prog 205 ti205 := TIOk.of (by kernel_rfl) rfl (by kernel_rfl)
theorem cmpOk205 : ti205.cmp = true → structCmpB Try.prog 205 = true := fun h => by cases h
def ti219 : TI := ⟨(.int .i64), false, 1, 8, (.int .i64 0), false⟩   -- slices.sortedHint
theorem tiOk219 : TIOk Try.prog 219 ti219 := TIOk.of (by kernel_rfl) rfl (by kernel_rfl)
theorem cmpOk219 : ti219.cmp = true → structCmpB Try.prog 219 = true := fun h => by cases h
def ti227 : TI := ⟨(.int .u32), false, 1, 4, (.int .u32 0), false⟩   -- uint32
theorem tiOk227 : TIOk Try.prog 227 ti227 := TIOk.of (by kernel_rfl) rfl (by kernel_rfl)
theorem cmpOk227 : ti227.cmp = true → structCmpB Try.prog 227 = true := fun h => by cases h
def ti235 : TI := ⟨(.pointer 5), false, 1, 8, (.pointer none), false⟩   -- *uint8
theorem tiOk235 : TIOk Try.prog 235 ti235 := TIOk.of (by kernel_rfl) rfl (by kernel_rfl)
theorem cmpOk235 : ti235.cmp = true → structCmpB Try.prog 235 = true := fun h => by cases h
def ti204 : TI := ⟨(.pointer 207), false, 1, 8, (.pointer none), false⟩   -- *strings.Builder
theorem tiOk204 : TIOk Try.prog 204 ti204 := TIOk.of (by kernel_rfl) rfl (by kernel_rfl)
theorem cmpOk204 : ti204.cmp = true → structCmpB Try.prog 204 = true := fun h => by cases h
def ti5 : TI := ⟨(.int .u8), false, 1, 1, (.int .u8 0), false⟩   -- uint8
theorem tiOk5 : TIOk Try.prog 5 ti5 := TIOk.of (by kernel_rfl) rfl (by kernel_rfl)
theorem cmpOk5 : ti5.cmp = true → structCmpB Try.prog 5 = true := fun h => by cases h

def T : List (Nat × TI) := [(24, ti24), (27, ti27), (22, ti22), (3, ti3), (29, ti29), (4, ti4), (36, ti36), (50, ti50), (48, ti48), (68, ti68), (66, ti66), (76, ti76), (73, ti73), (25, ti25), (9, ti9), (88, ti88), (92, ti92), (90, ti90), (96, ti96), (105, ti105), (109, ti109), (114, ti114), (119, ti119), (126, ti126), (128, ti128), (135, ti135), (145, ti145), (151, ti151), (146, ti146), (149, ti149), (148, ti148), (154, ti154), (152, ti152), (161, ti161), (159, ti159), (172, ti172), (179, ti179), (180, ti180), (182, ti182), (188, ti188), (192, ti192), (142, ti142), (196, ti196), (199, ti199), (53, ti53), (207, ti207), (170, ti170), (205, ti205), (219, ti219), (227, ti227), (235, ti235), (204, ti204), (5, ti5)]
theorem mixedOk : Try.prog.follows .mixedOrders = true := by kernel_rfl
theorem tabOk : TabOk Try.prog T := ⟨⟨tiOk24, cmpOk24⟩, ⟨tiOk27, cmpOk27⟩, ⟨tiOk22, cmpOk22⟩, ⟨tiOk3, cmpOk3⟩, ⟨tiOk29, cmpOk29⟩, ⟨tiOk4, cmpOk4⟩, ⟨tiOk36, cmpOk36⟩, ⟨tiOk50, cmpOk50⟩, ⟨tiOk48, cmpOk48⟩, ⟨tiOk68, cmpOk68⟩, ⟨tiOk66, cmpOk66⟩, ⟨tiOk76, cmpOk76⟩, ⟨tiOk73, cmpOk73⟩, ⟨tiOk25, cmpOk25⟩, ⟨tiOk9, cmpOk9⟩, ⟨tiOk88, cmpOk88⟩, ⟨tiOk92, cmpOk92⟩, ⟨tiOk90, cmpOk90⟩, ⟨tiOk96, cmpOk96⟩, ⟨tiOk105, cmpOk105⟩, ⟨tiOk109, cmpOk109⟩, ⟨tiOk114, cmpOk114⟩, ⟨tiOk119, cmpOk119⟩, ⟨tiOk126, cmpOk126⟩, ⟨tiOk128, cmpOk128⟩, ⟨tiOk135, cmpOk135⟩, ⟨tiOk145, cmpOk145⟩, ⟨tiOk151, cmpOk151⟩, ⟨tiOk146, cmpOk146⟩, ⟨tiOk149, cmpOk149⟩, ⟨tiOk148, cmpOk148⟩, ⟨tiOk154, cmpOk154⟩, ⟨tiOk152, cmpOk152⟩, ⟨tiOk161, cmpOk161⟩, ⟨tiOk159, cmpOk159⟩, ⟨tiOk172, cmpOk172⟩, ⟨tiOk179, cmpOk179⟩, ⟨tiOk180, cmpOk180⟩, ⟨tiOk182, cmpOk182⟩, ⟨tiOk188, cmpOk188⟩, ⟨tiOk192, cmpOk192⟩, ⟨tiOk142, cmpOk142⟩, ⟨tiOk196, cmpOk196⟩, ⟨tiOk199, cmpOk199⟩, ⟨tiOk53, cmpOk53⟩, ⟨tiOk207, cmpOk207⟩, ⟨tiOk170, cmpOk170⟩, ⟨tiOk205, cmpOk205⟩, ⟨tiOk219, cmpOk219⟩, ⟨tiOk227, cmpOk227⟩, ⟨tiOk235, cmpOk235⟩, ⟨tiOk204, cmpOk204⟩, ⟨tiOk5, cmpOk5⟩, mixedOk⟩
end Go.Proofs.Ytnookbebiacaeaa
end

section
namespace Go.Proofs.Ytnookbebiacaeaa
open Go.Eng

theorem between_fn (n a b : Int) : Ctr Try.prog 161 [.i .i64 n, .i .i64 a, .i .i64 b] [] (.b (decide (a ≤ n) && decide (n ≤ b))) := by
  refine fn_of_exec tabOk Try.func161 (by kernel_rfl) rfl (N := Try.f161.ntmps) rfl (res := [.tmp 6]) rfl rfl [] ?_
  exact RetIs.b rfl

structure Note where
  m : Int
  w : Int
  l : Int
  s : Int
  n : Bool
def Note.av (n : Note) : List AV := [.i .i64 n.m, .i .i64 n.w, .i .i64 n.l, .i .i64 n.s, .b n.n]

def says (n : Note) (b : Bool) (pm pw : Int) : Bool := !n.n && n.w == pw && (n.m == pm || b && decide (n.m > pm))
set_option maxRecDepth 20000 in
theorem says_fn (n : Note) (b : Bool) (pm pw : Int) : Ctr Try.prog 162 [.ag n.av, .b b, .ag [.i .i64 pm, .i .i64 pw]] [] (.b (says n b pm pw)) := by
  refine fn_of_exec tabOk Try.func162 (by kernel_rfl) rfl (N := Try.f162.ntmps) rfl (res := [.tmp 6]) rfl rfl [] ?_
  exact RetIs.b rfl

def vnote (n : Note) : Bool := (decide (0 ≤ n.m) && decide (n.m ≤ 99999)) && (decide (0 ≤ n.w) && decide (n.w ≤ 1999)) && (decide (1 ≤ n.l) && decide (n.l ≤ 4)) && (decide (0 ≤ n.s) && decide (n.s ≤ 1073741824))
end Go.Proofs.Ytnookbebiacaeaa
end

section
namespace Go.Proofs.Ytnookbebiacaeaa
open Go.Eng

def dN : Note := ⟨0, 0, 0, 0, false⟩
def rowsN (l : List Note) (k : Nat) : List AV := (l.getD k dN).av
def low (l : List Note) (b : Bool) (pm pw : Int) : Int := l.foldl (fun a n => if says n b pm pw then max a n.l else a) 0
theorem low_succ (l : List Note) (b : Bool) (pm pw : Int) (k : Nat) (h : k < l.length) : low (l.take (k + 1)) b pm pw = if says (l.getD k dN) b pm pw then max (low (l.take k) b pm pw) (l.getD k dN).l else low (l.take k) b pm pw :=
  foldl_take _ _ l k dN h

set_option maxRecDepth 20000 in
theorem low_fn (l : List Note) (hl : l.length < 2^62) (b : Bool) (pm pw : Int) : Ctr Try.prog 111 [.rs 5 l.length (rowsN l), .b b, .ag [.i .i64 pm, .i .i64 pw]] [] (.i .i64 (low l b pm pw)) := by
  refine fn_of_exec tabOk Try.func111 (by kernel_rfl) rfl (N := Try.f111.ntmps) rfl (res := [.tmp 6]) rfl rfl [] ?_
  refine .inl ⟨[], Nat, fun k => k ≤ l.length, fun k => [⟨12, [], .i .i64 k⟩, ⟨7, [], .i .i64 (low (l.take k) b pm pw)⟩], fun _ => [], fun k => l.length - k,
    ⟨0, [], Nat.zero_le _, rfl, rfl, rfl, rfl, rfl, ⟨⟨rfl, rfl⟩, rfl, rfl⟩, trivial⟩, ?_⟩
  intro k hk
  refine .inl ⟨fun hc => ?_, fun hc => ?_⟩
  · have hc := dlt hc
    have hs := low_succ l b pm pw k (by omega)
    refine .inl ⟨by omega, .inl ⟨[], _, says_fn (l.getD k dN) _ _ _, ⟨fun h => ?_, fun h => ?_⟩⟩⟩
    · refine ⟨k + 1, [], by dsimp only; omega, by dsimp only; omega, rfl, rfl, rfl, rfl, rfl, ⟨⟨rfl, wr (by omega) (by omega)⟩, rfl, ?_⟩, trivial⟩
      rw [hs, h, if_pos rfl]
      rfl
    · refine ⟨k + 1, [], by dsimp only; omega, by dsimp only; omega, rfl, rfl, rfl, rfl, rfl, ⟨⟨rfl, wr (by omega) (by omega)⟩, rfl, ?_⟩, trivial⟩
      rw [hs, h, if_neg (by simp)]
  · have hc := dnlt hc
    refine RetIs.i ?_
    rw [List.take_of_length_le (by omega)]
end Go.Proofs.Ytnookbebiacaeaa
end

section
namespace Go.Proofs.Ytnookbebiacaeaa
open Go.Eng

set_option maxRecDepth 20000 in
theorem valid1_fn (n : Note) : Ctr Try.prog 160 [.ag n.av] [] (.b (!vnote n)) := by
  refine fn_of_exec tabOk Try.func160 (by kernel_rfl) rfl (N := Try.f160.ntmps) rfl (res := [.tmp 2]) rfl rfl [] ?_
  refine .inl ⟨[], _, between_fn _ _ _, .inl ⟨[], _, fun _ => between_fn _ _ _, .inl ⟨[], _, fun _ => between_fn _ _ _, .inl ⟨[], _, fun _ => between_fn _ _ _, ?_⟩⟩⟩⟩
  refine RetIs.b ?_
  simp [vnote, Bool.not_and]

theorem gd {l : List Note} {k : Nat} (h : k < l.length) : l.getD k dN = l[k] := by simp [List.getD_eq_getElem?_getD, h]
/-- The first place where p holds, or -1. -/
def idxF (p : Note → Bool) (l : List Note) : Int := match l.findIdx? p with | some k => k | none => -1
theorem idxF_some (p : Note → Bool) (l : List Note) (k : Nat) (hk : k < l.length) (h1 : ∀ j, j < k → p (l.getD j dN) = false) (h2 : p (l.getD k dN) = true) : idxF p l = k := by
  have : l.findIdx? p = some k := by
    rw [List.findIdx?_eq_some_iff_getElem]
    refine ⟨hk, ?_, fun j hj => ?_⟩
    · rw [gd hk] at h2; exact h2
    · have := h1 j hj
      rw [gd (by omega)] at this
      simp [this]
  simp [idxF, this]
theorem idxF_none (p : Note → Bool) (l : List Note) (h1 : ∀ j, j < l.length → p (l.getD j dN) = false) : idxF p l = -1 := by
  have : l.findIdx? p = none := by
    rw [List.findIdx?_eq_none_iff]
    intro x hx
    obtain ⟨j, hj, rfl⟩ := List.getElem_of_mem hx
    have := h1 j hj
    rw [gd hj] at this
    exact this
  simp [idxF, this]
theorem idxF_any (p : Note → Bool) (l : List Note) : decide (idxF p l ≥ 0) = l.any p := by
  unfold idxF
  cases h : l.findIdx? p with
  | none =>
    rw [List.findIdx?_eq_none_iff] at h
    have : l.any p = false := by simpa using h
    rw [this]; rfl
  | some k =>
    rw [List.findIdx?_eq_some_iff_getElem] at h
    obtain ⟨hk, hp, _⟩ := h
    have : l.any p = true := by rw [List.any_eq_true]; exact ⟨_, List.getElem_mem hk, hp⟩
    rw [this]
    simp

set_option maxRecDepth 20000 in
theorem index0_fn (l : List Note) (hl : l.length < 2^62) (fid : FuncId) (p : Note → Bool) (hp : ∀ x : Note, Ctr Try.prog fid [.ag x.av] [] (.b (p x))) :
    Ctr Try.prog 163 [.rs 5 l.length (rowsN l), .fn fid []] [] (.i .i64 (idxF p l)) := by
  refine fn_of_exec tabOk Try.func163 (by kernel_rfl) rfl (N := Try.f163.ntmps) rfl (res := [.tmp 4]) rfl rfl [] ?_
  refine .inl ⟨[], Nat, fun k => k ≤ l.length ∧ ∀ j, j < k → p (l.getD j dN) = false, fun k => [⟨8, [], .i .i64 k⟩], fun _ => [], fun k => l.length - k,
    ⟨0, [], ⟨Nat.zero_le _, fun j hj => by omega⟩, rfl, rfl, rfl, rfl, rfl, ⟨rfl, rfl⟩, trivial⟩, ?_⟩
  intro k hk
  obtain ⟨hk, hno⟩ := hk
  refine .inl ⟨fun hc => ?_, fun hc => ?_⟩
  · have hc := dlt hc
    refine .inl ⟨by omega, .inl ⟨[], _, hp (l.getD k dN), ⟨fun h => ?_, fun h => ?_⟩⟩⟩
    · refine RetIs.i ?_
      exact (idxF_some p l k (by omega) hno h).symm
    · refine ⟨k + 1, [], ⟨by omega, fun j hj => ?_⟩, by dsimp only; omega, rfl, rfl, rfl, rfl, rfl, ⟨rfl, wr (by omega) (by omega)⟩, trivial⟩
      by_cases hjk : j = k
      · subst hjk; exact h
      · exact hno j (by omega)
  · have hc := dnlt hc
    refine RetIs.i ?_
    exact (idxF_none p l fun j hj => hno j (by omega)).symm

set_option maxRecDepth 20000 in
theorem contains0_fn (l : List Note) (hl : l.length < 2^62) (fid : FuncId) (p : Note → Bool) (hp : ∀ x : Note, Ctr Try.prog fid [.ag x.av] [] (.b (p x))) :
    Ctr Try.prog 112 [.rs 5 l.length (rowsN l), .fn fid []] [] (.b (l.any p)) := by
  refine fn_of_exec tabOk Try.func112 (by kernel_rfl) rfl (N := Try.f112.ntmps) rfl (res := [.tmp 4]) rfl rfl [] ?_
  refine .inl ⟨[], _, index0_fn l hl fid p hp, ?_⟩
  exact RetIs.b (idxF_any p l)

def valid (l : List Note) : Bool := decide (l.length ≤ 1000) && !l.any fun n => !vnote n
set_option maxRecDepth 20000 in
theorem valid_fn (l : List Note) (hl : l.length < 2^62) : Ctr Try.prog 110 [.rs 5 l.length (rowsN l)] [] (.b (valid l)) := by
  refine fn_of_exec tabOk Try.func110 (by kernel_rfl) rfl (N := Try.f110.ntmps) rfl (res := [.tmp 2]) rfl rfl [] ?_
  refine .inl ⟨[], _, fun _ => contains0_fn l hl 160 (fun n => !vnote n) valid1_fn, ?_⟩
  refine RetIs.b ?_
  have : decide ((l.length : Int) ≤ 1000) = decide (l.length ≤ 1000) := decide_eq_decide.2 (by omega)
  simp [valid, this]

def den (n : Note) (pm pw : Int) : Bool := n.n && n.m == pm && n.w == pw
def high (l : List Note) (pm pw : Int) : Int := l.foldl (fun a n => if den n pm pw then min a (IntKind.i64.wrap (n.l - 1)) else a) 4
theorem high_succ (l : List Note) (pm pw : Int) (k : Nat) (h : k < l.length) : high (l.take (k + 1)) pm pw = if den (l.getD k dN) pm pw then min (high (l.take k) pm pw) (IntKind.i64.wrap ((l.getD k dN).l - 1)) else high (l.take k) pm pw :=
  foldl_take _ _ l k dN h

set_option maxRecDepth 20000 in
theorem high_fn (l : List Note) (hl : l.length < 2^62) (pm pw : Int) : Ctr Try.prog 114 [.rs 5 l.length (rowsN l), .ag [.i .i64 pm, .i .i64 pw]] [] (.i .i64 (high l pm pw)) := by
  refine fn_of_exec tabOk Try.func114 (by kernel_rfl) rfl (N := Try.f114.ntmps) rfl (res := [.tmp 4]) rfl rfl [] ?_
  refine .inl ⟨[], Nat, fun k => k ≤ l.length, fun k => [⟨10, [], .i .i64 k⟩, ⟨5, [], .i .i64 (high (l.take k) pm pw)⟩], fun _ => [], fun k => l.length - k,
    ⟨0, [], Nat.zero_le _, rfl, rfl, rfl, rfl, rfl, ⟨⟨rfl, rfl⟩, rfl, rfl⟩, trivial⟩, ?_⟩
  intro k hk
  refine .inl ⟨fun hc => ?_, fun hc => ?_⟩
  · have hc := dlt hc
    have hs := high_succ l pm pw k (by omega)
    refine .inl ⟨by omega, ⟨fun h => ?_, fun h => ?_⟩⟩
    · have h : den (l.getD k dN) pm pw = true := h
      refine ⟨k + 1, [], by dsimp only; omega, by dsimp only; omega, rfl, rfl, rfl, rfl, rfl, ⟨⟨rfl, wr (by omega) (by omega)⟩, rfl, ?_⟩, trivial⟩
      rw [hs, h, if_pos rfl]
      rfl
    · have h : den (l.getD k dN) pm pw = false := h
      refine ⟨k + 1, [], by dsimp only; omega, by dsimp only; omega, rfl, rfl, rfl, rfl, rfl, ⟨⟨rfl, wr (by omega) (by omega)⟩, rfl, ?_⟩, trivial⟩
      rw [hs, h, if_neg (by simp)]
  · have hc := dnlt hc
    refine RetIs.i ?_
    rw [List.take_of_length_le (by omega)]
end Go.Proofs.Ytnookbebiacaeaa
end

section
namespace Go.Proofs.Ytnookbebiacaeaa
open Go.Eng

def Low (l : List Note) (b : Bool) (m w : Int) : Int := if valid l then low l b m w else 0
def High (l : List Note) (m w : Int) : Int := if valid l then high l m w else 4
set_option maxRecDepth 20000 in
theorem Low_fn (l : List Note) (hl : l.length < 2^62) (b : Bool) (m w : Int) : Ctr Try.prog 35 [.rs 5 l.length (rowsN l), .b b, .i .i64 m, .i .i64 w] [] (.i .i64 (Low l b m w)) := by
  refine fn_of_exec tabOk Try.func35 (by kernel_rfl) rfl (N := Try.f35.ntmps) rfl (res := [.tmp 8]) rfl rfl [] ?_
  refine .inl (.inl ⟨[], _, valid_fn l hl, ⟨fun h => ?_, fun h => .inl ⟨[], _, low_fn l hl b m w, ?_⟩⟩⟩)
  · exact RetIs.i (by simp at h; simp [Low, h])
  · exact RetIs.i (by simp at h; simp [Low, h])
set_option maxRecDepth 20000 in
theorem High_fn (l : List Note) (hl : l.length < 2^62) (b : Bool) (m w : Int) : Ctr Try.prog 37 [.rs 5 l.length (rowsN l), .b b, .i .i64 m, .i .i64 w] [] (.i .i64 (High l m w)) := by
  refine fn_of_exec tabOk Try.func37 (by kernel_rfl) rfl (N := Try.f37.ntmps) rfl (res := [.tmp 8]) rfl rfl [] ?_
  refine .inl (.inl ⟨[], _, valid_fn l hl, ⟨fun h => ?_, fun h => .inl ⟨[], _, high_fn l hl m w, ?_⟩⟩⟩)
  · exact RetIs.i (by simp at h; simp [High, h])
  · exact RetIs.i (by simp at h; simp [High, h])

def bad (l : List Note) (b : Bool) (n : Note) : Bool := n.n && decide (low l b n.m n.w > high l n.m n.w)
set_option maxRecDepth 20000 in
theorem right1_fn (l : List Note) (hl : l.length < 2^62) (b : Bool) (n : Note) : Ctr Try.prog 113 [.ag n.av, .rp [.rs 5 l.length (rowsN l)], .rp [.b b]] [] (.b (bad l b n)) := by
  refine fn_of_exec tabOk Try.func113 (by kernel_rfl) rfl (N := Try.f113.ntmps) rfl (res := [.tmp 4]) rfl rfl [] ?_
  refine .inl ⟨[], _, fun _ => low_fn l hl b _ _, .inl ⟨[], _, fun _ => high_fn l hl _ _, ?_⟩⟩
  exact RetIs.b rfl
end Go.Proofs.Ytnookbebiacaeaa
end

section
namespace Go.Proofs.Ytnookbebiacaeaa
open Go.Eng

set_option maxRecDepth 20000 in
theorem index2_fn (l : List Note) (hl : l.length < 2^62) (fid : FuncId) (c1 c2 : List AV) (p : Note → Bool) (hp : ∀ x : Note, Ctr Try.prog fid [.ag x.av, .rp c1, .rp c2] [] (.b (p x))) :
    Ctr Try.prog 163 [.rs 5 l.length (rowsN l), .fn fid [.rp c1, .rp c2]] [] (.i .i64 (idxF p l)) := by
  refine fn_of_exec tabOk Try.func163 (by kernel_rfl) rfl (N := Try.f163.ntmps) rfl (res := [.tmp 4]) rfl rfl [] ?_
  refine .inl ⟨[], Nat, fun k => k ≤ l.length ∧ ∀ j, j < k → p (l.getD j dN) = false, fun k => [⟨8, [], .i .i64 k⟩], fun _ => [], fun k => l.length - k,
    ⟨0, [], ⟨Nat.zero_le _, fun j hj => by omega⟩, rfl, rfl, rfl, rfl, rfl, ⟨rfl, rfl⟩, trivial⟩, ?_⟩
  intro k hk
  obtain ⟨hk, hno⟩ := hk
  refine .inl ⟨fun hc => ?_, fun hc => ?_⟩
  · have hc := dlt hc
    refine .inl ⟨by omega, .inl ⟨[], _, hp (l.getD k dN), ⟨fun h => ?_, fun h => ?_⟩⟩⟩
    · refine RetIs.i ?_
      exact (idxF_some p l k (by omega) hno h).symm
    · refine ⟨k + 1, [], ⟨by omega, fun j hj => ?_⟩, by dsimp only; omega, rfl, rfl, rfl, rfl, rfl, ⟨rfl, wr (by omega) (by omega)⟩, trivial⟩
      by_cases hjk : j = k
      · subst hjk; exact h
      · exact hno j (by omega)
  · have hc := dnlt hc
    refine RetIs.i ?_
    exact (idxF_none p l fun j hj => hno j (by omega)).symm

set_option maxRecDepth 20000 in
theorem contains2_fn (l : List Note) (hl : l.length < 2^62) (fid : FuncId) (c1 c2 : List AV) (p : Note → Bool) (hp : ∀ x : Note, Ctr Try.prog fid [.ag x.av, .rp c1, .rp c2] [] (.b (p x))) :
    Ctr Try.prog 112 [.rs 5 l.length (rowsN l), .fn fid [.rp c1, .rp c2]] [] (.b (l.any p)) := by
  refine fn_of_exec tabOk Try.func112 (by kernel_rfl) rfl (N := Try.f112.ntmps) rfl (res := [.tmp 4]) rfl rfl [] ?_
  refine .inl ⟨[], _, index2_fn l hl fid c1 c2 p hp, ?_⟩
  exact RetIs.b (idxF_any p l)

def Right (l : List Note) (b : Bool) : Bool := valid l && !l.any (bad l b)
set_option maxRecDepth 20000 in
theorem Right_fn (l : List Note) (hl : l.length < 2^62) (b : Bool) : Ctr Try.prog 36 [.rs 5 l.length (rowsN l), .b b] [] (.b (Right l b)) := by
  refine fn_of_exec tabOk Try.func36 (by kernel_rfl) rfl (N := Try.f36.ntmps) rfl (res := [.tmp 4]) rfl rfl [] ?_
  refine .inl (.inl ⟨[], _, valid_fn l hl, ⟨fun h => ?_, fun h => .inl ⟨[], _, contains2_fn l hl 113 _ _ (bad l b) (right1_fn l hl b), ?_⟩⟩⟩)
  · exact RetIs.b (by simp at h; simp [Right, h])
  · exact RetIs.b (by simp at h; simp [Right, h])

end Go.Proofs.Ytnookbebiacaeaa
end

section
namespace Go.Proofs.Ytnookbebiacaeaa
open Go.Eng

/-- The reference's law: no note at which the least level is over the greatest one. -/
def rRight (l : List Note) (b : Bool) : Bool := valid l && l.all fun n => decide (Low l b n.m n.w ≤ High l n.m n.w)
end Go.Proofs.Ytnookbebiacaeaa
end

section
namespace Go.Proofs.Ytnookbebiacaeaa
open Go.Eng

theorem foldl_le (b : Bool) (m w : Int) : ∀ (l : List Note) (a : Int), a ≤ 4 → (∀ n ∈ l, n.l ≤ 4) → l.foldl (fun a n => if says n b m w then max a n.l else a) a ≤ 4
  | [], a, h, _ => h
  | n :: r, a, h, hv => by
    refine foldl_le b m w r _ ?_ fun n hn => hv n (List.mem_cons_of_mem _ hn)
    have := hv n (by simp)
    dsimp only
    split <;> omega
theorem foldl_none (m w : Int) : ∀ (l : List Note) (a : Int), (∀ n ∈ l, den n m w = false) → l.foldl (fun a n => if den n m w then min a (IntKind.i64.wrap (n.l - 1)) else a) a = a
  | [], a, _ => rfl
  | n :: r, a, hv => by
    simp only [List.foldl_cons, hv n (by simp), Bool.false_eq_true, if_false]
    exact foldl_none m w r a fun n hn => hv n (List.mem_cons_of_mem _ hn)
theorem valid_all {l : List Note} (h : valid l = true) : ∀ n ∈ l, vnote n = true := by
  intro n hn
  unfold valid at h
  simp at h
  exact h.2 n hn
theorem right_eq (l : List Note) (b : Bool) : Right l b = rRight l b := by
  unfold Right rRight
  cases hv : valid l with
  | false => rfl
  | true =>
    have hall := valid_all hv
    simp only [Bool.true_and, Low, High, hv, if_true]
    rw [Bool.eq_iff_iff]
    simp only [Bool.not_eq_true', List.any_eq_false, List.all_eq_true, decide_eq_true_eq]
    constructor
    · intro h n hn
      by_cases hd : ∃ x ∈ l, den x n.m n.w = true
      · obtain ⟨x, hx, hxd⟩ := hd
        have h2 := h x hx
        unfold den at hxd
        simp at hxd
        obtain ⟨⟨h3, h4⟩, h5⟩ := hxd
        unfold bad at h2
        rw [h3, h4, h5] at h2
        simp at h2
        omega
      · have hno : ∀ x ∈ l, den x n.m n.w = false := fun x hx => by
          cases hh : den x n.m n.w with
          | false => rfl
          | true => exact (hd ⟨x, hx, hh⟩).elim
        have h1 : high l n.m n.w = 4 := foldl_none n.m n.w l 4 hno
        have h2 : low l b n.m n.w ≤ 4 := foldl_le b n.m n.w l 0 (by omega) fun x hx => by
          have := hall x hx
          unfold vnote at this
          simp at this
          omega
        omega
    · intro h n hn hb
      unfold bad at hb
      simp at hb
      have := h n hn
      omega
end Go.Proofs.Ytnookbebiacaeaa
end

section
/-
  LevelsMore in plain terms: what a further note, and another order and other steps, do to the least and the greatest level.
-/
namespace Go.Proofs.Ytnookbebiacaeaa
open Go.Eng

theorem foldmax_le (b : Bool) (m w v : Int) : ∀ (l : List Note) (a : Int), l.foldl (fun a n => if says n b m w then max a n.l else a) a ≤ v ↔ a ≤ v ∧ ∀ n ∈ l, says n b m w = true → n.l ≤ v
  | [], a => by simp
  | n :: r, a => by
    simp only [List.foldl_cons, List.mem_cons, forall_eq_or_imp]
    rw [foldmax_le b m w v r]
    cases hs : says n b m w
    · simp
    · simp only [if_true, forall_const]
      constructor
      · rintro ⟨h1, h2⟩; exact ⟨by omega, by omega, h2⟩
      · rintro ⟨h1, h2, h3⟩; exact ⟨by omega, h3⟩
theorem low_le (b : Bool) (m w v : Int) (l : List Note) : low l b m w ≤ v ↔ 0 ≤ v ∧ ∀ n ∈ l, says n b m w = true → n.l ≤ v := foldmax_le b m w v l 0
theorem foldmin_ge (m w v : Int) : ∀ (l : List Note) (a : Int), (∀ n ∈ l, vnote n = true) → (v ≤ l.foldl (fun a n => if den n m w then min a (IntKind.i64.wrap (n.l - 1)) else a) a ↔ v ≤ a ∧ ∀ n ∈ l, den n m w = true → v ≤ n.l - 1)
  | [], a, _ => by simp
  | n :: r, a, hv => by
    simp only [List.foldl_cons, List.mem_cons, forall_eq_or_imp]
    rw [foldmin_ge m w v r _ fun n hn => hv n (List.mem_cons_of_mem _ hn)]
    have hn := hv n (by simp)
    unfold vnote at hn
    simp at hn
    rw [wr (by omega) (by omega)]
    cases hs : den n m w
    · simp
    · simp only [if_true, forall_const]
      constructor
      · rintro ⟨h1, h2⟩; exact ⟨by omega, by omega, h2⟩
      · rintro ⟨h1, h2, h3⟩; exact ⟨by omega, h3⟩
theorem high_ge (m w v : Int) (l : List Note) (hv : ∀ n ∈ l, vnote n = true) : v ≤ high l m w ↔ v ≤ 4 ∧ ∀ n ∈ l, den n m w = true → v ≤ n.l - 1 := foldmin_ge m w v l 4 hv

/-- The note but for its step. -/
def strip (n : Note) : Note := { n with s := 0 }
/-- Each note of the one list, but for its step, is one of the other. -/
def subN (l l' : List Note) : Prop := ∀ n ∈ l, ∃ k ∈ l', strip n = strip k
theorem strip_says {n k : Note} (h : strip n = strip k) (b : Bool) (m w : Int) : says n b m w = says k b m w ∧ den n m w = den k m w ∧ n.l = k.l ∧ n.m = k.m ∧ n.w = k.w ∧ n.n = k.n := by
  obtain ⟨a1, a2, a3, a4, a5⟩ := n
  obtain ⟨b1, b2, b3, b4, b5⟩ := k
  simp only [strip, Note.mk.injEq] at h
  obtain ⟨rfl, rfl, rfl, _, rfl⟩ := h
  exact ⟨rfl, rfl, rfl, rfl, rfl, rfl⟩
theorem low_sub {l l' : List Note} (h : subN l l') (b : Bool) (m w : Int) : low l b m w ≤ low l' b m w := by
  have h' := (low_le b m w _ l').1 (Int.le_refl _)
  refine (low_le b m w _ l).2 ⟨h'.1, fun n hn hs => ?_⟩
  obtain ⟨k, hk, e⟩ := h n hn
  obtain ⟨e1, _, e2, _⟩ := strip_says e b m w
  rw [e2]
  exact h'.2 k hk (e1 ▸ hs)
theorem high_sub {l l' : List Note} (hv : ∀ n ∈ l, vnote n = true) (hv' : ∀ n ∈ l', vnote n = true) (h : subN l l') (m w : Int) : high l' m w ≤ high l m w := by
  have h' := (high_ge m w _ l' hv').1 (Int.le_refl _)
  refine (high_ge m w _ l hv).2 ⟨h'.1, fun n hn hs => ?_⟩
  obtain ⟨k, hk, e⟩ := h n hn
  obtain ⟨_, e1, e2, _⟩ := strip_says e true m w
  rw [e2]
  exact h'.2 k hk (e1 ▸ hs)
theorem right_sub {l l' : List Note} (hv : valid l = true) (hv' : valid l' = true) (h : subN l l') (b : Bool) (hr : Right l' b = true) : Right l b = true := by
  unfold Right at hr ⊢
  rw [hv'] at hr
  rw [hv]
  simp only [Bool.true_and, Bool.not_eq_true', List.any_eq_false] at hr ⊢
  intro n hn
  obtain ⟨k, hk, e⟩ := h n hn
  obtain ⟨_, _, _, e1, e2, e3⟩ := strip_says e b 0 0
  have := hr k hk
  have h1 := low_sub h b n.m n.w
  have h2 := high_sub (valid_all hv) (valid_all hv') h n.m n.w
  unfold bad at this ⊢
  rw [← e1, ← e2, ← e3] at this
  simp only [Bool.and_eq_true, decide_eq_true_eq, not_and, gt_iff_lt, Int.not_lt] at this ⊢
  intro h3
  have := this h3
  omega

def steps (r : List Note) : List Note := (List.range r.length).map fun j => { r.getD j dN with s := (j : Int) }
theorem subN.trans {a b c : List Note} (h1 : subN a b) (h2 : subN b c) : subN a c := fun n hn => by
  obtain ⟨k, hk, e⟩ := h1 n hn
  obtain ⟨j, hj, e2⟩ := h2 k hk
  exact ⟨j, hj, e.trans e2⟩
theorem ones (n : Note) : ∀ k, k < 1 → rowOf 5 n.av k = rowsN [n] k := by
  intro k hk
  have : k = 0 := by omega
  subst this
  rfl
end Go.Proofs.Ytnookbebiacaeaa
end

section
/-
  Receipts: copies, comparing, adding, forwarding.
-/
namespace Go.Proofs.Ytnookbebiacaeaa
open Go.Eng

theorem fresh_rowsN (l : List Note) : ∀ k, k < l.length → AV.freshs (rowsN l k) = true := fun _ _ => rfl
theorem snocN (l : List Note) (n : Note) : ∀ k, k < (l ++ [n]).length → catG l.length (rowsN l) (rowOf 5 n.av) k = rowsN (l ++ [n]) k := by
  intro k hk
  unfold catG rowsN
  by_cases h : k < l.length
  · rw [if_pos h]
    simp [List.getD, List.getElem?_append_left h]
  · rw [if_neg h]
    have : k = l.length := by simp at hk; omega
    subst this
    simp [List.getD]
    rfl
theorem cat_rowsN (l : List Note) : ∀ k, k < l.length → catG 0 (rowOf 5 []) (rowsN l) k = rowsN l k := fun _ _ => rfl

def rowsI (l : List Int) (k : Nat) : List AV := [.i .i64 (l.getD k 0)]
set_option maxRecDepth 20000 in
theorem cloneN_fn (l : List Note) (hl : l.length ≤ 100000) : Ctr Try.prog 101 [.rs 5 l.length (rowsN l)] [.row 24 5 l.length (rowsN l)] (.so 0) := by
  refine fn_of_exec tabOk Try.func101 (by kernel_rfl) rfl (N := Try.f101.ntmps) rfl (res := [.tmp 2]) rfl rfl [(999999, [.nl 2 24 5])] ?_
  refine .inl fun c hc => ⟨fun h => ?_, fun h => ⟨fits (by omega), ?_⟩⟩
  · have h0 : l.length = 0 := hc (by cases c <;> first | rfl | cases h)
    exact RetIs.so rfl h0.symm (fun k hk => by omega) (fun k hk => by omega)
  · exact RetIs.so rfl (Nat.zero_add _) (cat_rowsN l) (fresh_rowsN l)

instance : DecidableEq Note := fun a b =>
  if h : a.m = b.m ∧ a.w = b.w ∧ a.l = b.l ∧ a.s = b.s ∧ a.n = b.n then isTrue (by obtain ⟨a1, a2, a3, a4, a5⟩ := a; obtain ⟨b1, b2, b3, b4, b5⟩ := b; simp at h; obtain ⟨rfl, rfl, rfl, rfl, rfl⟩ := h; rfl) else isFalse (by rintro rfl; exact h ⟨rfl, rfl, rfl, rfl, rfl⟩)
/-- Equality of two lists, looked through from the front. -/
def eqUpto {α : Type} [DecidableEq α] (d : α) (a b : List α) (k : Nat) : Prop := ∀ j, j < k → a.getD j d = b.getD j d
theorem eqUpto_all {α : Type} [DecidableEq α] {d : α} {a b : List α} (hl : a.length = b.length) (h : eqUpto d a b a.length) : a = b := by
  refine List.ext_getElem hl fun j h1 h2 => ?_
  have := h j h1
  simp only [List.getD, List.getElem?_eq_getElem h1, List.getElem?_eq_getElem h2, Option.getD_some] at this
  exact this

theorem note_ne (a b : Note) : eqAVs a.av b.av = decide (a = b) := by
  obtain ⟨a1, a2, a3, a4, a5⟩ := a
  obtain ⟨b1, b2, b3, b4, b5⟩ := b
  simp only [Note.av, eqAVs, eqAV]
  rw [Bool.eq_iff_iff]
  simp [Note.mk.injEq]
end Go.Proofs.Ytnookbebiacaeaa
end

section
/-
  Receipts: the reference's adding and taking back, forwarding, reasons.
-/
namespace Go.Proofs.Ytnookbebiacaeaa
open Go.Eng

theorem RetIs.note {n m : Note} {O : List OE} {nid : Nat} (h : m = n) : RetIs [] (.ag n.av) (.ag m.av) O nid := ⟨[], ⟨⟨⟨rfl, rfl, by subst h; exact AVEq.refl _⟩, trivial⟩, trivial, rfl⟩, rfl, trivial⟩
structure Prof where
  nm : ByteArray
  a1 : Int
  a2 : Int
  a3 : Int
  b4 : Bool
  a5 : Int
  b6 : Bool
  b7 : Bool
  a8 : Int
  a9 : Int
  a10 : Int
  a11 : Int
  tn : Nat
  ty : Nat → List AV
  a13 : Int
  a14 : Int
  a15 : Int
  lv : Int
  b17 : Bool
  a18 : Int
  a19 : Int
  a20 : Int
  a21 : Int
def Prof.av (p : Prof) : List AV := [.s p.nm, .i .i64 p.a1, .i .i64 p.a2, .i .i64 p.a3, .b p.b4, .i .i64 p.a5, .b p.b6, .b p.b7, .i .i64 p.a8, .i .i64 p.a9, .i .i64 p.a10, .i .i64 p.a11, .rs 1 p.tn p.ty, .i .i64 p.a13, .i .i64 p.a14, .i .i64 p.a15, .i .i64 p.lv, .b p.b17, .i .i64 p.a18, .i .i64 p.a19, .i .i64 p.a20, .i .i64 p.a21]
end Go.Proofs.Ytnookbebiacaeaa
end

section
/-
  Receipts: notes sorted by message, then by account: the kit's contract on slices.SortFunc, laid at this program.
-/
namespace Go.Proofs.Ytnookbebiacaeaa
open Go.Eng Go.RowKit Go.Sort Go.Shelf

set_option maxRecDepth 20000 in
theorem isNaN_fn (n : Int) : Ctr Try.prog 159 [.i .i64 n] [] (.b false) := by
  refine fn_of_exec tabOk Try.func159 (by kernel_rfl) rfl (N := Try.f159.ntmps) rfl (res := [.tmp 2]) rfl rfl [] ?_
  refine RetIs.b ?_
  show (n != n) = false
  rw [bne_self_eq_false]
def cmpI (a b : Int) : Int := if a < b then -1 else if b < a then 1 else 0
set_option maxRecDepth 20000 in
theorem compare_fn (a b : Int) : Ctr Try.prog 109 [.i .i64 a, .i .i64 b] [] (.i .i64 (cmpI a b)) := by
  refine fn_of_exec tabOk Try.func109 (by kernel_rfl) rfl (N := Try.f109.ntmps) rfl (res := [.tmp 4]) rfl rfl [] ?_
  repeat refine Or.inl ?_
  refine ⟨[], _, isNaN_fn a, ?_⟩
  repeat refine Or.inl ?_
  refine ⟨[], _, isNaN_fn b, ?_⟩
  repeat refine Or.inl ?_
  refine ⟨fun h => (by cases h), fun _ => ?_⟩
  repeat refine Or.inl ?_
  refine ⟨fun h => (by cases h), fun _ => ?_⟩
  repeat refine Or.inl ?_
  refine ⟨fun h => ?_, fun h => ?_⟩
  · have h : decide (a < b) = true := h
    rw [decide_eq_true_eq] at h
    refine RetIs.i ?_
    unfold cmpI
    rw [if_pos h]
  have h : decide (a < b) = false := h
  rw [decide_eq_false_iff_not] at h
  repeat refine Or.inl ?_
  refine ⟨fun h2 => ?_, fun h2 => ?_⟩
  · have h2 : decide (a > b) = true := h2
    rw [decide_eq_true_eq] at h2
    refine RetIs.i ?_
    unfold cmpI
    rw [if_neg h, if_pos h2]
  · have h2 : decide (a > b) = false := h2
    rw [decide_eq_false_iff_not] at h2
    refine RetIs.i ?_
    unfold cmpI
    rw [if_neg h, if_neg h2]
/-- The first of some numbers that is not zero. -/
def firstNZ : List Int → Int
  | [] => 0
  | x :: r => if x = 0 then firstNZ r else x
theorem firstNZ_at : ∀ {l : List Int} {k : Nat}, k < l.length → (∀ j, j < k → l.getD j 0 = 0) → l.getD k 0 ≠ 0 → firstNZ l = l.getD k 0
  | [], k, h, _, _ => absurd h (Nat.not_lt_zero k)
  | x :: r, 0, _, _, h => by
    have h : x ≠ 0 := h
    unfold firstNZ
    rw [if_neg h]
    rfl
  | x :: r, k + 1, h, h1, h2 => by
    have h0 : x = 0 := h1 0 (Nat.succ_pos k)
    unfold firstNZ
    rw [if_pos h0]
    exact firstNZ_at (l := r) (k := k) (by simpa using h) (fun j hj => h1 (j + 1) (by omega)) h2
theorem firstNZ_no : ∀ {l : List Int}, (∀ j, j < l.length → l.getD j 0 = 0) → firstNZ l = 0
  | [], _ => rfl
  | x :: r, h => by
    have h0 : x = 0 := h 0 (by simp)
    unfold firstNZ
    rw [if_pos h0]
    exact firstNZ_no fun j hj => h (j + 1) (by simpa using hj)
set_option maxRecDepth 20000 in
set_option maxHeartbeats 4000000 in
theorem or_fn (l : List Int) (hl : l.length < 2 ^ 62) : Ctr Try.prog 108 [.rs 1 l.length (rowsI l)] [] (.i .i64 (firstNZ l)) := by
  refine fn_of_exec tabOk Try.func108 (by kernel_rfl) rfl (N := Try.f108.ntmps) rfl (res := [.tmp 2]) rfl rfl [] ?_
  repeat refine Or.inl ?_
  refine ⟨[], Nat, fun k => k ≤ l.length ∧ ∀ j, j < k → l.getD j 0 = 0, fun k => [⟨8, [], .i .i64 k⟩], fun _ => [], fun k => l.length - k,
    ⟨0, [], ⟨Nat.zero_le _, fun j hj => absurd hj (Nat.not_lt_zero j)⟩, rfl, rfl, rfl, rfl, rfl, ⟨rfl, rfl⟩, trivial⟩, ?_⟩
  rintro k ⟨hk, hno⟩
  have hk : k ≤ l.length := hk
  refine .inl ⟨fun hc => ?_, fun hc => ?_⟩
  · have hc := dlt hc
    have hc : (k : Int) < l.length := hc
    have ek : (k : Int).toNat = k := Int.toNat_natCast k
    repeat refine Or.inl ?_
    refine ⟨⟨by omega, by omega⟩, ?_⟩
    repeat refine Or.inl ?_
    refine ⟨fun h => ?_, fun h => ?_⟩
    · have h : (l.getD (k : Int).toNat 0 != 0) = true := h
      rw [ek, bne_iff_ne] at h
      refine RetIs.i ?_
      rw [ek]
      exact (firstNZ_at (by omega) hno h).symm
    · have h : (l.getD (k : Int).toNat 0 != 0) = false := h
      rw [ek, bne_eq_false_iff_eq] at h
      refine ⟨k + 1, [], ⟨by omega, fun j hj => ?_⟩, by dsimp only; omega, rfl, rfl, rfl, rfl, rfl, ⟨rfl, wr (by omega) (by omega)⟩, trivial⟩
      by_cases hjk : j = k
      · rw [hjk]; exact h
      · exact hno j (by omega)
  · have hc := dnlt hc
    have hc : (l.length : Int) ≤ k := hc
    obtain rfl : k = l.length := by omega
    exact RetIs.i (firstNZ_no hno).symm
theorem two {p : Nat → Prop} (h0 : p 0) (h1 : p 1) : ∀ k, k < 2 → p k := by
  intro k hk
  match k with
  | 0 => exact h0
  | 1 => exact h1
  | k + 2 => omega
theorem or2_fn (x y : Int) : Ctr Try.prog 108 [.rs 1 2 (rowOf 1 [.i .i64 x, .i .i64 y])] [] (.i .i64 (firstNZ [x, y])) :=
  Ctr.of_eq (args := [.rs 1 [x, y].length (rowsI [x, y])]) ⟨rfl, rfl, two rfl rfl⟩ (or_fn [x, y] (show 2 < 2 ^ 62 by decide))

instance : Inhabited Note := ⟨dN⟩
def ltP (a b c d : Int) : Bool := decide (a < c ∨ (a = c ∧ b < d))
theorem cmp2_lt (a b c d : Int) : decide (firstNZ [cmpI a c, cmpI b d] < 0) = ltP a b c d := by
  unfold ltP firstNZ
  have h1 : cmpI a c = 0 ↔ a = c := by unfold cmpI; split <;> (try split) <;> omega
  have h2 : cmpI a c < 0 ↔ a < c := by unfold cmpI; split <;> (try split) <;> omega
  have h3 : cmpI b d = 0 ↔ b = d := by unfold cmpI; split <;> (try split) <;> omega
  have h4 : cmpI b d < 0 ↔ b < d := by unfold cmpI; split <;> (try split) <;> omega
  rw [decide_eq_decide]
  unfold firstNZ firstNZ
  by_cases e1 : cmpI a c = 0
  · rw [if_pos e1]
    by_cases e2 : cmpI b d = 0
    · rw [if_pos e2]
      have := h1.1 e1
      have := h3.1 e2
      omega
    · rw [if_neg e2, h4]
      have := h1.1 e1
      omega
  · rw [if_neg e1, h2]
    have : a ≠ c := fun h => e1 (h1.2 h)
    omega
theorem swo_ltP {α : Type} (f g : α → Int) {lt : α → α → Bool} (h : ∀ x y, lt x y = ltP (f x) (g x) (f y) (g y)) : SWO lt where
  irrefl x := by rw [h]; unfold ltP; simp
  trans x y z h1 h2 := by rw [h] at *; unfold ltP at *; simp at *; omega
  ntrans x y z h1 h2 := by rw [h] at *; unfold ltP at *; simp at *; omega
def ltN (x y : Note) : Bool := ltP x.m x.w y.m y.w
end Go.Proofs.Ytnookbebiacaeaa
end

section
/-
  Receipts: what is weaker; plain Lean, no program in sight.
-/
namespace Go.Proofs.Ytnookbebiacaeaa
open Go.Eng

def wk (old : List Note) (b : Bool) (n : Note) : Note := ⟨n.m, n.w, Low old b n.m n.w, 0, false⟩
def isWk (old now : List Note) (b : Bool) (n : Note) : Bool := !n.n && decide (Low old b n.m n.w > Low now b n.m n.w)
/-- What was known by old notes and is not known by new ones: ascending, each once. -/
structure IsWeak (old now : List Note) (b : Bool) (L : List Note) : Prop where
  asc : L.Pairwise fun x y => ltN x y = true
  mem : ∀ x, x ∈ L ↔ ∃ n ∈ old, isWk old now b n = true ∧ x = wk old b n
structure WeakK (old now : List Note) (b : Bool) (k : Nat) (L : List Note) : Prop where
  asc : L.Pairwise fun x y => ltN x y = true
  mem : ∀ x, x ∈ L ↔ ∃ j, j < k ∧ isWk old now b (old.getD j dN) = true ∧ x = wk old b (old.getD j dN)
  len : L.length ≤ k
theorem WeakK.all {old now : List Note} {b : Bool} {L : List Note} (h : WeakK old now b old.length L) : IsWeak old now b L := by
  refine ⟨h.asc, fun x => (h.mem x).trans ?_⟩
  constructor
  · rintro ⟨j, hj, h1, h2⟩
    exact ⟨old.getD j dN, by simp [List.getD, hj], h1, h2⟩
  · rintro ⟨n, hn, h1, h2⟩
    obtain ⟨j, hj, rfl⟩ := List.getElem_of_mem hn
    exact ⟨j, hj, by simpa [List.getD, hj] using h1, by simpa [List.getD, hj] using h2⟩
structure WkK (old now : List Note) (b : Bool) (k : Nat) (st : List ((Int × Int) × Bool) × List Note) : Prop where
  seen : ∀ p, (mget st.1 p).getD false = true ↔ ∃ j, j < k ∧ (old.getD j dN).n = false ∧ ((old.getD j dN).m, (old.getD j dN).w) = p
  mem : ∀ x, x ∈ st.2 ↔ ∃ j, j < k ∧ isWk old now b (old.getD j dN) = true ∧ x = wk old b (old.getD j dN)
  dist : st.2.Pairwise fun x y => ¬ (x.m = y.m ∧ x.w = y.w)
  len : st.2.length ≤ k
  mlen : st.1.length ≤ k
end Go.Proofs.Ytnookbebiacaeaa
end

section
/-
  Receipts: taking back, and what is weaker, walked.
-/
namespace Go.Proofs.Ytnookbebiacaeaa
open Go.Eng

theorem snocN_row (o : List Note) (n : Note) {l : List Note} (hl : l = o ++ [n]) : AOEq (.row 24 5 l.length (rowsN l)) (.row 24 5 (o.length + 1) (catG o.length (rowsN o) (rowOf 5 n.av))) := by
  subst hl
  exact ⟨rfl, rfl, by simp, snocN o n⟩
end Go.Proofs.Ytnookbebiacaeaa
end

section
/-
  Receipts: what is weaker, as the reference finds it.
-/
namespace Go.Proofs.Ytnookbebiacaeaa
open Go.Eng

end Go.Proofs.Ytnookbebiacaeaa
end

section
/-
  Formulas: how they lie, to a depth.
-/
namespace Go.Proofs.Ytnookbebiacaeaa
open Go.Eng

/-- A formula. -/
inductive Fm where
  | mk (op m w l : Int) (args : List Fm)
def Fm.op : Fm → Int | .mk o _ _ _ _ => o
def Fm.m : Fm → Int | .mk _ m _ _ _ => m
def Fm.w : Fm → Int | .mk _ _ w _ _ => w
def Fm.l : Fm → Int | .mk _ _ _ l _ => l
def Fm.args : Fm → List Fm | .mk _ _ _ _ a => a
def dF : Fm := .mk 0 0 0 0 []
/-- The cells of what stands in a formula's list, as far down as so many levels. -/
def kidsD : Nat → Fm → Nat → List AV
  | 0, _, _ => [.u, .u, .u, .u, .u]
  | d + 1, f, k => [.i .i64 (f.args.getD k dF).op, .i .i64 (f.args.getD k dF).m, .i .i64 (f.args.getD k dF).w, .i .i64 (f.args.getD k dF).l, .rs 5 (f.args.getD k dF).args.length (kidsD d (f.args.getD k dF))]
def avD (d : Nat) (f : Fm) : List AV := [.i .i64 f.op, .i .i64 f.m, .i .i64 f.w, .i .i64 f.l, .rs 5 f.args.length (kidsD d f)]
/-! ### how many nodes, how many levels -/
mutual
def countF : Nat → Fm → Int × Int
  | 0, _ => (41, 7)
  | d + 1, f => (min (if f.args.length > 40 then 41 else (countTo d f.args f.args.length).1) 41, min ((countTo d f.args f.args.length).2 + 1) 7)
def countTo : Nat → List Fm → Nat → Int × Int
  | _, _, 0 => (1, 0)
  | d, l, k + 1 => if (countTo d l k).1 ≤ 40 then ((countTo d l k).1 + (countF d (l.getD k dF)).1, max (countTo d l k).2 (countF d (l.getD k dF)).2) else countTo d l k
end
end Go.Proofs.Ytnookbebiacaeaa
end

section
/-
  Formulas: counted, and looked at node by node.
-/
namespace Go.Proofs.Ytnookbebiacaeaa
open Go.Eng

theorem RetIs.ii {q q' : IntKind} {x y x' y' : Int} {O : List OE} {nid : Nat} (h : y = x) (h' : y' = x') : RetIs [] (.tup [.i q x, .i q' x']) (.tup [.i q y, .i q' y']) O nid := by
  subst h
  subst h'
  exact ⟨[], ⟨⟨⟨rfl, rfl, AVEq.refl _⟩, trivial⟩, trivial, rfl⟩, rfl, trivial⟩
theorem countF_rg : ∀ (d : Nat) (f : Fm), 0 ≤ (countF d f).1 ∧ (countF d f).1 ≤ 41 ∧ 0 ≤ (countF d f).2 ∧ (countF d f).2 ≤ 7
  | 0, f => by unfold countF; decide
  | d + 1, f => by
    have : ∀ k, 1 ≤ (countTo d f.args k).1 ∧ 0 ≤ (countTo d f.args k).2 := by
      intro k
      induction k with
      | zero => unfold countTo; decide
      | succ k ih =>
        have := countF_rg d (f.args.getD k dF)
        unfold countTo
        split
        · dsimp only; omega
        · exact ih
    have := this f.args.length
    unfold countF
    dsimp only
    split <;> omega
theorem countTo_rg (d : Nat) (l : List Fm) : ∀ k, 1 ≤ (countTo d l k).1 ∧ (countTo d l k).1 ≤ 82 ∧ 0 ≤ (countTo d l k).2 ∧ (countTo d l k).2 ≤ 7 := by
  intro k
  induction k with
  | zero => unfold countTo; decide
  | succ k ih =>
    have := countF_rg d (l.getD k dF)
    unfold countTo
    split
    · dsimp only; omega
    · exact ih
theorem countTo_yes {d : Nat} {l : List Fm} {k : Nat} (h : (countTo d l k).1 ≤ 40) : countTo d l (k + 1) = ((countTo d l k).1 + (countF d (l.getD k dF)).1, max (countTo d l k).2 (countF d (l.getD k dF)).2) := by
  rw [countTo, if_pos h]
theorem countTo_no {d : Nat} {l : List Fm} {k : Nat} (h : ¬ (countTo d l k).1 ≤ 40) : ∀ j, countTo d l (k + j) = countTo d l k
  | 0 => rfl
  | j + 1 => by
    rw [show k + (j + 1) = (k + j) + 1 by omega, countTo, countTo_no h j, if_neg h]
theorem countF_pos (d : Nat) (f : Fm) : 1 ≤ (countF d f).1 := by
  cases d with
  | zero => unfold countF; decide
  | succ d =>
    have := countTo_rg d f.args f.args.length
    unfold countF
    dsimp only
    split <;> omega
theorem countTo_few {d : Nat} {l : List Fm} : ∀ {k : Nat}, (countTo d l k).1 ≤ 40 → (k : Int) + 1 ≤ (countTo d l k).1
  | 0, _ => by rw [countTo]; decide
  | k + 1, h => by
    by_cases h1 : (countTo d l k).1 ≤ 40
    · have ih := countTo_few h1
      have := countF_pos d (l.getD k dF)
      rw [countTo_yes h1]
      dsimp only
      omega
    · rw [countTo, if_neg h1] at h
      exact absurd h h1
set_option maxRecDepth 20000 in
set_option maxHeartbeats 4000000 in
theorem Count_fn : ∀ (d : Nat) (f : Fm), d ≤ 100 → Ctr Try.prog 118 [.ag (avD d f), .i .i64 (d : Int)] [] (.tup [.i .i64 (countF d f).1, .i .i64 (countF d f).2])
  | 0, f, _ => by
    refine fn_of_exec tabOk Try.func118 (by kernel_rfl) rfl (N := Try.f118.ntmps) rfl (res := [.tmp 4, .tmp 5]) rfl rfl [] ?_
    repeat refine Or.inl ?_
    refine ⟨fun _ => RetIs.ii (by rw [countF]) (by rw [countF]), fun h => (by cases h)⟩
  | d + 1, f, hd => by
    refine fn_of_exec tabOk Try.func118 (by kernel_rfl) rfl (N := Try.f118.ntmps) rfl (res := [.tmp 4, .tmp 5]) rfl rfl [] ?_
    repeat refine Or.inl ?_
    refine ⟨fun h => ?_, fun _ => ?_⟩
    · have h : (((d + 1 : Nat) : Int) == 0) = true := h
      rw [beq_iff_eq] at h
      omega
    repeat refine Or.inl ?_
    refine ⟨[], Nat, fun k => k ≤ f.args.length, fun k => [⟨8, [], .i .i64 k⟩, ⟨6, [], .i .i64 (countTo d f.args k).1⟩, ⟨7, [], .i .i64 (countTo d f.args k).2⟩], fun _ => [], fun k => f.args.length - k,
      ⟨0, [], Nat.zero_le _, rfl, rfl, rfl, rfl, rfl, ⟨⟨rfl, rfl⟩, ⟨rfl, by rw [countTo]⟩, ⟨rfl, by rw [countTo]⟩⟩, trivial⟩, ?_⟩
    intro k hk
    have hk : k ≤ f.args.length := hk
    have rg := countTo_rg d f.args k
    refine .inl ⟨fun hc => ?_, fun hc => ?_⟩
    · have hc : (decide ((k : Int) < f.args.length) && decide ((countTo d f.args k).1 ≤ 40)) = true := hc
      rw [Bool.and_eq_true, decide_eq_true_eq, decide_eq_true_eq] at hc
      obtain ⟨hc, h40⟩ := hc
      have ek : (k : Int).toNat = k := Int.toNat_natCast k
      have e1 : IntKind.i64.wrap (((d + 1 : Nat) : Int) - 1) = (d : Int) := by rw [wr (by omega) (by omega)]; omega
      have rg2 := countF_rg d (f.args.getD k dF)
      have hr := Count_fn d (f.args.getD (k : Int).toNat dF) (by omega)
      rw [← e1] at hr
      have hst := countTo_yes h40
      have hfew := countTo_few h40
      repeat refine Or.inl ?_
      refine ⟨⟨by omega, by omega⟩, ?_⟩
      repeat refine Or.inl ?_
      refine ⟨[], _, hr, ?_⟩
      refine ⟨k + 1, [], by dsimp only; omega, by dsimp only; omega, rfl, rfl, rfl, rfl, rfl, ⟨⟨rfl, wr (by omega) (by omega)⟩, ⟨rfl, ?_⟩, ⟨rfl, ?_⟩⟩, trivial⟩
      · rw [hst, ek]
        exact wr (by omega) (by omega)
      · rw [hst, ek]
    · have hc : (decide ((k : Int) < f.args.length) && decide ((countTo d f.args k).1 ≤ 40)) = false := hc
      rw [Bool.and_eq_false_iff, decide_eq_false_iff_not, decide_eq_false_iff_not] at hc
      have hend : countTo d f.args k = countTo d f.args f.args.length := by
        by_cases h : (countTo d f.args k).1 ≤ 40
        · have : k = f.args.length := by omega
          rw [this]
        · have := countTo_no h (f.args.length - k)
          rw [show k + (f.args.length - k) = f.args.length by omega] at this
          exact this.symm
      have w7 : IntKind.i64.wrap ((countTo d f.args k).2 + 1) = (countTo d f.args k).2 + 1 := wr (by omega) (by omega)
      repeat refine Or.inl ?_
      refine ⟨fun h => ?_, fun h => ?_⟩
      · have h : decide ((f.args.length : Int) > 40) = true := h
        rw [decide_eq_true_eq] at h
        refine RetIs.ii ?_ ?_
        · rw [countF]
          dsimp only
          rw [if_pos (by omega)]
        · rw [countF, w7, hend]
      · have h : decide ((f.args.length : Int) > 40) = false := h
        rw [decide_eq_false_iff_not] at h
        refine RetIs.ii ?_ ?_
        · rw [countF, hend]
          dsimp only
          rw [if_neg (by omega)]
        · rw [countF, w7, hend]
def fewF (f : Fm) : Bool := decide ((countF 7 f).1 ≤ 40)
set_option maxRecDepth 20000 in
theorem Few_fn (f : Fm) : Ctr Try.prog 42 [.ag (avD 7 f)] [] (.b (fewF f)) := by
  refine fn_of_exec tabOk Try.func42 (by kernel_rfl) rfl (N := Try.f42.ntmps) rfl (res := [.tmp 2]) rfl rfl [] ?_
  repeat refine Or.inl ?_
  refine ⟨[], _, Count_fn 7 f (by decide), ?_⟩
  exact RetIs.b rfl
def noneF (f : Fm) : Bool := (f.m == 0 && (f.w == 0)) && (f.l == 0)
/-- A node is right, but for what is in its list. -/
def nodeF (f : Fm) : Bool :=
  if f.op = 0 then (((((decide (0 ≤ f.m) && decide (f.m < 100000)) && decide (0 ≤ f.w)) && decide (f.w < 2000)) && decide (0 ≤ f.l)) && decide (f.l < 5)) && ((f.args.length : Int) == 0)
  else if f.op = 1 ∨ f.op = 2 then noneF f else if f.op = 3 then noneF f && ((f.args.length : Int) == 1) else false
set_option maxRecDepth 20000 in
set_option maxHeartbeats 4000000 in
theorem node_fn (d : Nat) (f : Fm) : Ctr Try.prog 200 [.ag (avD d f)] [] (.b (nodeF f)) := by
  refine fn_of_exec tabOk Try.func200 (by kernel_rfl) rfl (N := Try.f200.ntmps) rfl (res := [.tmp 2]) rfl rfl [] ?_
  repeat refine Or.inl ?_
  refine ⟨fun h => ?_, fun h => ?_⟩
  · have h : (f.op == 0) = true := h
    rw [beq_iff_eq] at h
    refine RetIs.b ?_
    unfold nodeF
    rw [if_pos h]
  have h : (f.op == 0) = false := h
  rw [beq_eq_false_iff_ne] at h
  repeat refine Or.inl ?_
  refine ⟨fun h1 => ?_, fun h1 => ?_⟩
  · have h1 : (f.op == 1) = true := h1
    rw [beq_iff_eq] at h1
    repeat refine Or.inl ?_
    refine ⟨fun _ => ?_, fun h2 => ?_⟩
    · refine RetIs.b ?_
      unfold nodeF
      rw [if_neg h, if_pos (.inl h1)]
      rfl
    · have h2 : (f.op == 1) = false := h2
      rw [beq_eq_false_iff_ne] at h2
      exact absurd h1 h2
  have h1 : (f.op == 1) = false := h1
  rw [beq_eq_false_iff_ne] at h1
  repeat refine Or.inl ?_
  refine ⟨fun h2 => ?_, fun h2 => ?_⟩
  · have h2 : (f.op == 2) = true := h2
    rw [beq_iff_eq] at h2
    refine RetIs.b ?_
    unfold nodeF
    rw [if_neg h, if_pos (.inr h2)]
    rfl
  have h2 : (f.op == 2) = false := h2
  rw [beq_eq_false_iff_ne] at h2
  repeat refine Or.inl ?_
  refine ⟨fun h3 => ?_, fun h3 => ?_⟩
  · have h3 : (f.op == 3) = true := h3
    rw [beq_iff_eq] at h3
    refine RetIs.b ?_
    unfold nodeF
    rw [if_neg h, if_neg (by omega), if_pos h3]
    rfl
  refine RetIs.b ?_
  unfold nodeF
  rw [if_neg h, if_neg (by omega), if_neg (by
    have h3 : (f.op == 3) = false := h3
    rwa [beq_eq_false_iff_ne] at h3)]
end Go.Proofs.Ytnookbebiacaeaa
end

section
/-
  Formulas: the pairs of a formula, gathered.
-/
namespace Go.Proofs.Ytnookbebiacaeaa
open Go.Eng

abbrev Pr := Int × Int
def dPr : Pr := (0, 0)
def prA (p : Pr) : List AV := [.i .i64 p.1, .i .i64 p.2]
def rowsPr (L : List Pr) (k : Nat) : List AV := [.i .i64 (L.getD k dPr).1, .i .i64 (L.getD k dPr).2]
/-- The first place where p holds, or -1. -/
def idxG {α : Type} (p : α → Bool) (l : List α) : Int := match l.findIdx? p with | some k => k | none => -1
theorem idxG_some {α : Type} (d : α) (p : α → Bool) (l : List α) (k : Nat) (hk : k < l.length) (h1 : ∀ j, j < k → p (l.getD j d) = false) (h2 : p (l.getD k d) = true) : idxG p l = k := by
  have gd : ∀ {k : Nat} (h : k < l.length), l.getD k d = l[k] := fun h => by simp [List.getD_eq_getElem?_getD, h]
  have : l.findIdx? p = some k := by
    rw [List.findIdx?_eq_some_iff_getElem]
    refine ⟨hk, ?_, fun j hj => ?_⟩
    · rw [gd hk] at h2; exact h2
    · have := h1 j hj
      rw [gd (by omega)] at this
      simp [this]
  simp [idxG, this]
theorem idxG_none {α : Type} (d : α) (p : α → Bool) (l : List α) (h1 : ∀ j, j < l.length → p (l.getD j d) = false) : idxG p l = -1 := by
  have : l.findIdx? p = none := by
    rw [List.findIdx?_eq_none_iff]
    intro x hx
    obtain ⟨j, hj, rfl⟩ := List.getElem_of_mem hx
    have := h1 j hj
    simpa [List.getD_eq_getElem?_getD, hj] using this
  simp [idxG, this]
theorem idxG_any {α : Type} (p : α → Bool) (l : List α) : decide (idxG p l ≥ 0) = l.any p := by
  unfold idxG
  cases h : l.findIdx? p with
  | none =>
    rw [List.findIdx?_eq_none_iff] at h
    have : l.any p = false := by simpa using h
    rw [this]; rfl
  | some k =>
    rw [List.findIdx?_eq_some_iff_getElem] at h
    obtain ⟨hk, hp, _⟩ := h
    have : l.any p = true := by rw [List.any_eq_true]; exact ⟨_, List.getElem_mem hk, hp⟩
    rw [this]
    simp
theorem eq_pr (p q : Pr) : eqAVs (prA p) (prA q) = decide (p = q) := by
  obtain ⟨a, b⟩ := p
  obtain ⟨c, d⟩ := q
  simp only [prA, eqAVs, eqAV]
  rw [Bool.eq_iff_iff]
  simp [Prod.mk.injEq]
def hasPr (L : List Pr) (p : Pr) : Bool := L.any fun x => decide (p = x)
theorem hasPr_iff {L : List Pr} {p : Pr} : hasPr L p = true ↔ p ∈ L := by
  unfold hasPr
  rw [List.any_eq_true]
  constructor
  · rintro ⟨x, hx, h⟩
    rw [of_decide_eq_true h]
    exact hx
  · exact fun h => ⟨p, h, decide_eq_true rfl⟩
set_option maxRecDepth 20000 in
set_option maxHeartbeats 4000000 in
theorem indexPr_fn (L : List Pr) (hL : L.length < 2 ^ 62) (p : Pr) : Ctr Try.prog 223 [.rs 2 L.length (rowsPr L), .ag (prA p)] [] (.i .i64 (idxG (fun x => decide (p = x)) L)) := by
  refine fn_of_exec tabOk Try.func223 (by kernel_rfl) rfl (N := Try.f223.ntmps) rfl (res := [.tmp 4]) rfl rfl [] ?_
  repeat refine Or.inl ?_
  refine ⟨[], Nat, fun k => k ≤ L.length ∧ ∀ j, j < k → decide (p = L.getD j dPr) = false, fun k => [⟨8, [], .i .i64 k⟩], fun _ => [], fun k => L.length - k,
    ⟨0, [], ⟨Nat.zero_le _, fun j hj => absurd hj (Nat.not_lt_zero j)⟩, rfl, rfl, rfl, rfl, rfl, ⟨rfl, rfl⟩, trivial⟩, ?_⟩
  rintro k ⟨hk, hno⟩
  have hk : k ≤ L.length := hk
  refine .inl ⟨fun hc => ?_, fun hc => ?_⟩
  · have hc := dlt hc
    have hc : (k : Int) < L.length := hc
    have ek : (k : Int).toNat = k := Int.toNat_natCast k
    repeat refine Or.inl ?_
    refine ⟨⟨by omega, by omega⟩, ?_⟩
    repeat refine Or.inl ?_
    refine ⟨fun h => ?_, fun h => ?_⟩
    · have h : eqAVs (prA p) (prA (L.getD (k : Int).toNat dPr)) = true := h
      rw [ek, eq_pr] at h
      exact RetIs.i (idxG_some dPr _ L k (by omega) hno h).symm
    · have h : eqAVs (prA p) (prA (L.getD (k : Int).toNat dPr)) = false := h
      rw [ek, eq_pr] at h
      refine ⟨k + 1, [], ⟨by omega, fun j hj => ?_⟩, by dsimp only; omega, rfl, rfl, rfl, rfl, rfl, ⟨rfl, wr (by omega) (by omega)⟩, trivial⟩
      by_cases hjk : j = k
      · rw [hjk]; exact h
      · exact hno j (by omega)
  · have hc := dnlt hc
    have hc : (L.length : Int) ≤ k := hc
    obtain rfl : k = L.length := by omega
    exact RetIs.i (idxG_none dPr _ L hno).symm
set_option maxRecDepth 20000 in
theorem containsPr_fn (L : List Pr) (hL : L.length < 2 ^ 62) (p : Pr) : Ctr Try.prog 201 [.rs 2 L.length (rowsPr L), .ag (prA p)] [] (.b (hasPr L p)) := by
  refine fn_of_exec tabOk Try.func201 (by kernel_rfl) rfl (N := Try.f201.ntmps) rfl (res := [.tmp 4]) rfl rfl [] ?_
  repeat refine Or.inl ?_
  refine ⟨[], _, indexPr_fn L hL p, ?_⟩
  exact RetIs.b (idxG_any _ L)

/-! ### the size of a formula -/
/-- What is gathered so far: how many nodes, and the pairs as they came. -/
abbrev Sz := Int × List Pr
def putF (f : Fm) (L : List Pr) : List Pr := if f.op = 0 ∧ (f.m, f.w) ∉ L then L ++ [(f.m, f.w)] else L
mutual
def addF : Nat → Fm → Sz → Sz × Bool
  | 0, _, s => ((s.1 + 1, s.2), false)
  | d + 1, f, s => if (decide (s.1 + 1 > 40) || !nodeF f) = true then ((s.1 + 1, s.2), false)
    else ((addTo d f.args (s.1 + 1, putF f s.2) f.args.length).1, (addTo d f.args (s.1 + 1, putF f s.2) f.args.length).2 && decide (((addTo d f.args (s.1 + 1, putF f s.2) f.args.length).1.2.length : Int) ≤ 6))
def addTo : Nat → List Fm → Sz → Nat → Sz × Bool
  | _, _, s, 0 => (s, true)
  | d, l, s, k + 1 => if (addTo d l s k).2 = true then addF d (l.getD k dF) (addTo d l s k).1 else addTo d l s k
end
theorem putF_len (f : Fm) (L : List Pr) : L.length ≤ (putF f L).length ∧ (putF f L).length ≤ L.length + 1 := by
  unfold putF
  split
  · rw [List.length_append, List.length_singleton]; omega
  · omega
/-- Each node is counted; each node brings a pair at most. -/
theorem addF_sz : ∀ (d : Nat) (f : Fm) (s : Sz), s.1 ≤ 40 → s.1 + 1 ≤ (addF d f s).1.1 ∧ (addF d f s).1.1 ≤ 41 ∧ s.2.length ≤ (addF d f s).1.2.length ∧ ((addF d f s).1.2.length : Int) - s.2.length ≤ (addF d f s).1.1 - s.1 ∧ ((addF d f s).2 = true → (addF d f s).1.1 ≤ 40)
  | 0, f, s, hs => by
    rw [addF]
    refine ⟨by dsimp only; omega, by dsimp only; omega, by dsimp only; omega, by dsimp only; omega, fun h => (by cases h)⟩
  | d + 1, f, s, hs => by
    rw [addF]
    split
    · refine ⟨by dsimp only; omega, by dsimp only; omega, by dsimp only; omega, by dsimp only; omega, fun h => (by cases h)⟩
    · rename_i h
      rw [Bool.or_eq_true, decide_eq_true_eq, not_or] at h
      have h40 : s.1 + 1 ≤ 40 := by omega
      have hput := putF_len f s.2
      have key : ∀ k, (s.1 + 1 ≤ (addTo d f.args (s.1 + 1, putF f s.2) k).1.1 ∧ (addTo d f.args (s.1 + 1, putF f s.2) k).1.1 ≤ 41 ∧ (putF f s.2).length ≤ (addTo d f.args (s.1 + 1, putF f s.2) k).1.2.length ∧ ((addTo d f.args (s.1 + 1, putF f s.2) k).1.2.length : Int) - (putF f s.2).length ≤ (addTo d f.args (s.1 + 1, putF f s.2) k).1.1 - (s.1 + 1)) ∧ ((addTo d f.args (s.1 + 1, putF f s.2) k).2 = true → (addTo d f.args (s.1 + 1, putF f s.2) k).1.1 ≤ 40) := by
        intro k
        induction k with
        | zero =>
          rw [addTo]
          exact ⟨⟨by dsimp only; omega, by dsimp only; omega, by dsimp only; omega, by dsimp only; omega⟩, fun _ => h40⟩
        | succ k ih =>
          rw [addTo]
          split
          · rename_i h2
            have hi := addF_sz d (f.args.getD k dF) (addTo d f.args (s.1 + 1, putF f s.2) k).1 (ih.2 h2)
            exact ⟨⟨by omega, by omega, by omega, by omega⟩, hi.2.2.2.2⟩
          · exact ih
      have := key f.args.length
      refine ⟨by dsimp only; omega, by dsimp only; omega, by dsimp only; omega, by dsimp only; omega, fun h => ?_⟩
      dsimp only at h
      rw [Bool.and_eq_true] at h
      exact this.2 h.1
theorem addTo_ok {d : Nat} {l : List Fm} {s : Sz} : ∀ {k : Nat}, (addTo d l s (k + 1)).2 = true → (addTo d l s k).2 = true := by
  intro k h
  rw [addTo] at h
  split at h
  · assumption
  · assumption
theorem addTo_yes {d : Nat} {l : List Fm} {s : Sz} {k : Nat} (h : (addTo d l s k).2 = true) : addTo d l s (k + 1) = addF d (l.getD k dF) (addTo d l s k).1 := by rw [addTo, if_pos h]
theorem addTo_stop {d : Nat} {l : List Fm} {s : Sz} {k : Nat} (h : (addTo d l s k).2 = false) : ∀ j, addTo d l s (k + j) = addTo d l s k
  | 0 => rfl
  | j + 1 => by
    rw [show k + (j + 1) = (k + j) + 1 by omega, addTo, addTo_stop h j, if_neg (by rw [h]; decide)]
theorem addTo_sz {d : Nat} {l : List Fm} {s : Sz} (hs : s.1 ≤ 40) : ∀ {k : Nat}, (addTo d l s k).2 = true → s.1 + k ≤ (addTo d l s k).1.1 ∧ (addTo d l s k).1.1 ≤ 40 ∧ s.2.length ≤ (addTo d l s k).1.2.length ∧ ((addTo d l s k).1.2.length : Int) - s.2.length ≤ (addTo d l s k).1.1 - s.1
  | 0, _ => by rw [addTo]; exact ⟨by dsimp only; omega, hs, Nat.le_refl _, by dsimp only; omega⟩
  | k + 1, h => by
    have h1 := addTo_ok h
    have ih := addTo_sz hs h1
    rw [addTo_yes h1] at h ⊢
    have hi := addF_sz d (l.getD k dF) (addTo d l s k).1 ih.2.1
    have := hi.2.2.2.2 h
    omega
end Go.Proofs.Ytnookbebiacaeaa
end

section
/-
  Formulas: the pairs of a formula, gathered: the walk.
-/
namespace Go.Proofs.Ytnookbebiacaeaa
open Go.Eng

theorem snocPr (o : List Pr) (p : Pr) : ∀ k, k < (o ++ [p]).length → catG o.length (rowsPr o) (rowOf 2 (prA p)) k = rowsPr (o ++ [p]) k := by
  intro k hk
  unfold catG rowsPr
  by_cases h : k < o.length
  · rw [if_pos h]
    simp [List.getD, List.getElem?_append_left h]
  · rw [if_neg h]
    have : k = o.length := by simp at hk; omega
    subst this
    simp [List.getD]
    rfl
theorem snocPr_row (o : List Pr) (p : Pr) {l : List Pr} (hl : l = o ++ [p]) : AOEq (.row 196 2 l.length (rowsPr l)) (.row 196 2 (o.length + 1) (catG o.length (rowsPr o) (rowOf 2 (prA p)))) := by
  subst hl
  exact ⟨rfl, rfl, by simp, snocPr o p⟩
theorem addF_no {d : Nat} {f : Fm} {s : Sz} (h : (decide (s.1 + 1 > 40) || !nodeF f) = true) : addF (d + 1) f s = ((s.1 + 1, s.2), false) := by rw [addF, if_pos h]
theorem addF_yes {d : Nat} {f : Fm} {s : Sz} (h : (decide (s.1 + 1 > 40) || !nodeF f) = false) : addF (d + 1) f s = ((addTo d f.args (s.1 + 1, putF f s.2) f.args.length).1, (addTo d f.args (s.1 + 1, putF f s.2) f.args.length).2 && decide (((addTo d f.args (s.1 + 1, putF f s.2) f.args.length).1.2.length : Int) ≤ 6)) := by
  rw [addF, if_neg (by rw [h]; decide)]
theorem addTo_zero (d : Nat) (l : List Fm) (s : Sz) : addTo d l s 0 = (s, true) := by rw [addTo]
theorem putF_yes {f : Fm} {L : List Pr} (h : (f.op == 0 && !hasPr L (f.m, f.w)) = true) : putF f L = L ++ [(f.m, f.w)] := by
  rw [Bool.and_eq_true, beq_iff_eq, Bool.not_eq_true'] at h
  exact if_pos ⟨h.1, fun hm => by rw [hasPr_iff.2 hm] at h; cases h.2⟩
theorem putF_no {f : Fm} {L : List Pr} (h : (f.op == 0 && !hasPr L (f.m, f.w)) = false) : putF f L = L := by
  refine if_neg fun ⟨h1, h2⟩ => ?_
  have : hasPr L (f.m, f.w) = false := by
    cases hh : hasPr L (f.m, f.w)
    · rfl
    · exact absurd (hasPr_iff.1 hh) h2
  rw [this, h1] at h
  cases h
set_option maxRecDepth 20000 in
set_option maxHeartbeats 16000000 in
theorem add_fn : ∀ (d e : Nat) (f : Fm) (s : Sz), d ≤ 100 → 0 ≤ s.1 → s.1 ≤ 40 → (s.2.length : Int) ≤ s.1 →
    CtrM Try.prog 165 false [.cells 199 [.i .i64 s.1, .so 1], .row 196 2 s.2.length (rowsPr s.2)] [.p 0 0, .ag (avD (e + d) f), .i .i64 (d : Int)] (fun _ : Unit => True) (fun _ => [.cells 199 [.i .i64 (addF d f s).1.1, .so 2], .dead]) (fun _ => [.row 196 2 (addF d f s).1.2.length (rowsPr (addF d f s).1.2)]) (fun _ => .b (addF d f s).2)
  | 0, e, f, s, _, h0, h40, hl => by
    have w1 : IntKind.i64.wrap (s.1 + 1) = s.1 + 1 := wr (by omega) (by omega)
    refine fn_of_execM tabOk Try.func165 (by kernel_rfl) rfl (N := Try.f165.ntmps) rfl (res := [.tmp 6]) rfl false false [.cells 199 [.i .i64 s.1, .so 1], .row 196 2 s.2.length (rowsPr s.2)] _ _ _ _ rfl (fun h => by cases h) [(999999, [.mvc 0 1])] ?_
    repeat refine Or.inl ?_
    refine ⟨[], _, fun _ => node_fn (e + 0) f, ?_⟩
    repeat refine Or.inl ?_
    refine ⟨fun _ => ?_, fun h => ?_⟩
    · refine ⟨⟨(), [(2, 3)], trivial, ⟨⟨⟨rfl, rfl, ?_⟩, trivial⟩, ⟨⟨rfl, rfl, rfl, ⟨rfl, ?_⟩⟩, ⟨rfl, rfl, trivial, trivial⟩, ⟨rfl, rfl, trivial, ⟨rfl, rfl, ?_, fun q hq => ?_⟩⟩, trivial⟩, rfl⟩, rfl, fun _ => ⟨rfl, rfl, trivial, fun _ _ => rfl⟩⟩⟩
      · rw [addF]; exact AVEq.refl _
      · exact ⟨by rw [addF, w1]; exact AVEq.refl _, rfl⟩
      · rw [addF]
      · rw [addF]
    · exact absurd h (by simp)
  | d + 1, e, f, s, hd, h0, h40, hl => by
    have w1 : IntKind.i64.wrap (s.1 + 1) = s.1 + 1 := wr (by omega) (by omega)
    have hput := putF_len f s.2
    refine fn_of_execM tabOk Try.func165 (by kernel_rfl) rfl (N := Try.f165.ntmps) rfl (res := [.tmp 6]) rfl false false [.cells 199 [.i .i64 s.1, .so 1], .row 196 2 s.2.length (rowsPr s.2)] _ _ _ _ rfl (fun h => by cases h) [(1000001, [.mvc 0 1])] ?_
    repeat refine Or.inl ?_
    refine ⟨[], _, fun _ => node_fn (e + (d + 1)) f, ?_⟩
    repeat refine Or.inl ?_
    have e1 : (decide (((d + 1 : Nat) : Int) < 1) || decide (IntKind.i64.wrap (s.1 + 1) > 40) || !nodeF f) = (decide (s.1 + 1 > 40) || !nodeF f) := by
      rw [w1, decide_eq_false (by omega), Bool.false_or]
    refine ⟨fun h => ?_, fun h => ?_⟩
    · have hn := addF_no (d := d) (e1 ▸ h)
      refine ⟨⟨(), [(2, 3)], trivial, ⟨⟨⟨rfl, rfl, ?_⟩, trivial⟩, ⟨⟨rfl, rfl, rfl, ⟨rfl, ?_⟩⟩, ⟨rfl, rfl, trivial, trivial⟩, ⟨rfl, rfl, trivial, ⟨rfl, rfl, ?_, fun q hq => ?_⟩⟩, trivial⟩, rfl⟩, rfl, fun _ => ⟨rfl, rfl, trivial, fun _ _ => rfl⟩⟩⟩
      · rw [hn]; exact AVEq.refl _
      · exact ⟨by rw [hn, w1]; exact AVEq.refl _, rfl⟩
      · rw [hn]
      · rw [hn]
    · have hy := addF_yes (d := d) (e1 ▸ h)
      refine Or.inr ⟨[], Unit, fun _ => True, fun _ => [], fun _ => [⟨0, [], .cells 199 [.i .i64 (s.1 + 1), .so 3]⟩, ⟨3, [], .row 196 2 (putF f s.2).length (rowsPr (putF f s.2))⟩], ?_, fun _ _ => ?_⟩
      · repeat refine Or.inl ?_
        refine ⟨[], _, fun hg => containsPr_fn s.2 (by omega) (f.m, f.w), ?_⟩
        refine ⟨fun hp => ?_, fun hp => ?_⟩
        · repeat refine Or.inl ?_
          refine ⟨by show _ * 16 ≤ _; omega, ?_⟩
          refine ⟨(), [(3, 6)], trivial, rfl, rfl, rfl, rfl, rfl, trivial, ⟨⟨rfl, ⟨?_, rfl⟩⟩, ?_⟩⟩
          · rw [w1]; exact AVEq.refl _
          · have hp : (f.op == 0 && !hasPr s.2 (f.m, f.w)) = true := hp
            have ao := snocPr_row s.2 (f.m, f.w) (putF_yes hp)
            exact ao
        · refine ⟨(), [], trivial, rfl, rfl, rfl, rfl, rfl, trivial, ⟨⟨rfl, ⟨?_, rfl⟩⟩, ?_⟩⟩
          · rw [w1]; exact AVEq.refl _
          · have hp : (f.op == 0 && !hasPr s.2 (f.m, f.w)) = false := hp
            rw [putF_no hp]
            exact ⟨rfl, rfl, rfl, fun _ _ => rfl⟩
      · have hs1 : ((s.1 + 1, putF f s.2) : Sz).1 ≤ 40 := by
          have := e1 ▸ h
          rw [Bool.or_eq_false_iff, decide_eq_false_iff_not] at this
          dsimp only
          omega
        repeat refine Or.inl ?_
        refine ⟨[], Nat, fun k => k ≤ f.args.length ∧ (addTo d f.args (s.1 + 1, putF f s.2) k).2 = true, fun k => [⟨61, [], .i .i64 k⟩],
          fun k => [⟨0, [], .cells 199 [.i .i64 (addTo d f.args (s.1 + 1, putF f s.2) k).1.1, .so 3]⟩, ⟨3, [], .row 196 2 (addTo d f.args (s.1 + 1, putF f s.2) k).1.2.length (rowsPr (addTo d f.args (s.1 + 1, putF f s.2) k).1.2)⟩], fun k => f.args.length - k,
          ⟨0, [], ⟨Nat.zero_le _, by rw [addTo_zero]⟩, rfl, rfl, rfl, rfl, rfl, ⟨rfl, rfl⟩, ?_⟩, ?_⟩
        · simp only [addTo_zero]
          exact ⟨⟨rfl, ⟨AVEq.refl _, rfl⟩⟩, ⟨rfl, rfl, rfl, fun _ _ => rfl⟩⟩
        rintro k ⟨hk, hok⟩
        have hk : k ≤ f.args.length := hk
        have ek : (k : Int).toNat = k := Int.toNat_natCast k
        refine .inl ⟨fun hc => ?_, fun hc => ?_⟩
        · have hc := dlt hc
          have hc : (k : Int) < f.args.length := hc
          have wd : IntKind.i64.wrap (((d + 1 : Nat) : Int) - 1) = (d : Int) := by rw [wr (by omega) (by omega)]; omega
          have rg := addTo_sz (d := d) (l := f.args) hs1 hok
          dsimp only at rg
          have hr := add_fn d e (f.args.getD (k : Int).toNat dF) (addTo d f.args (s.1 + 1, putF f s.2) k).1 (by omega) (by omega) rg.2.1 (by omega)
          rw [← wd] at hr
          repeat refine Or.inl ?_
          refine ⟨⟨by omega, by omega⟩, ?_⟩
          refine Or.inr (Or.inr ?_)
          refine ⟨false, [0, 3], rfl, Unit, _, _, _, _, hr, fun _ _ => ?_⟩
          have hst := addTo_yes (d := d) (l := f.args) hok
          have rg2 := addF_sz d (f.args.getD k dF) (addTo d f.args (s.1 + 1, putF f s.2) k).1 rg.2.1
          refine ⟨fun hn => ?_, fun hn => ?_⟩
          · have hn : (!(addF d (f.args.getD (k : Int).toNat dF) (addTo d f.args (s.1 + 1, putF f s.2) k).1).2) = true := hn
            rw [ek, Bool.not_eq_true'] at hn
            rw [← hst] at hn
            have hend := addTo_stop hn (f.args.length - (k + 1))
            rw [show k + 1 + (f.args.length - (k + 1)) = f.args.length by omega] at hend
            have hE : addF (d + 1) f s = ((addF d (f.args.getD (k : Int).toNat dF) (addTo d f.args (s.1 + 1, putF f s.2) k).1).1, false) := by
              rw [hy, hend, hn, hst, ek]; rfl
            refine ⟨⟨(), [(2, 5)], trivial, ⟨⟨⟨rfl, rfl, ?_⟩, trivial⟩, ⟨⟨rfl, rfl, rfl, ⟨rfl, ?_⟩⟩, ⟨rfl, rfl, trivial, trivial⟩, ⟨rfl, rfl, trivial, ⟨rfl, rfl, ?_, fun q hq => ?_⟩⟩, trivial⟩, rfl⟩, rfl, fun _ => ⟨rfl, rfl, trivial, fun _ _ => rfl⟩⟩⟩
            · rw [hE]; exact AVEq.refl _
            · exact ⟨by rw [hE]; exact AVEq.refl _, rfl⟩
            · rw [hE]
            · rw [hE]
          · have hn : (!(addF d (f.args.getD (k : Int).toNat dF) (addTo d f.args (s.1 + 1, putF f s.2) k).1).2) = false := hn
            rw [ek, Bool.not_eq_false'] at hn
            have hn2 : (addTo d f.args (s.1 + 1, putF f s.2) (k + 1)).2 = true := by rw [hst]; exact hn
            refine ⟨k + 1, [(3, 5)], ⟨by omega, hn2⟩, by dsimp only; omega, rfl, rfl, rfl, rfl, rfl, ⟨rfl, wr (by omega) (by omega)⟩, ⟨⟨rfl, ⟨?_, rfl⟩⟩, ?_⟩⟩
            · rw [hst, ek]; exact AVEq.refl _
            · rw [hst, ek]
              exact ⟨rfl, rfl, rfl, fun _ _ => rfl⟩
        · have hc := dnlt hc
          have hc : (f.args.length : Int) ≤ k := hc
          obtain rfl : k = f.args.length := by omega
          have hE : addF (d + 1) f s = ((addTo d f.args (s.1 + 1, putF f s.2) f.args.length).1, decide (((addTo d f.args (s.1 + 1, putF f s.2) f.args.length).1.2.length : Int) ≤ 6)) := by
            rw [hy, hok, Bool.true_and]
          repeat refine Or.inl ?_
          refine ⟨⟨(), [(2, 3)], trivial, ⟨⟨⟨rfl, rfl, ?_⟩, trivial⟩, ⟨⟨rfl, rfl, rfl, ⟨rfl, ?_⟩⟩, ⟨rfl, rfl, trivial, trivial⟩, ⟨rfl, rfl, trivial, ⟨rfl, rfl, ?_, fun q hq => ?_⟩⟩, trivial⟩, rfl⟩, rfl, fun _ => ⟨rfl, rfl, trivial, fun _ _ => rfl⟩⟩⟩
          · rw [hE]; exact AVEq.refl _
          · exact ⟨by rw [hE]; exact AVEq.refl _, rfl⟩
          · rw [hE]
          · rw [hE]
end Go.Proofs.Ytnookbebiacaeaa
end

section
/-
  Formulas: the pairs of a formula, sorted.
-/
namespace Go.Proofs.Ytnookbebiacaeaa
open Go.Eng Go.RowKit Go.Sort Go.Shelf

def sortP_ren : Go.Shelf.Ren := ⟨fun | 6 => 166 | 15 => 158 | 14 => 202 | 28 => 198 | 29 => 199 | 20 => 224 | 21 => 225 | 22 => 226 | 23 => 227 | 24 => 228 | 25 => 229 | 26 => 230 | 27 => 231 | 46 => 238 | 47 => 219 | 48 => 220 | 49 => 239 | 50 => 240 | 57 => 242 | n => n, fun | 22 => 142 | 24 => 196 | 25 => 202 | 3 => 3 | 39 => 192 | 0 => 0 | 53 => 227 | 55 => 229 | 4 => 4 | 46 => 220 | 45 => 219 | 50 => 224 | 5 => 5 | 9 => 9 | 66 => 243 | 70 => 247 | 76 => 259 | 77 => 140 | n => n, fun | n => n⟩
theorem sortP : Go.Proofs.SlLaysF0.n6 Try.prog sortP_ren := {
  mixed := by kernel_rfl,
  f6 := ⟨Try.f166.name, by decide, Try.func166.trans (congrArg some (by kernel_rfl))⟩,
  f14 := ⟨Try.f202.name, by decide, Try.func202.trans (congrArg some (by kernel_rfl))⟩,
  f15 := Try.func158.trans (congrArg some (by kernel_rfl)),
  f20 := ⟨Try.f224.name, by decide, Try.func224.trans (congrArg some (by kernel_rfl))⟩,
  f21 := ⟨Try.f225.name, by decide, Try.func225.trans (congrArg some (by kernel_rfl))⟩,
  f22 := ⟨Try.f226.name, by decide, Try.func226.trans (congrArg some (by kernel_rfl))⟩,
  f23 := ⟨Try.f227.name, by decide, Try.func227.trans (congrArg some (by kernel_rfl))⟩,
  f24 := ⟨Try.f228.name, by decide, Try.func228.trans (congrArg some (by kernel_rfl))⟩,
  f25 := ⟨Try.f229.name, by decide, Try.func229.trans (congrArg some (by kernel_rfl))⟩,
  f26 := ⟨Try.f230.name, by decide, Try.func230.trans (congrArg some (by kernel_rfl))⟩,
  f27 := ⟨Try.f231.name, by decide, Try.func231.trans (congrArg some (by kernel_rfl))⟩,
  f28 := Try.func198.trans (congrArg some (by kernel_rfl)),
  f29 := Try.func199.trans (congrArg some (by kernel_rfl)),
  f46 := ⟨Try.f238.name, by decide, Try.func238.trans (congrArg some (by kernel_rfl))⟩,
  f47 := Try.func219.trans (congrArg some (by kernel_rfl)),
  f48 := Try.func220.trans (congrArg some (by kernel_rfl)),
  f49 := ⟨Try.f239.name, by decide, Try.func239.trans (congrArg some (by kernel_rfl))⟩,
  f50 := ⟨Try.f240.name, by decide, Try.func240.trans (congrArg some (by kernel_rfl))⟩,
  f57 := ⟨Try.f242.name, by decide, Try.func242.trans (congrArg some (by kernel_rfl))⟩,
  t0 := Try.underlying0,
  a0 := Try.isAgg0,
  z0 := Try.sizeOf0,
  v0 := Try.zeroValue0,
  t3 := Try.underlying3,
  a3 := Try.isAgg3,
  z3 := Try.sizeOf3,
  v3 := Try.zeroValue3,
  t4 := Try.underlying4,
  a4 := Try.isAgg4,
  z4 := Try.sizeOf4,
  v4 := Try.zeroValue4,
  t5 := Try.underlying5,
  a5 := Try.isAgg5,
  z5 := Try.sizeOf5,
  v5 := Try.zeroValue5,
  t9 := Try.underlying9,
  a9 := Try.isAgg9,
  z9 := Try.sizeOf9,
  v9 := Try.zeroValue9,
  t22 := Try.underlying142,
  a22 := Try.isAgg142,
  z22 := Try.sizeOf142,
  v22 := Try.zeroValue142,
  t25 := Try.underlying202,
  a25 := Try.isAgg202,
  z25 := Try.sizeOf202,
  v25 := Try.zeroValue202,
  t39 := Try.underlying192,
  a39 := Try.isAgg192,
  z39 := Try.sizeOf192,
  v39 := Try.zeroValue192,
  t45 := Try.underlying219,
  a45 := Try.isAgg219,
  z45 := Try.sizeOf219,
  v45 := Try.zeroValue219,
  t46 := Try.underlying220,
  a46 := Try.isAgg220,
  z46 := Try.sizeOf220,
  v46 := Try.zeroValue220,
  t50 := Try.underlying224,
  a50 := Try.isAgg224,
  z50 := Try.sizeOf224,
  v50 := Try.zeroValue224,
  t53 := Try.underlying227,
  a53 := Try.isAgg227,
  z53 := Try.sizeOf227,
  v53 := Try.zeroValue227,
  t55 := Try.underlying229,
  a55 := Try.isAgg229,
  z55 := Try.sizeOf229,
  v55 := Try.zeroValue229,
  t66 := Try.underlying243,
  a66 := Try.isAgg243,
  z66 := Try.sizeOf243,
  v66 := Try.zeroValue243,
  t70 := Try.underlying247,
  a70 := Try.isAgg247,
  z70 := Try.sizeOf247,
  v70 := Try.zeroValue247,
  t76 := Try.underlying259,
  a76 := Try.isAgg259,
  z76 := Try.sizeOf259,
  v76 := Try.zeroValue259,
  t77 := Try.underlying140,
  a77 := Try.isAgg140,
  z77 := Try.sizeOf140,
  v77 := Try.zeroValue140 }
theorem RetIs.sob {c d : Bool} {e sz n n' : Nat} {get get' : Nat → List AV} {id nid : Nat} {O : List OE} (hg : getO id O = some ([], .row e sz n' get')) (hn : n' = n) (hget : ∀ k, k < n → get' k = get k) (hf : ∀ k, k < n → AV.freshs (get k) = true) (hd : d = c) :
    RetIs [.row e sz n get] (.tup [.so 0, .b c]) (.tup [.so id, .b d]) O nid := by
  subst hn
  subst hd
  refine ⟨[(0, id)], ⟨⟨⟨rfl, rfl, rfl⟩, trivial⟩, ⟨⟨rfl, rfl, trivial, ?_⟩, trivial⟩, rfl⟩, rfl, hf⟩
  show (match AO.row e sz n' get, getO id O with
    | .dead, _ => True
    | o, some ([], o') => AOEq (o.ren (rn [(0, id)])) o'
    | _, _ => False)
  rw [hg]
  exact ⟨rfl, rfl, rfl, hget⟩
/-- A contract that returns a nil list, told as one that returns a row without elements. -/
theorem Ctr.nilrow {P : Program} {f : FuncId} {args : List AV} (e sz : Nat) (get : Nat → List AV) {rest : List AV} (h : Ctr P f args [] (.tup (.val (.slice none 0 0) :: rest))) : Ctr P f args [.row e sz 0 get] (.tup (.so 0 :: rest)) := by
  refine ⟨h.1, fun w vs hl hr => (h.2 w vs hl hr).mono ?_⟩
  rintro ex w' ⟨v, β, rfl, hb, _, hrep⟩
  obtain ⟨us, rfl, hlen, hc⟩ := hrep.tup_inv
  match us, hlen with
  | u0 :: us, hlen =>
    have h0 : u0 = .slice none 0 0 := (hc 0 (by simp) (by simp)).val_inv
    subst h0
    have hF : ∀ g, FX (fun g => g < w.heap.size) (β.valAt 0 (.slice none 0 0)) 0 [.row e sz 0 get] g → g < w.heap.size := by
      rintro g (hg | ⟨j, o, hj, hg⟩)
      · exact hg
      · cases j with
        | zero => simp at hj; subst hj; simp [ownB, Bd.valAt, blkOf] at hg
        | succ j => simp at hj
    refine ⟨_, β.valAt 0 (.slice none 0 0), rfl, hb, ⟨?_, ?_, ?_⟩, ?_⟩
    · intro j o hj
      cases j with
      | succ j => simp at hj
      | zero =>
        simp at hj
        subst hj
        refine ⟨[], ⟨by simp, .inl ⟨by simp [Bd.valAt], rfl⟩⟩, fun k hk => absurd hk (Nat.not_lt_zero k), fun k j hk => absurd hk (Nat.not_lt_zero k)⟩
    · intro j o g hj hg
      cases j with
      | succ j => simp at hj
      | zero => simp at hj; subst hj; simp [ownB, Bd.valAt, blkOf] at hg
    · intro j j' o o' g h1 h2 _ _
      cases j <;> cases j' <;> simp at h1 h2 ⊢
    · refine .tup (.so 0 :: rest) (.slice none 0 0 :: us) (by simpa using hlen) fun j h1 h2 => ?_
      cases j with
      | zero =>
        have := Rep.so (β := β.valAt 0 (.slice none 0 0)) (n := 1) (F := FX (fun g => g < w.heap.size) (β.valAt 0 (.slice none 0 0)) 0 [.row e sz 0 get]) (w := w') 0 (by omega) (by simp [Bd.valAt]; rfl)
        simpa [Bd.valAt] using this
      | succ j =>
        have := (hc (j + 1) (by simpa using h1) (by simpa using h2)).zero
        refine .pure _ _ ?_
        refine Rep0.stable this (fun g _ hn hf => hn (.inl (hF g hf))) (fun _ _ _ => rfl) (Nat.le_refl _)


def cmpPr (a b : Pr) : Int := firstNZ [cmpI a.1 b.1, cmpI a.2 b.2]
set_option maxRecDepth 20000 in
theorem cmpPr_fn (a b : Pr) : Ctr Try.prog 167 [.ag (prA a), .ag (prA b)] [] (.i .i64 (cmpPr a b)) := by
  refine fn_of_exec tabOk Try.func167 (by kernel_rfl) rfl (N := Try.f167.ntmps) rfl (res := [.tmp 4]) rfl rfl [] ?_
  repeat refine Or.inl ?_
  refine ⟨[], _, compare_fn a.1 b.1, ?_⟩
  repeat refine Or.inl ?_
  refine ⟨[], _, compare_fn a.2 b.2, ?_⟩
  repeat refine Or.inl ?_
  refine ⟨[], _, or2_fn _ _, ?_⟩
  exact RetIs.i rfl
def encPr (p : Pr) : List Value := [.int .i64 p.1, .int .i64 p.2]
theorem liesPr : Lies 2 encPr prA where
  pos := by decide
  len _ := rfl
  alen _ := rfl
  one x v hv := by
    simp [encPr] at hv
    rcases hv with rfl | rfl <;> rfl
  to F w x j h1 h2 := by
    have hj : j < 2 := h2
    revert h1 h2
    refine two (p := fun j => ∀ (h1 : j < (prA x).length) (h2 : j < (encPr x).length), Rep0 F w (prA x)[j] (encPr x)[j]) ?_ ?_ j hj
    · exact fun _ _ => .i _ _
    · exact fun _ _ => .i _ _
  of F w x j v h1 h2 := by
    have hj : j < 2 := h2
    revert h1 h2
    refine two (p := fun j => ∀ (h1 : j < (prA x).length) (h2 : j < (encPr x).length), Rep0 F w (prA x)[j] v → v = (encPr x)[j]) ?_ ?_ j hj
    · exact fun _ _ h => (by cases h; rfl)
    · exact fun _ _ h => (by cases h; rfl)
def ltPr (x y : Pr) : Bool := ltP x.1 x.2 y.1 y.2
theorem ltPr_eq (x y : Pr) : ltOf cmpPr x y = ltPr x y := cmp2_lt x.1 x.2 y.1 y.2
theorem ltPr_iff {x y : Pr} : ltPr x y = true ↔ x.1 < y.1 ∨ (x.1 = y.1 ∧ x.2 < y.2) := by
  unfold ltPr ltP
  rw [decide_eq_true_eq]
instance : Inhabited Pr := ⟨dPr⟩
theorem sortsPr : SortsBy Try.prog 166 167 2 encPr (ltOf cmpPr) :=
  ⟨⟨_, Try.func166, by kernel_rfl, rfl⟩, fun blk off cap ss W hH hblk hsz => by
    have := AnyQ.slices_SortFunc sortP 2 Try.isAgg196 Try.sizeOf196 encPr (fun _ => rfl) liesPr.one cmpPr (swo_ltP Prod.fst Prod.snd ltPr_eq) 167 #[] blk off cap ss.toArray W (fun args w => callFunc_run ⟨_, Try.func167, by kernel_rfl, rfl⟩ args) (cmpLays_of liesPr cmpPr_fn blk off _ W) hH hblk (by simpa using hsz)
    have e : ss.toArray.size = ss.length := by simp
    rw [e] at this
    exact this.mono fun _ _ ⟨h1, d', n, os, h2, h3, h4⟩ => ⟨h1, d', n, os, h2, h3, h4⟩, fun p cap W => AnyF.slices_SortFunc_none sortP p cap _ W⟩
/-- The pairs, ascending. -/
def srtPr (L : List Pr) : List Pr := L.mergeSort fun x y => !ltPr y x
theorem srt_uniq {L ys : List Pr} (hp : ys.Perm L) (hs : ys.Pairwise fun x y => ltPr y x = false) : ys = srtPr L := by
  have h1 := List.mergeSort_perm L fun x y => !ltPr y x
  have h2 : (srtPr L).Pairwise fun x y => (!ltPr y x) = true := by
    refine List.pairwise_mergeSort ?_ ?_ L
    · intro a b c hab hbc
      rw [Bool.not_eq_true', ← Bool.not_eq_true, ltPr_iff] at *
      omega
    · intro a b
      rw [Bool.or_eq_true, Bool.not_eq_true', Bool.not_eq_true', ← Bool.not_eq_true, ← Bool.not_eq_true, ltPr_iff, ltPr_iff]
      omega
  refine List.Perm.eq_of_pairwise (le := fun x y => ltPr y x = false) ?_ hs (h2.imp fun {x y} h => by simpa using h) (hp.trans h1.symm)
  rintro ⟨a, b⟩ ⟨c, d⟩ _ _ h3 h4
  rw [← Bool.not_eq_true, ltPr_iff] at h3 h4
  simp only at h3 h4
  rw [Prod.mk.injEq]
  omega
/-- What the size of a formula is, and whether it is right. -/
def sizF (f : Fm) : Sz × Bool := addF 6 f (0, [])
def prsF (f : Fm) : List Pr := if (sizF f).2 = true then srtPr (sizF f).1.2 else []
theorem freshPr (L : List Pr) : ∀ k, k < L.length → AV.freshs (rowsPr L k) = true := fun _ _ => rfl
set_option maxRecDepth 20000 in
set_option maxHeartbeats 4000000 in
theorem pairs_yes (e : Nat) (f : Fm) (h : (sizF f).2 = true) : Ctr Try.prog 119 [.ag (avD (e + 6) f)] [.row 196 2 (srtPr (sizF f).1.2).length (rowsPr (srtPr (sizF f).1.2))] (.tup [.so 0, .b true]) := by
  refine fn_of_exec tabOk Try.func119 (by kernel_rfl) rfl (N := Try.f119.ntmps) rfl (res := [.tmp 2, .tmp 3]) rfl rfl [(1000001, [.nlc 1 1 196 2, .eq 2 (.row 196 2 0 (rowsPr [])), .eq 1 (.cells 199 [.i .i64 0, .so 2])])] ?_
  have hr := add_fn 6 e f (0, []) (by decide) (by decide) (by decide) (by decide)
  refine ⟨⟨rfl, rfl, rfl, fun k hk => absurd hk (Nat.not_lt_zero k)⟩, ⟨rfl, ⟨AVEq.refl _, rfl⟩⟩, ?_⟩
  refine Or.inl ?_
  refine Or.inr (Or.inr ?_)
  refine ⟨false, [1, 2], rfl, Unit, _, _, _, _, hr, fun _ _ => ?_⟩
  refine ⟨fun hn => ?_, fun _ => ?_⟩
  · have hn : (!(sizF f).2) = true := hn
    rw [h] at hn
    cases hn
  have hz := addF_sz 6 f (0, []) (by decide)
  refine Or.inr (Or.inr ?_)
  refine ⟨false, [3], rfl, List Pr, _, _, _, _, sortBy_ctr liesPr sortsPr (kt := 196) (sizF f).1.2 (rowsPr (sizF f).1.2) (fun _ _ => rfl) (by have h0 : (((0, []) : Sz).2.length : Int) = 0 := rfl; have h1 : ((0, []) : Sz).1 = 0 := rfl; unfold sizF; omega), fun ys hy => ?_⟩
  have e : ys = srtPr (sizF f).1.2 := srt_uniq hy.1 (hy.2.imp fun {x y} h => by rw [← ltPr_eq]; exact h)
  rw [e]
  exact RetIs.sob rfl rfl (fun _ _ => rfl) (freshPr _) rfl
set_option maxRecDepth 20000 in
set_option maxHeartbeats 4000000 in
theorem pairs_no (e : Nat) (f : Fm) (h : (sizF f).2 = false) : Ctr Try.prog 119 [.ag (avD (e + 6) f)] [] (.tup [.val (.slice none 0 0), .b false]) := by
  refine fn_of_exec tabOk Try.func119 (by kernel_rfl) rfl (N := Try.f119.ntmps) rfl (res := [.tmp 2, .tmp 3]) rfl rfl [(1000001, [.nlc 1 1 196 2, .eq 2 (.row 196 2 0 (rowsPr [])), .eq 1 (.cells 199 [.i .i64 0, .so 2])])] ?_
  have hr := add_fn 6 e f (0, []) (by decide) (by decide) (by decide) (by decide)
  refine ⟨⟨rfl, rfl, rfl, fun k hk => absurd hk (Nat.not_lt_zero k)⟩, ⟨rfl, ⟨AVEq.refl _, rfl⟩⟩, ?_⟩
  refine Or.inl ?_
  refine Or.inr (Or.inr ?_)
  refine ⟨false, [1, 2], rfl, Unit, _, _, _, _, hr, fun _ _ => ?_⟩
  refine ⟨fun _ => ?_, fun hn => ?_⟩
  rotate_left
  · have hn : (!(sizF f).2) = false := hn
    rw [h] at hn
    cases hn
  exact ⟨[], ⟨⟨⟨rfl, rfl, AVEq.refl _⟩, trivial⟩, trivial, rfl⟩, rfl, trivial⟩
theorem pairs_fn (e : Nat) (f : Fm) : Ctr Try.prog 119 [.ag (avD (e + 6) f)] [.row 196 2 (prsF f).length (rowsPr (prsF f))] (.tup [.so 0, .b (sizF f).2]) := by
  cases h : (sizF f).2
  · have : prsF f = [] := by unfold prsF; rw [h]; rfl
    rw [this]
    exact Ctr.nilrow 196 2 _ (pairs_no e f h)
  · have : prsF f = srtPr (sizF f).1.2 := by unfold prsF; rw [if_pos h]
    rw [this]
    exact pairs_yes e f h
set_option maxRecDepth 20000 in
theorem RightF_fn (e : Nat) (f : Fm) : Ctr Try.prog 44 [.ag (avD (e + 6) f)] [] (.b (sizF f).2) := by
  refine fn_of_exec tabOk Try.func44 (by kernel_rfl) rfl (N := Try.f44.ntmps) rfl (res := [.tmp 2]) rfl rfl [] ?_
  repeat refine Or.inl ?_
  refine ⟨_, _, pairs_fn e f, ?_⟩
  exact RetIs.b rfl
end Go.Proofs.Ytnookbebiacaeaa
end

section
/-
  Formulas: the level of a pair in a world, and whether a formula holds there.
-/
namespace Go.Proofs.Ytnookbebiacaeaa
open Go.Eng

def isP (m w : Int) (n : Note) : Bool := n.m == m && n.w == w
theorem idxF_rg (p : Note → Bool) (l : List Note) (h : ¬ idxF p l < 0) : 0 ≤ idxF p l ∧ idxF p l < l.length := by
  unfold idxF at *
  cases h1 : l.findIdx? p with
  | none => rw [h1] at h; exact absurd (by decide) h
  | some k =>
    rw [List.findIdx?_eq_some_iff_getElem] at h1
    obtain ⟨hk, _⟩ := h1
    dsimp only
    omega
/-- The level of a message and an account in a world. -/
def lvW (l : List Note) (m w : Int) : Int := if idxF (isP m w) l < 0 then 0 else (l.getD (idxF (isP m w) l).toNat dN).l
set_option maxRecDepth 20000 in
theorem level1_fn (m w : Int) (n : Note) : Ctr Try.prog 204 [.ag n.av, .rp [.i .i64 m], .rp [.i .i64 w]] [] (.b (isP m w n)) := by
  refine fn_of_exec tabOk Try.func204 (by kernel_rfl) rfl (N := Try.f204.ntmps) rfl (res := [.tmp 4]) rfl rfl [] ?_
  exact RetIs.b rfl
set_option maxRecDepth 20000 in
theorem level_fn (l : List Note) (hl : l.length < 2 ^ 62) (m w : Int) : Ctr Try.prog 171 [.rs 5 l.length (rowsN l), .i .i64 m, .i .i64 w] [] (.i .i64 (lvW l m w)) := by
  refine fn_of_exec tabOk Try.func171 (by kernel_rfl) rfl (N := Try.f171.ntmps) rfl (res := [.tmp 6]) rfl rfl [] ?_
  repeat refine Or.inl ?_
  refine ⟨[], _, index2_fn l hl 204 _ _ (isP m w) (level1_fn m w), ?_⟩
  repeat refine Or.inl ?_
  refine ⟨fun h => ?_, fun h => ?_⟩
  · have h : decide (idxF (isP m w) l < 0) = true := h
    rw [decide_eq_true_eq] at h
    exact RetIs.i (by unfold lvW; rw [if_pos h])
  · have h : decide (idxF (isP m w) l < 0) = false := h
    rw [decide_eq_false_iff_not] at h
    have := idxF_rg _ _ h
    repeat refine Or.inl ?_
    refine ⟨⟨by omega, by omega⟩, ?_⟩
    exact RetIs.i (by unfold lvW; rw [if_neg h])
set_option maxRecDepth 20000 in
set_option maxHeartbeats 4000000 in
theorem indexFm_fn (d : Nat) (f : Fm) (hl : f.args.length < 2 ^ 62) (fid : FuncId) (c : List AV) (p : Fm → Bool) (hp : ∀ k, k < f.args.length → Ctr Try.prog fid [.ag (avD d (f.args.getD k dF)), .rp c] [] (.b (p (f.args.getD k dF)))) :
    Ctr Try.prog 203 [.rs 5 f.args.length (kidsD (d + 1) f), .fn fid [.rp c]] [] (.i .i64 (idxG p f.args)) := by
  refine fn_of_exec tabOk Try.func203 (by kernel_rfl) rfl (N := Try.f203.ntmps) rfl (res := [.tmp 4]) rfl rfl [] ?_
  repeat refine Or.inl ?_
  refine ⟨[], Nat, fun k => k ≤ f.args.length ∧ ∀ j, j < k → p (f.args.getD j dF) = false, fun k => [⟨8, [], .i .i64 k⟩], fun _ => [], fun k => f.args.length - k,
    ⟨0, [], ⟨Nat.zero_le _, fun j hj => absurd hj (Nat.not_lt_zero j)⟩, rfl, rfl, rfl, rfl, rfl, ⟨rfl, rfl⟩, trivial⟩, ?_⟩
  rintro k ⟨hk, hno⟩
  have hk : k ≤ f.args.length := hk
  refine .inl ⟨fun hc => ?_, fun hc => ?_⟩
  · have hc := dlt hc
    have hc : (k : Int) < f.args.length := hc
    have ek : (k : Int).toNat = k := Int.toNat_natCast k
    have hr := hp (k : Int).toNat (by omega)
    repeat refine Or.inl ?_
    refine ⟨⟨by omega, by omega⟩, ?_⟩
    repeat refine Or.inl ?_
    refine ⟨[], _, hr, ?_⟩
    refine ⟨fun h => ?_, fun h => ?_⟩
    · have h : p (f.args.getD (k : Int).toNat dF) = true := h
      rw [ek] at h
      exact RetIs.i (idxG_some dF _ _ k (by omega) hno h).symm
    · have h : p (f.args.getD (k : Int).toNat dF) = false := h
      rw [ek] at h
      refine ⟨k + 1, [], ⟨by omega, fun j hj => ?_⟩, by dsimp only; omega, rfl, rfl, rfl, rfl, rfl, ⟨rfl, wr (by omega) (by omega)⟩, trivial⟩
      by_cases hjk : j = k
      · rw [hjk]; exact h
      · exact hno j (by omega)
  · have hc := dnlt hc
    have hc : (f.args.length : Int) ≤ k := hc
    obtain rfl : k = f.args.length := by omega
    exact RetIs.i (idxG_none dF _ _ hno).symm
set_option maxRecDepth 20000 in
theorem containsFm_fn (d : Nat) (f : Fm) (hl : f.args.length < 2 ^ 62) (fid : FuncId) (c : List AV) (p : Fm → Bool) (hp : ∀ k, k < f.args.length → Ctr Try.prog fid [.ag (avD d (f.args.getD k dF)), .rp c] [] (.b (p (f.args.getD k dF)))) :
    Ctr Try.prog 169 [.rs 5 f.args.length (kidsD (d + 1) f), .fn fid [.rp c]] [] (.b (f.args.any p)) := by
  refine fn_of_exec tabOk Try.func169 (by kernel_rfl) rfl (N := Try.f169.ntmps) rfl (res := [.tmp 4]) rfl rfl [] ?_
  repeat refine Or.inl ?_
  refine ⟨[], _, indexFm_fn d f hl fid c p hp, ?_⟩
  exact RetIs.b (idxG_any _ _)
/-- Every node is right, and there are at most so many levels. -/
def okF : Nat → Fm → Prop
  | 0, _ => False
  | d + 1, f => nodeF f = true ∧ f.args.length ≤ 40 ∧ ∀ k, k < f.args.length → okF d (f.args.getD k dF)
/-- Whether a formula holds in a world. -/
def holdsF : Nat → Fm → List Note → Bool
  | 0, _, _ => false
  | d + 1, f, l => if f.op = 1 then !(f.args.any fun x => !holdsF d x l) else if f.op = 2 then f.args.any fun x => holdsF d x l
    else if f.op = 3 then !holdsF d (f.args.getD 0 dF) l else decide (lvW l f.m f.w ≥ f.l)
set_option maxRecDepth 20000 in
set_option maxHeartbeats 4000000 in
theorem in_fnF (e : Nat) (x : Fm) (l : List Note) (b : Bool) (h : Ctr Try.prog 120 [.ag (avD e x), .rs 5 l.length (rowsN l)] [] (.b b)) :
    Ctr Try.prog 168 [.ag (avD e x), .rp [.rs 5 l.length (rowsN l)]] [] (.b b) := by
  refine fn_of_exec tabOk Try.func168 (by kernel_rfl) rfl (N := Try.f168.ntmps) rfl (res := [.tmp 3]) rfl rfl [] ?_
  repeat refine Or.inl ?_
  refine ⟨[], _, h, ?_⟩
  exact RetIs.b rfl
set_option maxRecDepth 20000 in
set_option maxHeartbeats 4000000 in
theorem notIn_fnF (e : Nat) (x : Fm) (l : List Note) (b : Bool) (h : Ctr Try.prog 120 [.ag (avD e x), .rs 5 l.length (rowsN l)] [] (.b b)) :
    Ctr Try.prog 170 [.ag (avD e x), .rp [.fn 168 [.rp [.rs 5 l.length (rowsN l)]]]] [] (.b (!b)) := by
  refine fn_of_exec tabOk Try.func170 (by kernel_rfl) rfl (N := Try.f170.ntmps) rfl (res := [.tmp 3]) rfl rfl [] ?_
  repeat refine Or.inl ?_
  refine ⟨[], _, in_fnF e x l b h, ?_⟩
  exact RetIs.b rfl
set_option maxRecDepth 20000 in
set_option maxHeartbeats 16000000 in
theorem holds_fn (l : List Note) (hl : l.length < 2 ^ 62) : ∀ (d e : Nat) (f : Fm), okF d f →
    Ctr Try.prog 120 [.ag (avD (e + d) f), .rs 5 l.length (rowsN l)] [] (.b (holdsF d f l))
  | 0, e, f, h => h.elim
  | d + 1, e, f, ⟨hnode, hlen, hk⟩ => by
    have ih : ∀ k, k < f.args.length → Ctr Try.prog 120 [.ag (avD (e + d) (f.args.getD k dF)), .rs 5 l.length (rowsN l)] [] (.b (holdsF d (f.args.getD k dF) l)) := fun k h => holds_fn l hl d e _ (hk k h)
    refine fn_of_exec tabOk Try.func120 (by kernel_rfl) rfl (N := Try.f120.ntmps) rfl (res := [.tmp 4]) rfl rfl [] ?_
    repeat refine Or.inl ?_
    refine ⟨fun h1 => ?_, fun h1 => ?_⟩
    · have h1 : (f.op == 1) = true := h1
      rw [beq_iff_eq] at h1
      repeat refine Or.inl ?_
      refine ⟨[], _, containsFm_fn (e + d) f (by omega) 170 _ (fun x => !holdsF d x l) (fun k h => notIn_fnF (e + d) _ l _ (ih k h)), ?_⟩
      refine RetIs.b ?_
      rw [holdsF, if_pos h1]
    have h1 : (f.op == 1) = false := h1
    rw [beq_eq_false_iff_ne] at h1
    repeat refine Or.inl ?_
    refine ⟨fun h2 => ?_, fun h2 => ?_⟩
    · have h2 : (f.op == 2) = true := h2
      rw [beq_iff_eq] at h2
      repeat refine Or.inl ?_
      refine ⟨[], _, containsFm_fn (e + d) f (by omega) 168 _ (fun x => holdsF d x l) (fun k h => in_fnF (e + d) _ l _ (ih k h)), ?_⟩
      refine RetIs.b ?_
      rw [holdsF, if_neg h1, if_pos h2]
    have h2 : (f.op == 2) = false := h2
    rw [beq_eq_false_iff_ne] at h2
    repeat refine Or.inl ?_
    refine ⟨fun h3 => ?_, fun h3 => ?_⟩
    · have h3 : (f.op == 3) = true := h3
      rw [beq_iff_eq] at h3
      have h0 : 0 < f.args.length := by
        unfold nodeF at hnode
        rw [if_neg (by omega), if_neg (by omega), if_pos h3, Bool.and_eq_true, beq_iff_eq] at hnode
        omega
      repeat refine Or.inl ?_
      refine ⟨⟨by omega, by omega⟩, ?_⟩
      repeat refine Or.inl ?_
      refine ⟨[], _, in_fnF (e + d) _ l _ (ih 0 h0), ?_⟩
      refine RetIs.b ?_
      rw [holdsF, if_neg h1, if_neg h2, if_pos h3]
    have h3 : (f.op == 3) = false := h3
    rw [beq_eq_false_iff_ne] at h3
    repeat refine Or.inl ?_
    refine ⟨[], _, level_fn l hl f.m f.w, ?_⟩
    refine RetIs.b ?_
    rw [holdsF, if_neg h1, if_neg h2, if_neg h3]
/-- A formula of the right size is right at every node. -/
theorem addF_ok : ∀ (d : Nat) (f : Fm) (s : Sz), s.1 ≤ 40 → 0 ≤ s.1 → (addF d f s).2 = true → okF d f
  | 0, f, s, _, _, h => by rw [addF] at h; cases h
  | d + 1, f, s, hs, h0, h => by
    have hnb : (decide (s.1 + 1 > 40) || !nodeF f) = false := by
      cases hh : (decide (s.1 + 1 > 40) || !nodeF f)
      · rfl
      · rw [addF_no hh] at h; cases h
    rw [addF_yes hnb, Bool.and_eq_true] at h
    rw [Bool.or_eq_false_iff, decide_eq_false_iff_not, Bool.not_eq_false'] at hnb
    have hs1 : ((s.1 + 1, putF f s.2) : Sz).1 ≤ 40 := by dsimp only; omega
    have hsz := addTo_sz (d := d) (l := f.args) hs1 h.1
    have hall : ∀ k j, k + j = f.args.length → (addTo d f.args (s.1 + 1, putF f s.2) k).2 = true := by
      intro k j hkj
      cases hh : (addTo d f.args (s.1 + 1, putF f s.2) k).2
      · have := addTo_stop hh j
        rw [hkj] at this
        rw [this, hh] at h
        cases h.1
      · rfl
    refine ⟨hnb.2, by dsimp only at hsz; omega, fun k hk => ?_⟩
    have h1 := hall k (f.args.length - k) (by omega)
    have h2 := hall (k + 1) (f.args.length - (k + 1)) (by omega)
    rw [addTo_yes h1] at h2
    have hsz1 := addTo_sz (d := d) (l := f.args) hs1 h1
    exact addF_ok d _ _ hsz1.2.1 (by dsimp only at hsz1; omega) h2
theorem sizF_ok {f : Fm} (h : (sizF f).2 = true) : okF 6 f := addF_ok 6 f (0, []) (by decide) (by decide) h
/-- Whether a formula is right and holds. -/
def HoldsF (f : Fm) (l : List Note) : Bool := (sizF f).2 && holdsF 6 f l
set_option maxRecDepth 20000 in
theorem Holds_fn (e : Nat) (f : Fm) (l : List Note) (hl : l.length < 2 ^ 62) : Ctr Try.prog 46 [.ag (avD (e + 6) f), .rs 5 l.length (rowsN l)] [] (.b (HoldsF f l)) := by
  refine fn_of_exec tabOk Try.func46 (by kernel_rfl) rfl (N := Try.f46.ntmps) rfl (res := [.tmp 4]) rfl rfl [] ?_
  repeat refine Or.inl ?_
  refine ⟨[], _, RightF_fn e f, ?_⟩
  repeat refine Or.inl ?_
  refine ⟨[], _, fun h => holds_fn l hl 6 e f (sizF_ok h.1), ?_⟩
  exact RetIs.b rfl
end Go.Proofs.Ytnookbebiacaeaa
end
