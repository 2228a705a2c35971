/-
  Several texts in one: Tab.
-/
import Derived.Test.YtnookbebiacaeaaProg
import Derived.KernelRfl
import Derived.Test.YtnookbebiacaeaaMg14

section
namespace Go.Proofs.Ytnookbebiacaeaa
open Go.Eng
def ti24 : TI := ⟨(.struct #[⟨"Message", 3, 0, false, "", "", 0⟩, ⟨"Who", 3, 1, false, "", "", 8⟩, ⟨"Level", 3, 2, false, "", "", 16⟩, ⟨"Step", 3, 3, false, "", "", 24⟩, ⟨"Not", 4, 4, false, "", "", 32⟩]), true, 5, 40, (.agg #[(.int .i64 0), (.int .i64 0), (.int .i64 0), (.int .i64 0), (.bool false)]), true⟩
theorem tiOk24 : TIOk Try.prog 24 ti24 := TIOk.of (by kernel_rfl) rfl (by kernel_rfl)
theorem cmpOk24 : ti24.cmp = true → structCmpB Try.prog 24 = true := fun _ => by kernel_rfl
def ti27 : TI := ⟨(.struct #[⟨"Name", 9, 0, false, "", "", 0⟩, ⟨"Edit", 3, 1, false, "", "", 16⟩, ⟨"Within", 3, 2, false, "", "", 24⟩, ⟨"Delete", 3, 3, false, "", "", 32⟩, ⟨"React", 4, 4, false, "", "", 40⟩, ⟨"Thread", 3, 5, false, "", "", 48⟩, ⟨"Quote", 4, 6, false, "", "", 56⟩, ⟨"Mention", 4, 7, false, "", "", 57⟩, ⟨"Size", 3, 8, false, "", "", 64⟩, ⟨"Parts", 3, 9, false, "", "", 72⟩, ⟨"Files", 3, 10, false, "", "", 80⟩, ⟨"Bytes", 3, 11, false, "", "", 88⟩, ⟨"Types", 25, 12, false, "", "", 96⟩, ⟨"Join", 3, 13, false, "", "", 120⟩, ⟨"History", 3, 14, false, "", "", 128⟩, ⟨"Remove", 3, 15, false, "", "", 136⟩, ⟨"Level", 3, 16, false, "", "", 144⟩, ⟨"Batch", 4, 17, false, "", "", 152⟩, ⟨"Rate", 3, 18, false, "", "", 160⟩, ⟨"Down", 3, 19, false, "", "", 168⟩, ⟨"Window", 3, 20, false, "", "", 176⟩, ⟨"Keep", 3, 21, false, "", "", 184⟩]), true, 22, 192, (.agg #[(.string ⟨#[]⟩), (.int .i64 0), (.int .i64 0), (.int .i64 0), (.bool false), (.int .i64 0), (.bool false), (.bool false), (.int .i64 0), (.int .i64 0), (.int .i64 0), (.int .i64 0), (.slice none 0 0), (.int .i64 0), (.int .i64 0), (.int .i64 0), (.int .i64 0), (.bool false), (.int .i64 0), (.int .i64 0), (.int .i64 0), (.int .i64 0)]), false⟩
theorem tiOk27 : TIOk Try.prog 27 ti27 := TIOk.of (by kernel_rfl) rfl (by kernel_rfl)
theorem cmpOk27 : ti27.cmp = true → structCmpB Try.prog 27 = true := fun h => by cases h
def ti22 : TI := ⟨(.slice 24), false, 1, 24, (.slice none 0 0), false⟩
theorem tiOk22 : TIOk Try.prog 22 ti22 := TIOk.of (by kernel_rfl) rfl (by kernel_rfl)
theorem cmpOk22 : ti22.cmp = true → structCmpB Try.prog 22 = true := fun h => by cases h
def ti3 : TI := ⟨(.int .i64), false, 1, 8, (.int .i64 0), false⟩
theorem tiOk3 : TIOk Try.prog 3 ti3 := TIOk.of (by kernel_rfl) rfl (by kernel_rfl)
theorem cmpOk3 : ti3.cmp = true → structCmpB Try.prog 3 = true := fun h => by cases h
def ti29 : TI := ⟨(.int .i64), false, 1, 8, (.int .i64 0), false⟩
theorem tiOk29 : TIOk Try.prog 29 ti29 := TIOk.of (by kernel_rfl) rfl (by kernel_rfl)
theorem cmpOk29 : ti29.cmp = true → structCmpB Try.prog 29 = true := fun h => by cases h
def ti4 : TI := ⟨.bool, false, 1, 1, (.bool false), false⟩
theorem tiOk4 : TIOk Try.prog 4 ti4 := TIOk.of (by kernel_rfl) rfl (by kernel_rfl)
theorem cmpOk4 : ti4.cmp = true → structCmpB Try.prog 4 = true := fun h => by cases h
def ti36 : TI := ⟨(.slice 3), false, 1, 24, (.slice none 0 0), false⟩
theorem tiOk36 : TIOk Try.prog 36 ti36 := TIOk.of (by kernel_rfl) rfl (by kernel_rfl)
theorem cmpOk36 : ti36.cmp = true → structCmpB Try.prog 36 = true := fun h => by cases h
def ti50 : TI := ⟨(.struct #[⟨"Op", 3, 0, false, "", "", 0⟩, ⟨"Message", 3, 1, false, "", "", 8⟩, ⟨"Who", 3, 2, false, "", "", 16⟩, ⟨"Level", 3, 3, false, "", "", 24⟩, ⟨"Args", 48, 4, false, "", "", 32⟩]), true, 5, 56, (.agg #[(.int .i64 0), (.int .i64 0), (.int .i64 0), (.int .i64 0), (.slice none 0 0)]), false⟩
theorem tiOk50 : TIOk Try.prog 50 ti50 := TIOk.of (by kernel_rfl) rfl (by kernel_rfl)
theorem cmpOk50 : ti50.cmp = true → structCmpB Try.prog 50 = true := fun h => by cases h
def ti48 : TI := ⟨(.slice 50), false, 1, 24, (.slice none 0 0), false⟩
theorem tiOk48 : TIOk Try.prog 48 ti48 := TIOk.of (by kernel_rfl) rfl (by kernel_rfl)
theorem cmpOk48 : ti48.cmp = true → structCmpB Try.prog 48 = true := fun h => by cases h
def ti68 : TI := ⟨(.pointer 151), false, 1, 8, (.pointer none), false⟩
theorem tiOk68 : TIOk Try.prog 68 ti68 := TIOk.of (by kernel_rfl) rfl (by kernel_rfl)
theorem cmpOk68 : ti68.cmp = true → structCmpB Try.prog 68 = true := fun h => by cases h
def ti66 : TI := ⟨(.slice 76), false, 1, 24, (.slice none 0 0), false⟩
theorem tiOk66 : TIOk Try.prog 66 ti66 := TIOk.of (by kernel_rfl) rfl (by kernel_rfl)
theorem cmpOk66 : ti66.cmp = true → structCmpB Try.prog 66 = true := fun h => by cases h
def ti76 : TI := ⟨(.struct #[⟨"Do", 3, 0, false, "", "", 0⟩, ⟨"Tenant", 3, 1, false, "", "", 8⟩, ⟨"Name", 3, 2, false, "", "", 16⟩, ⟨"Text", 9, 3, false, "", "", 24⟩]), true, 4, 40, (.agg #[(.int .i64 0), (.int .i64 0), (.int .i64 0), (.string ⟨#[]⟩)]), true⟩
theorem tiOk76 : TIOk Try.prog 76 ti76 := TIOk.of (by kernel_rfl) rfl (by kernel_rfl)
theorem cmpOk76 : ti76.cmp = true → structCmpB Try.prog 76 = true := fun _ => by kernel_rfl
def ti73 : TI := ⟨(.struct #[⟨"N", 3, 0, false, "", "", 0⟩, ⟨"Text", 9, 1, false, "", "", 8⟩, ⟨"Err", 29, 2, false, "", "", 24⟩]), true, 3, 32, (.agg #[(.int .i64 0), (.string ⟨#[]⟩), (.int .i64 0)]), true⟩
theorem tiOk73 : TIOk Try.prog 73 ti73 := TIOk.of (by kernel_rfl) rfl (by kernel_rfl)
theorem cmpOk73 : ti73.cmp = true → structCmpB Try.prog 73 = true := fun _ => by kernel_rfl
def ti25 : TI := ⟨(.slice 9), false, 1, 24, (.slice none 0 0), false⟩
theorem tiOk25 : TIOk Try.prog 25 ti25 := TIOk.of (by kernel_rfl) rfl (by kernel_rfl)
theorem cmpOk25 : ti25.cmp = true → structCmpB Try.prog 25 = true := fun h => by cases h
def ti9 : TI := ⟨.string, false, 1, 16, (.string ⟨#[]⟩), false⟩
theorem tiOk9 : TIOk Try.prog 9 ti9 := TIOk.of (by kernel_rfl) rfl (by kernel_rfl)
theorem cmpOk9 : ti9.cmp = true → structCmpB Try.prog 9 = true := fun h => by cases h
def ti88 : TI := ⟨(.slice 73), false, 1, 24, (.slice none 0 0), false⟩
theorem tiOk88 : TIOk Try.prog 88 ti88 := TIOk.of (by kernel_rfl) rfl (by kernel_rfl)
theorem cmpOk88 : ti88.cmp = true → structCmpB Try.prog 88 = true := fun h => by cases h
def ti92 : TI := ⟨(.pointer 182), false, 1, 8, (.pointer none), false⟩
theorem tiOk92 : TIOk Try.prog 92 ti92 := TIOk.of (by kernel_rfl) rfl (by kernel_rfl)
theorem cmpOk92 : ti92.cmp = true → structCmpB Try.prog 92 = true := fun h => by cases h
def ti90 : TI := ⟨(.slice 96), false, 1, 24, (.slice none 0 0), false⟩
theorem tiOk90 : TIOk Try.prog 90 ti90 := TIOk.of (by kernel_rfl) rfl (by kernel_rfl)
theorem cmpOk90 : ti90.cmp = true → structCmpB Try.prog 90 = true := fun h => by cases h
def ti96 : TI := ⟨(.struct #[⟨"Author", 3, 0, false, "", "", 0⟩, ⟨"Seq", 3, 1, false, "", "", 8⟩, ⟨"Causes", 36, 2, false, "", "", 16⟩, ⟨"Kind", 3, 3, false, "", "", 40⟩, ⟨"Group", 3, 4, false, "", "", 48⟩, ⟨"Target", 3, 5, false, "", "", 56⟩, ⟨"Quote", 3, 6, false, "", "", 64⟩, ⟨"Who", 3, 7, false, "", "", 72⟩, ⟨"N", 3, 8, false, "", "", 80⟩, ⟨"Text", 9, 9, false, "", "", 88⟩, ⟨"Files", 36, 10, false, "", "", 104⟩, ⟨"Step", 3, 11, false, "", "", 128⟩]), true, 12, 136, (.agg #[(.int .i64 0), (.int .i64 0), (.slice none 0 0), (.int .i64 0), (.int .i64 0), (.int .i64 0), (.int .i64 0), (.int .i64 0), (.int .i64 0), (.string ⟨#[]⟩), (.slice none 0 0), (.int .i64 0)]), false⟩
theorem tiOk96 : TIOk Try.prog 96 ti96 := TIOk.of (by kernel_rfl) rfl (by kernel_rfl)
theorem cmpOk96 : ti96.cmp = true → structCmpB Try.prog 96 = true := fun h => by cases h
def ti105 : TI := ⟨(.slice 36), false, 1, 24, (.slice none 0 0), false⟩
theorem tiOk105 : TIOk Try.prog 105 ti105 := TIOk.of (by kernel_rfl) rfl (by kernel_rfl)
theorem cmpOk105 : ti105.cmp = true → structCmpB Try.prog 105 = true := fun h => by cases h
def ti109 : TI := ⟨(.slice 29), false, 1, 24, (.slice none 0 0), false⟩
theorem tiOk109 : TIOk Try.prog 109 ti109 := TIOk.of (by kernel_rfl) rfl (by kernel_rfl)
theorem cmpOk109 : ti109.cmp = true → structCmpB Try.prog 109 = true := fun h => by cases h
def ti114 : TI := ⟨(.pointer 119), false, 1, 8, (.pointer none), false⟩
theorem tiOk114 : TIOk Try.prog 114 ti114 := TIOk.of (by kernel_rfl) rfl (by kernel_rfl)
theorem cmpOk114 : ti114.cmp = true → structCmpB Try.prog 114 = true := fun h => by cases h
def ti119 : TI := ⟨(.struct #[⟨"L", 90, 0, false, "", "", 0⟩]), true, 1, 24, (.agg #[(.slice none 0 0)]), false⟩
theorem tiOk119 : TIOk Try.prog 119 ti119 := TIOk.of (by kernel_rfl) rfl (by kernel_rfl)
theorem cmpOk119 : ti119.cmp = true → structCmpB Try.prog 119 = true := fun h => by cases h
def ti126 : TI := ⟨(.map 128 4), false, 1, 8, (.map none), false⟩
theorem tiOk126 : TIOk Try.prog 126 ti126 := TIOk.of (by kernel_rfl) rfl (by kernel_rfl)
theorem cmpOk126 : ti126.cmp = true → structCmpB Try.prog 126 = true := fun h => by cases h
def ti128 : TI := ⟨(.struct #[⟨"message", 3, 0, false, "", "lingua/receipt", 0⟩, ⟨"who", 3, 1, false, "", "lingua/receipt", 8⟩]), true, 2, 16, (.agg #[(.int .i64 0), (.int .i64 0)]), true⟩
theorem tiOk128 : TIOk Try.prog 128 ti128 := TIOk.of (by kernel_rfl) rfl (by kernel_rfl)
theorem cmpOk128 : ti128.cmp = true → structCmpB Try.prog 128 = true := fun _ => by kernel_rfl
def ti135 : TI := ⟨(.struct #[⟨"message", 3, 0, false, "", "lingua/levels", 0⟩, ⟨"who", 3, 1, false, "", "lingua/levels", 8⟩]), true, 2, 16, (.agg #[(.int .i64 0), (.int .i64 0)]), true⟩
theorem tiOk135 : TIOk Try.prog 135 ti135 := TIOk.of (by kernel_rfl) rfl (by kernel_rfl)
theorem cmpOk135 : ti135.cmp = true → structCmpB Try.prog 135 = true := fun _ => by kernel_rfl
def ti145 : TI := ⟨(.map 172 3), false, 1, 8, (.map none), false⟩
theorem tiOk145 : TIOk Try.prog 145 ti145 := TIOk.of (by kernel_rfl) rfl (by kernel_rfl)
theorem cmpOk145 : ti145.cmp = true → structCmpB Try.prog 145 = true := fun h => by cases h
def ti151 : TI := ⟨(.struct #[⟨"uses", 145, 0, false, "", "lingua/chunk", 0⟩, ⟨"tenants", 149, 1, false, "", "lingua/chunk", 8⟩]), true, 25, 200, (.agg #[(.map none), (.map none), (.int .i64 0), (.map none), (.int .i64 0), (.map none), (.int .i64 0), (.map none), (.int .i64 0), (.map none), (.int .i64 0), (.map none), (.int .i64 0), (.map none), (.int .i64 0), (.map none), (.int .i64 0), (.map none), (.int .i64 0), (.map none), (.int .i64 0), (.map none), (.int .i64 0), (.map none), (.int .i64 0)]), false⟩
theorem tiOk151 : TIOk Try.prog 151 ti151 := TIOk.of (by kernel_rfl) rfl (by kernel_rfl)
theorem cmpOk151 : ti151.cmp = true → structCmpB Try.prog 151 = true := fun h => by cases h
def ti146 : TI := ⟨(.map 3 159), false, 1, 8, (.map none), false⟩
theorem tiOk146 : TIOk Try.prog 146 ti146 := TIOk.of (by kernel_rfl) rfl (by kernel_rfl)
theorem cmpOk146 : ti146.cmp = true → structCmpB Try.prog 146 = true := fun h => by cases h
def ti149 : TI := ⟨(.array 12 148), true, 24, 192, (.agg #[(.map none), (.int .i64 0), (.map none), (.int .i64 0), (.map none), (.int .i64 0), (.map none), (.int .i64 0), (.map none), (.int .i64 0), (.map none), (.int .i64 0), (.map none), (.int .i64 0), (.map none), (.int .i64 0), (.map none), (.int .i64 0), (.map none), (.int .i64 0), (.map none), (.int .i64 0), (.map none), (.int .i64 0)]), false⟩
theorem tiOk149 : TIOk Try.prog 149 ti149 := TIOk.of (by kernel_rfl) rfl (by kernel_rfl)
theorem cmpOk149 : ti149.cmp = true → structCmpB Try.prog 149 = true := fun h => by cases h
def ti148 : TI := ⟨(.struct #[⟨"files", 146, 0, false, "", "lingua/chunk", 0⟩, ⟨"next", 3, 1, false, "", "lingua/chunk", 8⟩]), true, 2, 16, (.agg #[(.map none), (.int .i64 0)]), false⟩
theorem tiOk148 : TIOk Try.prog 148 ti148 := TIOk.of (by kernel_rfl) rfl (by kernel_rfl)
theorem cmpOk148 : ti148.cmp = true → structCmpB Try.prog 148 = true := fun h => by cases h
def ti154 : TI := ⟨(.struct #[⟨"Files", 152, 0, false, "", "", 0⟩, ⟨"Given", 36, 1, false, "", "", 24⟩]), true, 2, 48, (.agg #[(.slice none 0 0), (.slice none 0 0)]), false⟩
theorem tiOk154 : TIOk Try.prog 154 ti154 := TIOk.of (by kernel_rfl) rfl (by kernel_rfl)
theorem cmpOk154 : ti154.cmp = true → structCmpB Try.prog 154 = true := fun h => by cases h
def ti152 : TI := ⟨(.slice 161), false, 1, 24, (.slice none 0 0), false⟩
theorem tiOk152 : TIOk Try.prog 152 ti152 := TIOk.of (by kernel_rfl) rfl (by kernel_rfl)
theorem cmpOk152 : ti152.cmp = true → structCmpB Try.prog 152 = true := fun h => by cases h
def ti161 : TI := ⟨(.struct #[⟨"Tenant", 3, 0, false, "", "", 0⟩, ⟨"Name", 3, 1, false, "", "", 8⟩, ⟨"Text", 9, 2, false, "", "", 16⟩]), true, 3, 32, (.agg #[(.int .i64 0), (.int .i64 0), (.string ⟨#[]⟩)]), true⟩
theorem tiOk161 : TIOk Try.prog 161 ti161 := TIOk.of (by kernel_rfl) rfl (by kernel_rfl)
theorem cmpOk161 : ti161.cmp = true → structCmpB Try.prog 161 = true := fun _ => by kernel_rfl
def ti159 : TI := ⟨(.slice 172), false, 1, 24, (.slice none 0 0), false⟩
theorem tiOk159 : TIOk Try.prog 159 ti159 := TIOk.of (by kernel_rfl) rfl (by kernel_rfl)
theorem cmpOk159 : ti159.cmp = true → structCmpB Try.prog 159 = true := fun h => by cases h
def ti172 : TI := ⟨(.struct #[⟨"n", 3, 0, false, "", "lingua/chunk", 0⟩, ⟨"bytes", 170, 1, false, "", "lingua/chunk", 8⟩]), true, 33, 40, (.agg #[(.int .i64 0), (.int .u8 0), (.int .u8 0), (.int .u8 0), (.int .u8 0), (.int .u8 0), (.int .u8 0), (.int .u8 0), (.int .u8 0), (.int .u8 0), (.int .u8 0), (.int .u8 0), (.int .u8 0), (.int .u8 0), (.int .u8 0), (.int .u8 0), (.int .u8 0), (.int .u8 0), (.int .u8 0), (.int .u8 0), (.int .u8 0), (.int .u8 0), (.int .u8 0), (.int .u8 0), (.int .u8 0), (.int .u8 0), (.int .u8 0), (.int .u8 0), (.int .u8 0), (.int .u8 0), (.int .u8 0), (.int .u8 0), (.int .u8 0)]), true⟩
theorem tiOk172 : TIOk Try.prog 172 ti172 := TIOk.of (by kernel_rfl) rfl (by kernel_rfl)
theorem cmpOk172 : ti172.cmp = true → structCmpB Try.prog 172 = true := fun _ => by kernel_rfl
def ti179 : TI := ⟨(.map 3 36), false, 1, 8, (.map none), false⟩
theorem tiOk179 : TIOk Try.prog 179 ti179 := TIOk.of (by kernel_rfl) rfl (by kernel_rfl)
theorem cmpOk179 : ti179.cmp = true → structCmpB Try.prog 179 = true := fun h => by cases h
def ti180 : TI := ⟨(.map 3 4), false, 1, 8, (.map none), false⟩
theorem tiOk180 : TIOk Try.prog 180 ti180 := TIOk.of (by kernel_rfl) rfl (by kernel_rfl)
theorem cmpOk180 : ti180.cmp = true → structCmpB Try.prog 180 = true := fun h => by cases h
def ti182 : TI := ⟨(.struct #[⟨"events", 90, 0, false, "", "lingua/conv", 0⟩, ⟨"own", 179, 1, false, "", "lingua/conv", 24⟩, ⟨"deleted", 180, 2, false, "", "lingua/conv", 32⟩]), true, 3, 40, (.agg #[(.slice none 0 0), (.map none), (.map none)]), false⟩
theorem tiOk182 : TIOk Try.prog 182 ti182 := TIOk.of (by kernel_rfl) rfl (by kernel_rfl)
theorem cmpOk182 : ti182.cmp = true → structCmpB Try.prog 182 = true := fun h => by cases h
def ti188 : TI := ⟨(.slice 4), false, 1, 24, (.slice none 0 0), false⟩
theorem tiOk188 : TIOk Try.prog 188 ti188 := TIOk.of (by kernel_rfl) rfl (by kernel_rfl)
theorem cmpOk188 : ti188.cmp = true → structCmpB Try.prog 188 = true := fun h => by cases h
def ti192 : TI := ⟨(.int .u64), false, 1, 8, (.int .u64 0), false⟩
theorem tiOk192 : TIOk Try.prog 192 ti192 := TIOk.of (by kernel_rfl) rfl (by kernel_rfl)
theorem cmpOk192 : ti192.cmp = true → structCmpB Try.prog 192 = true := fun h => by cases h
def ti142 : TI := ⟨(.slice 196), false, 1, 24, (.slice none 0 0), false⟩
theorem tiOk142 : TIOk Try.prog 142 ti142 := TIOk.of (by kernel_rfl) rfl (by kernel_rfl)
theorem cmpOk142 : ti142.cmp = true → structCmpB Try.prog 142 = true := fun h => by cases h
def ti196 : TI := ⟨(.struct #[⟨"message", 3, 0, false, "", "lingua/know", 0⟩, ⟨"who", 3, 1, false, "", "lingua/know", 8⟩]), true, 2, 16, (.agg #[(.int .i64 0), (.int .i64 0)]), true⟩
theorem tiOk196 : TIOk Try.prog 196 ti196 := TIOk.of (by kernel_rfl) rfl (by kernel_rfl)
theorem cmpOk196 : ti196.cmp = true → structCmpB Try.prog 196 = true := fun _ => by kernel_rfl
def ti199 : TI := ⟨(.struct #[⟨"nodes", 3, 0, false, "", "lingua/know", 0⟩, ⟨"pairs", 142, 1, false, "", "lingua/know", 8⟩]), true, 2, 32, (.agg #[(.int .i64 0), (.slice none 0 0)]), false⟩
theorem tiOk199 : TIOk Try.prog 199 ti199 := TIOk.of (by kernel_rfl) rfl (by kernel_rfl)
theorem cmpOk199 : ti199.cmp = true → structCmpB Try.prog 199 = true := fun h => by cases h
def ti53 : TI := ⟨(.func #[50] #[4] false), false, 1, 8, .nilFunc, false⟩
theorem tiOk53 : TIOk Try.prog 53 ti53 := TIOk.of (by kernel_rfl) rfl (by kernel_rfl)
theorem cmpOk53 : ti53.cmp = true → structCmpB Try.prog 53 = true := fun h => by cases h
def ti207 : TI := ⟨(.struct #[⟨"addr", 204, 0, false, "", "strings", 0⟩, ⟨"buf", 205, 1, false, "", "strings", 8⟩]), true, 2, 32, (.agg #[(.pointer none), (.slice none 0 0)]), false⟩
theorem tiOk207 : TIOk Try.prog 207 ti207 := TIOk.of (by kernel_rfl) rfl (by kernel_rfl)
theorem cmpOk207 : ti207.cmp = true → structCmpB Try.prog 207 = true := fun h => by cases h
def ti170 : TI := ⟨(.array 32 5), true, 32, 32, (.agg #[(.int .u8 0), (.int .u8 0), (.int .u8 0), (.int .u8 0), (.int .u8 0), (.int .u8 0), (.int .u8 0), (.int .u8 0), (.int .u8 0), (.int .u8 0), (.int .u8 0), (.int .u8 0), (.int .u8 0), (.int .u8 0), (.int .u8 0), (.int .u8 0), (.int .u8 0), (.int .u8 0), (.int .u8 0), (.int .u8 0), (.int .u8 0), (.int .u8 0), (.int .u8 0), (.int .u8 0), (.int .u8 0), (.int .u8 0), (.int .u8 0), (.int .u8 0), (.int .u8 0), (.int .u8 0), (.int .u8 0), (.int .u8 0)]), false⟩
theorem tiOk170 : TIOk Try.prog 170 ti170 := TIOk.of (by kernel_rfl) rfl (by kernel_rfl)
theorem cmpOk170 : ti170.cmp = true → structCmpB Try.prog 170 = true := fun h => by cases h
def ti205 : TI := ⟨(.slice 5), false, 1, 24, (.slice none 0 0), false⟩
theorem tiOk205 : TIOk Try.prog 205 ti205 := TIOk.of (by kernel_rfl) rfl (by kernel_rfl)
theorem cmpOk205 : ti205.cmp = true → structCmpB Try.prog 205 = true := fun h => by cases h
def ti219 : TI := ⟨(.int .i64), false, 1, 8, (.int .i64 0), false⟩
theorem tiOk219 : TIOk Try.prog 219 ti219 := TIOk.of (by kernel_rfl) rfl (by kernel_rfl)
theorem cmpOk219 : ti219.cmp = true → structCmpB Try.prog 219 = true := fun h => by cases h
def ti227 : TI := ⟨(.int .u32), false, 1, 4, (.int .u32 0), false⟩
theorem tiOk227 : TIOk Try.prog 227 ti227 := TIOk.of (by kernel_rfl) rfl (by kernel_rfl)
theorem cmpOk227 : ti227.cmp = true → structCmpB Try.prog 227 = true := fun h => by cases h
def ti235 : TI := ⟨(.pointer 5), false, 1, 8, (.pointer none), false⟩
theorem tiOk235 : TIOk Try.prog 235 ti235 := TIOk.of (by kernel_rfl) rfl (by kernel_rfl)
theorem cmpOk235 : ti235.cmp = true → structCmpB Try.prog 235 = true := fun h => by cases h
def ti204 : TI := ⟨(.pointer 207), false, 1, 8, (.pointer none), false⟩
theorem tiOk204 : TIOk Try.prog 204 ti204 := TIOk.of (by kernel_rfl) rfl (by kernel_rfl)
theorem cmpOk204 : ti204.cmp = true → structCmpB Try.prog 204 = true := fun h => by cases h
def ti5 : TI := ⟨(.int .u8), false, 1, 1, (.int .u8 0), false⟩
theorem tiOk5 : TIOk Try.prog 5 ti5 := TIOk.of (by kernel_rfl) rfl (by kernel_rfl)
theorem cmpOk5 : ti5.cmp = true → structCmpB Try.prog 5 = true := fun h => by cases h
def T : List (Nat × TI) := [(24, ti24), (27, ti27), (22, ti22), (3, ti3), (29, ti29), (4, ti4), (36, ti36), (50, ti50), (48, ti48), (68, ti68), (66, ti66), (76, ti76), (73, ti73), (25, ti25), (9, ti9), (88, ti88), (92, ti92), (90, ti90), (96, ti96), (105, ti105), (109, ti109), (114, ti114), (119, ti119), (126, ti126), (128, ti128), (135, ti135), (145, ti145), (151, ti151), (146, ti146), (149, ti149), (148, ti148), (154, ti154), (152, ti152), (161, ti161), (159, ti159), (172, ti172), (179, ti179), (180, ti180), (182, ti182), (188, ti188), (192, ti192), (142, ti142), (196, ti196), (199, ti199), (53, ti53), (207, ti207), (170, ti170), (205, ti205), (219, ti219), (227, ti227), (235, ti235), (204, ti204), (5, ti5)]
theorem mixedOk : Try.prog.follows .mixedOrders = true := by kernel_rfl
theorem tabOk : TabOk Try.prog T := ⟨⟨tiOk24, cmpOk24⟩, ⟨tiOk27, cmpOk27⟩, ⟨tiOk22, cmpOk22⟩, ⟨tiOk3, cmpOk3⟩, ⟨tiOk29, cmpOk29⟩, ⟨tiOk4, cmpOk4⟩, ⟨tiOk36, cmpOk36⟩, ⟨tiOk50, cmpOk50⟩, ⟨tiOk48, cmpOk48⟩, ⟨tiOk68, cmpOk68⟩, ⟨tiOk66, cmpOk66⟩, ⟨tiOk76, cmpOk76⟩, ⟨tiOk73, cmpOk73⟩, ⟨tiOk25, cmpOk25⟩, ⟨tiOk9, cmpOk9⟩, ⟨tiOk88, cmpOk88⟩, ⟨tiOk92, cmpOk92⟩, ⟨tiOk90, cmpOk90⟩, ⟨tiOk96, cmpOk96⟩, ⟨tiOk105, cmpOk105⟩, ⟨tiOk109, cmpOk109⟩, ⟨tiOk114, cmpOk114⟩, ⟨tiOk119, cmpOk119⟩, ⟨tiOk126, cmpOk126⟩, ⟨tiOk128, cmpOk128⟩, ⟨tiOk135, cmpOk135⟩, ⟨tiOk145, cmpOk145⟩, ⟨tiOk151, cmpOk151⟩, ⟨tiOk146, cmpOk146⟩, ⟨tiOk149, cmpOk149⟩, ⟨tiOk148, cmpOk148⟩, ⟨tiOk154, cmpOk154⟩, ⟨tiOk152, cmpOk152⟩, ⟨tiOk161, cmpOk161⟩, ⟨tiOk159, cmpOk159⟩, ⟨tiOk172, cmpOk172⟩, ⟨tiOk179, cmpOk179⟩, ⟨tiOk180, cmpOk180⟩, ⟨tiOk182, cmpOk182⟩, ⟨tiOk188, cmpOk188⟩, ⟨tiOk192, cmpOk192⟩, ⟨tiOk142, cmpOk142⟩, ⟨tiOk196, cmpOk196⟩, ⟨tiOk199, cmpOk199⟩, ⟨tiOk53, cmpOk53⟩, ⟨tiOk207, cmpOk207⟩, ⟨tiOk170, cmpOk170⟩, ⟨tiOk205, cmpOk205⟩, ⟨tiOk219, cmpOk219⟩, ⟨tiOk227, cmpOk227⟩, ⟨tiOk235, cmpOk235⟩, ⟨tiOk204, cmpOk204⟩, ⟨tiOk5, cmpOk5⟩, mixedOk⟩
end Go.Proofs.Ytnookbebiacaeaa
end
