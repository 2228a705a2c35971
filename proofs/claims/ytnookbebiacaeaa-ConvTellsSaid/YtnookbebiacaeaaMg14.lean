/-
  Several texts in one: So, Cv1, Cv2, Cv3, Cv4, Cv5.
-/
import Derived.Shelf.SortM.Plain
import Derived.Shelf.SortM.SortNone
import Derived.Test.YtnookbebiacaeaaMg13

section
/-
  Numbers sorted: the kit's contract on slices.Sort, laid at this program.
-/
namespace Go.Proofs.Ytnookbebiacaeaa
open Go.Eng Go.RowKit Go.Maps Go.Sort Go.Shelf

def sortA_ren : Go.Shelf.Ren := ⟨fun | 5 => 146 | 8 => 158 | 7 => 185 | 19 => 198 | 20 => 199 | 10 => 208 | 11 => 209 | 12 => 210 | 13 => 211 | 14 => 212 | 15 => 213 | 16 => 214 | 17 => 215 | 18 => 216 | 30 => 233 | 31 => 219 | 32 => 220 | 33 => 234 | 34 => 235 | 35 => 159 | 40 => 241 | n => n, fun | 23 => 36 | 25 => 3 | 3 => 3 | 32 => 192 | 22 => 36 | 0 => 0 | 44 => 227 | 46 => 229 | 4 => 4 | 36 => 220 | 35 => 219 | 41 => 224 | 5 => 5 | 9 => 9 | 53 => 243 | 57 => 247 | 63 => 259 | 64 => 140 | n => n, fun | n => n⟩
theorem sortA : Go.Proofs.SlLaysM.n5 Try.prog sortA_ren := {
  mixed := by kernel_rfl,
  f5 := ⟨Try.f146.name, by decide, Try.func146.trans (congrArg some (by kernel_rfl))⟩,
  f7 := ⟨Try.f185.name, by decide, Try.func185.trans (congrArg some (by kernel_rfl))⟩,
  f8 := Try.func158.trans (congrArg some (by kernel_rfl)),
  f10 := ⟨Try.f208.name, by decide, Try.func208.trans (congrArg some (by kernel_rfl))⟩,
  f11 := ⟨Try.f209.name, by decide, Try.func209.trans (congrArg some (by kernel_rfl))⟩,
  f12 := ⟨Try.f210.name, by decide, Try.func210.trans (congrArg some (by kernel_rfl))⟩,
  f13 := ⟨Try.f211.name, by decide, Try.func211.trans (congrArg some (by kernel_rfl))⟩,
  f14 := ⟨Try.f212.name, by decide, Try.func212.trans (congrArg some (by kernel_rfl))⟩,
  f15 := ⟨Try.f213.name, by decide, Try.func213.trans (congrArg some (by kernel_rfl))⟩,
  f16 := ⟨Try.f214.name, by decide, Try.func214.trans (congrArg some (by kernel_rfl))⟩,
  f17 := ⟨Try.f215.name, by decide, Try.func215.trans (congrArg some (by kernel_rfl))⟩,
  f18 := ⟨Try.f216.name, by decide, Try.func216.trans (congrArg some (by kernel_rfl))⟩,
  f19 := Try.func198.trans (congrArg some (by kernel_rfl)),
  f20 := Try.func199.trans (congrArg some (by kernel_rfl)),
  f30 := ⟨Try.f233.name, by decide, Try.func233.trans (congrArg some (by kernel_rfl))⟩,
  f31 := Try.func219.trans (congrArg some (by kernel_rfl)),
  f32 := Try.func220.trans (congrArg some (by kernel_rfl)),
  f33 := ⟨Try.f234.name, by decide, Try.func234.trans (congrArg some (by kernel_rfl))⟩,
  f34 := ⟨Try.f235.name, by decide, Try.func235.trans (congrArg some (by kernel_rfl))⟩,
  f35 := ⟨Try.f159.name, by decide, Try.func159.trans (congrArg some (by kernel_rfl))⟩,
  f40 := ⟨Try.f241.name, by decide, Try.func241.trans (congrArg some (by kernel_rfl))⟩,
  t0 := Try.underlying0,
  a0 := Try.isAgg0,
  z0 := Try.sizeOf0,
  v0 := Try.zeroValue0,
  t3 := Try.underlying3,
  a3 := Try.isAgg3,
  z3 := Try.sizeOf3,
  v3 := Try.zeroValue3,
  t4 := Try.underlying4,
  a4 := Try.isAgg4,
  z4 := Try.sizeOf4,
  v4 := Try.zeroValue4,
  t5 := Try.underlying5,
  a5 := Try.isAgg5,
  z5 := Try.sizeOf5,
  v5 := Try.zeroValue5,
  t9 := Try.underlying9,
  a9 := Try.isAgg9,
  z9 := Try.sizeOf9,
  v9 := Try.zeroValue9,
  t22 := Try.underlying36,
  a22 := Try.isAgg36,
  z22 := Try.sizeOf36,
  v22 := Try.zeroValue36,
  t23 := Try.underlying36,
  a23 := Try.isAgg36,
  z23 := Try.sizeOf36,
  v23 := Try.zeroValue36,
  t25 := Try.underlying3,
  a25 := Try.isAgg3,
  z25 := Try.sizeOf3,
  v25 := Try.zeroValue3,
  t32 := Try.underlying192,
  a32 := Try.isAgg192,
  z32 := Try.sizeOf192,
  v32 := Try.zeroValue192,
  t35 := Try.underlying219,
  a35 := Try.isAgg219,
  z35 := Try.sizeOf219,
  v35 := Try.zeroValue219,
  t36 := Try.underlying220,
  a36 := Try.isAgg220,
  z36 := Try.sizeOf220,
  v36 := Try.zeroValue220,
  t41 := Try.underlying224,
  a41 := Try.isAgg224,
  z41 := Try.sizeOf224,
  v41 := Try.zeroValue224,
  t44 := Try.underlying227,
  a44 := Try.isAgg227,
  z44 := Try.sizeOf227,
  v44 := Try.zeroValue227,
  t46 := Try.underlying229,
  a46 := Try.isAgg229,
  z46 := Try.sizeOf229,
  v46 := Try.zeroValue229,
  t53 := Try.underlying243,
  a53 := Try.isAgg243,
  z53 := Try.sizeOf243,
  v53 := Try.zeroValue243,
  t57 := Try.underlying247,
  a57 := Try.isAgg247,
  z57 := Try.sizeOf247,
  v57 := Try.zeroValue247,
  t63 := Try.underlying259,
  a63 := Try.isAgg259,
  z63 := Try.sizeOf259,
  v63 := Try.zeroValue259,
  t64 := Try.underlying140,
  a64 := Try.isAgg140,
  z64 := Try.sizeOf140,
  v64 := Try.zeroValue140 }
theorem sortsRow : SortsRow Try.prog 146 :=
  ⟨⟨_, Try.func146, by kernel_rfl, rfl⟩, fun blk off cap ss W hH hblk hsz => AnyM.slices_Sort_int sortA blk off cap ss W hH hblk hsz, fun p cap W => AnyM.slices_Sort_int_none sortA p cap W⟩
end Go.Proofs.Ytnookbebiacaeaa
end

section
/-
  Conversations: events, lists of numbers, copies.
-/
namespace Go.Proofs.Ytnookbebiacaeaa
open Go.Eng

/-- An event. -/
structure Ev where
  a : Int
  s : Int
  cs : List Int
  k : Int
  g : Int
  t : Int
  q : Int
  w : Int
  n : Int
  x : ByteArray
  fs : List Int
  st : Int
deriving DecidableEq
def noB : ByteArray := ⟨#[]⟩
def dE : Ev := ⟨0, 0, [], 0, 0, 0, 0, 0, 0, noB, [], 0⟩
def rI (l : List Int) (k : Nat) : List AV := [.i .i64 (l.getD k 0)]
def Ev.av (e : Ev) : List AV := [.i .i64 e.a, .i .i64 e.s, .rs 1 e.cs.length (rI e.cs), .i .i64 e.k, .i .i64 e.g, .i .i64 e.t, .i .i64 e.q, .i .i64 e.w, .i .i64 e.n, .s e.x, .rs 1 e.fs.length (rI e.fs), .i .i64 e.st]
def rE (l : List Ev) (k : Nat) : List AV := (l.getD k dE).av
theorem gdI {α : Type} {l : List α} {d : α} {k : Nat} (h : k < l.length) : l.getD k d = l[k] := by simp [List.getD, h]

theorem below_fn (n e : Int) : Ctr Try.prog 139 [.i .i64 n, .i .i64 e] [] (.b (decide (0 ≤ n) && decide (n < e))) := by
  refine fn_of_exec tabOk Try.func139 (by kernel_rfl) rfl (N := Try.f139.ntmps) rfl (res := [.tmp 4]) rfl rfl [] ?_
  exact RetIs.b rfl
theorem to_fn (n e : Int) : Ctr Try.prog 187 [.i .i64 n, .i .i64 e] [] (.b (decide (n ≥ 0) && decide (n ≤ e))) := by
  refine fn_of_exec tabOk Try.func187 (by kernel_rfl) rfl (N := Try.f187.ntmps) rfl (res := [.tmp 4]) rfl rfl [] ?_
  exact RetIs.b rfl
theorem maybe_fn (n e : Int) : Ctr Try.prog 180 [.i .i64 n, .i .i64 e] [] (.b ((n == -1) || (decide (0 ≤ n) && decide (n < e)))) := by
  refine fn_of_exec tabOk Try.func180 (by kernel_rfl) rfl (N := Try.f180.ntmps) rfl (res := [.tmp 4]) rfl rfl [] ?_
  repeat refine Or.inl ?_
  refine ⟨[], _, fun _ => below_fn n e, ?_⟩
  exact RetIs.b rfl
theorem RetA.rsI {l : List Int} {n : Nat} {g : Nat → List AV} {O : List OE} {nid : Nat} (hn : n = l.length) (hg : ∀ k, k < l.length → g k = rI l k) : RetA (.rs 1 l.length (rI l)) (.rs 1 n g) O nid := ⟨rfl, rfl, hn, hg⟩
set_option maxRecDepth 20000 in
theorem clone_fnI (l : List Int) (hl : l.length * 8 ≤ 140737488355328) : CtrA Try.prog 144 [.rs 1 l.length (rI l)] (.rs 1 l.length (rI l)) := by
  refine fn_of_execA tabOk Try.func144 (by kernel_rfl) rfl (N := Try.f144.ntmps) rfl (res := [.tmp 2]) rfl rfl [(1000003, [.frz 2 [1]])] ?_
  repeat refine Or.inl ?_
  intro c hc
  refine ⟨fun h => ?_, fun h => ?_⟩
  · have h : (c == true) = true := h
    have hl0 := hc (by cases c <;> first | rfl | cases h)
    exact ⟨rfl, hl0, rfl⟩
  · repeat refine Or.inl ?_
    refine ⟨by show (0 + _) * 8 ≤ _; omega, ?_⟩
    refine RetA.rsI (by omega) fun k hk => ?_
    unfold catG
    simp
set_option maxRecDepth 20000 in
theorem cloneE_fn (e : Ev) (h1 : e.cs.length * 8 ≤ 140737488355328) (h2 : e.fs.length * 8 ≤ 140737488355328) : CtrA Try.prog 138 [.ag e.av] (.ag e.av) := by
  refine fn_of_execA tabOk Try.func138 (by kernel_rfl) rfl (N := Try.f138.ntmps) rfl (res := [.cell 2 96]) rfl rfl [] ?_
  refine Or.inr ?_
  refine ⟨_, clone_fnI e.cs h1, ?_⟩
  refine Or.inr ?_
  refine ⟨_, clone_fnI e.fs h2, ?_⟩
  exact ⟨rfl, AVEq.refl (.ag e.av)⟩
def eqU {α : Type} (d : α) (a b : List α) (k : Nat) : Prop := ∀ j, j < k → a.getD j d = b.getD j d
theorem eqU_all {α : Type} {d : α} {a b : List α} (hl : a.length = b.length) (h : eqU d a b a.length) : a = b := by
  refine List.ext_getElem hl fun j h1 h2 => ?_
  have := h j h1
  simp only [List.getD, List.getElem?_eq_getElem h1, List.getElem?_eq_getElem h2, Option.getD_some] at this
  exact this
set_option maxRecDepth 20000 in
theorem equal_fn (a b : List Int) (ha : a.length < 2^62) (hb : b.length < 2^62) : Ctr Try.prog 181 [.rs 1 a.length (rI a), .rs 1 b.length (rI b)] [] (.b (decide (a = b))) := by
  refine fn_of_exec tabOk Try.func181 (by kernel_rfl) rfl (N := Try.f181.ntmps) rfl (res := [.tmp 4]) rfl rfl [] ?_
  refine .inl ⟨fun h => ?_, fun h => ?_⟩
  · refine RetIs.b ?_
    have h : ((a.length : Int) != b.length) = true := h
    simp at h
    simp
    intro he
    exact h (by rw [he])
  have h : ((a.length : Int) != b.length) = false := h
  simp at h
  have hl : a.length = b.length := by omega
  refine .inl ⟨[], Nat, fun k => k ≤ a.length ∧ eqU 0 a b k, fun k => [⟨13, [], .i .i64 k⟩], fun _ => [], fun k => a.length - k,
    ⟨0, [], ⟨Nat.zero_le _, fun j hj => by omega⟩, rfl, rfl, rfl, rfl, rfl, ⟨rfl, rfl⟩, trivial⟩, ?_⟩
  rintro k ⟨hk, he⟩
  refine .inl ⟨fun hc => ?_, fun hc => ?_⟩
  · have hc := dlt hc
    have hc : (k : Int) < a.length := hc
    repeat refine Or.inl ?_
    refine ⟨⟨by omega, by omega⟩, ?_⟩
    refine ⟨⟨by omega, by omega⟩, ?_⟩
    refine ⟨fun h2 => ?_, fun h2 => ?_⟩
    · refine RetIs.b ?_
      have h2 : (a.getD (k : Int).toNat 0 != b.getD (k : Int).toNat 0) = true := h2
      rw [Int.toNat_natCast] at h2
      simp only [bne_iff_ne] at h2
      symm
      rw [decide_eq_false_iff_not]
      rintro rfl
      exact h2 rfl
    · have h2 : (a.getD (k : Int).toNat 0 != b.getD (k : Int).toNat 0) = false := h2
      rw [Int.toNat_natCast] at h2
      have h3 : a.getD k 0 = b.getD k 0 := by simpa using h2
      refine ⟨k + 1, [], ⟨by omega, fun j hj => ?_⟩, by dsimp only; omega, rfl, rfl, rfl, rfl, rfl, ⟨rfl, wr (by omega) (by omega)⟩, trivial⟩
      by_cases hjk : j = k
      · rw [hjk]; exact h3
      · exact he j (by omega)
  · have hc := dnlt hc
    refine RetIs.b ?_
    have hk2 : k = a.length := by omega
    subst hk2
    simp [eqU_all hl he]
set_option maxRecDepth 20000 in
theorem ints63_fn (a b : List Int) (ha : a.length < 2^62) (hb : b.length < 2^62) : Ctr Try.prog 63 [.rs 1 a.length (rI a), .rs 1 b.length (rI b)] [] (.b (decide (a = b))) := by
  refine fn_of_exec tabOk Try.func63 (by kernel_rfl) rfl (N := Try.f63.ntmps) rfl (res := [.tmp 4]) rfl rfl [] ?_
  refine .inl ⟨fun h => ?_, fun h => ?_⟩
  · refine RetIs.b ?_
    have h : ((a.length : Int) != b.length) = true := h
    simp at h
    simp
    intro he
    exact h (by rw [he])
  have h : ((a.length : Int) != b.length) = false := h
  simp at h
  have hl : a.length = b.length := by omega
  refine .inl ⟨[], Nat, fun k => k ≤ a.length ∧ eqU 0 a b k, fun k => [⟨5, [], .i .i64 k⟩], fun _ => [], fun k => a.length - k,
    ⟨0, [], ⟨Nat.zero_le _, fun j hj => by omega⟩, rfl, rfl, rfl, rfl, rfl, ⟨rfl, rfl⟩, trivial⟩, ?_⟩
  rintro k ⟨hk, he⟩
  refine .inl ⟨fun hc => ?_, fun hc => ?_⟩
  · have hc := dlt hc
    have hc : (k : Int) < a.length := hc
    repeat refine Or.inl ?_
    refine ⟨⟨by omega, by omega⟩, ?_⟩
    refine ⟨⟨by omega, by omega⟩, ?_⟩
    refine ⟨fun h2 => ?_, fun h2 => ?_⟩
    · refine RetIs.b ?_
      have h2 : (a.getD (k : Int).toNat 0 != b.getD (k : Int).toNat 0) = true := h2
      rw [Int.toNat_natCast] at h2
      simp only [bne_iff_ne] at h2
      symm
      rw [decide_eq_false_iff_not]
      rintro rfl
      exact h2 rfl
    · have h2 : (a.getD (k : Int).toNat 0 != b.getD (k : Int).toNat 0) = false := h2
      rw [Int.toNat_natCast] at h2
      have h3 : a.getD k 0 = b.getD k 0 := by simpa using h2
      refine ⟨k + 1, [], ⟨by omega, fun j hj => ?_⟩, by dsimp only; omega, rfl, rfl, rfl, rfl, rfl, ⟨rfl, wr (by omega) (by omega)⟩, trivial⟩
      by_cases hjk : j = k
      · rw [hjk]; exact h3
      · exact he j (by omega)
  · have hc := dnlt hc
    refine RetIs.b ?_
    have hk2 : k = a.length := by omega
    subst hk2
    simp [eqU_all hl he]
set_option maxRecDepth 20000 in
theorem ints82_fn (a b : List Int) (ha : a.length < 2^62) (hb : b.length < 2^62) : Ctr Try.prog 82 [.rs 1 a.length (rI a), .rs 1 b.length (rI b)] [] (.b (decide (a = b))) := by
  refine fn_of_exec tabOk Try.func82 (by kernel_rfl) rfl (N := Try.f82.ntmps) rfl (res := [.tmp 4]) rfl rfl [] ?_
  refine .inl ⟨fun h => ?_, fun h => ?_⟩
  · refine RetIs.b ?_
    have h : ((a.length : Int) != b.length) = true := h
    simp at h
    simp
    intro he
    exact h (by rw [he])
  have h : ((a.length : Int) != b.length) = false := h
  simp at h
  have hl : a.length = b.length := by omega
  refine .inl ⟨[], Nat, fun k => k ≤ a.length ∧ eqU 0 a b k, fun k => [⟨5, [], .i .i64 k⟩], fun _ => [], fun k => a.length - k,
    ⟨0, [], ⟨Nat.zero_le _, fun j hj => by omega⟩, rfl, rfl, rfl, rfl, rfl, ⟨rfl, rfl⟩, trivial⟩, ?_⟩
  rintro k ⟨hk, he⟩
  refine .inl ⟨fun hc => ?_, fun hc => ?_⟩
  · have hc := dlt hc
    have hc : (k : Int) < a.length := hc
    repeat refine Or.inl ?_
    refine ⟨⟨by omega, by omega⟩, ?_⟩
    refine ⟨⟨by omega, by omega⟩, ?_⟩
    refine ⟨fun h2 => ?_, fun h2 => ?_⟩
    · refine RetIs.b ?_
      have h2 : (a.getD (k : Int).toNat 0 != b.getD (k : Int).toNat 0) = true := h2
      rw [Int.toNat_natCast] at h2
      simp only [bne_iff_ne] at h2
      symm
      rw [decide_eq_false_iff_not]
      rintro rfl
      exact h2 rfl
    · have h2 : (a.getD (k : Int).toNat 0 != b.getD (k : Int).toNat 0) = false := h2
      rw [Int.toNat_natCast] at h2
      have h3 : a.getD k 0 = b.getD k 0 := by simpa using h2
      refine ⟨k + 1, [], ⟨by omega, fun j hj => ?_⟩, by dsimp only; omega, rfl, rfl, rfl, rfl, rfl, ⟨rfl, wr (by omega) (by omega)⟩, trivial⟩
      by_cases hjk : j = k
      · rw [hjk]; exact h3
      · exact he j (by omega)
  · have hc := dnlt hc
    refine RetIs.b ?_
    have hk2 : k = a.length := by omega
    subst hk2
    simp [eqU_all hl he]
/-- The first place of a number, or -1. -/
def idxI (l : List Int) (x : Int) : Int := match l.findIdx? (fun y => x == y) with | some k => k | none => -1
theorem idxI_some {l : List Int} {x : Int} {k : Nat} (hk : k < l.length) (h1 : ∀ j, j < k → (x == l.getD j 0) = false) (h2 : (x == l.getD k 0) = true) : idxI l x = k := by
  have : l.findIdx? (fun y => x == y) = some k := by
    rw [List.findIdx?_eq_some_iff_getElem]
    refine ⟨hk, by rw [← gdI (d := 0) hk]; exact h2, fun j hj => ?_⟩
    have := h1 j hj
    rw [gdI (by omega)] at this
    simp [this]
  simp [idxI, this]
theorem idxI_none {l : List Int} {x : Int} (h1 : ∀ j, j < l.length → (x == l.getD j 0) = false) : idxI l x = -1 := by
  have : l.findIdx? (fun y => x == y) = none := by
    rw [List.findIdx?_eq_none_iff]
    intro y hy
    obtain ⟨j, hj, rfl⟩ := List.getElem_of_mem hy
    have := h1 j hj
    rwa [gdI hj] at this
  simp [idxI, this]
theorem idxI_mem (l : List Int) (x : Int) : decide (idxI l x ≥ 0) = decide (x ∈ l) := by
  unfold idxI
  cases h : l.findIdx? (fun y => x == y) with
  | none =>
    rw [List.findIdx?_eq_none_iff] at h
    have : x ∉ l := fun hm => by have := h x hm; simp at this
    rw [decide_eq_false this]
    rfl
  | some k =>
    rw [List.findIdx?_eq_some_iff_getElem] at h
    obtain ⟨hk, hp, _⟩ := h
    have : x ∈ l := by
      rw [beq_iff_eq] at hp
      rw [hp]
      exact List.getElem_mem hk
    rw [decide_eq_true this]
    simp
set_option maxRecDepth 20000 in
theorem indexI_fn (l : List Int) (hl : l.length < 2^62) (x : Int) : Ctr Try.prog 186 [.rs 1 l.length (rI l), .i .i64 x] [] (.i .i64 (idxI l x)) := by
  refine fn_of_exec tabOk Try.func186 (by kernel_rfl) rfl (N := Try.f186.ntmps) rfl (res := [.tmp 4]) rfl rfl [] ?_
  repeat refine Or.inl ?_
  refine ⟨[], Nat, fun k => k ≤ l.length ∧ ∀ j, j < k → (x == l.getD j 0) = false, fun k => [⟨8, [], .i .i64 k⟩], fun _ => [], fun k => l.length - k,
    ⟨0, [], ⟨Nat.zero_le _, fun j hj => by omega⟩, rfl, rfl, rfl, rfl, rfl, ⟨rfl, rfl⟩, trivial⟩, ?_⟩
  rintro k ⟨hk, hno⟩
  have hk : k ≤ l.length := hk
  refine .inl ⟨fun hc => ?_, fun hc => ?_⟩
  · have hc := dlt hc
    have hc : (k : Int) < l.length := hc
    have ek : (k : Int).toNat = k := Int.toNat_natCast k
    repeat refine Or.inl ?_
    refine ⟨⟨by omega, by omega⟩, ?_⟩
    repeat refine Or.inl ?_
    refine ⟨fun h => ?_, fun h => ?_⟩
    · have h : (x == l.getD (k : Int).toNat 0) = true := h
      rw [ek] at h
      exact RetIs.i (idxI_some (by omega) hno h).symm
    · have h : (x == l.getD (k : Int).toNat 0) = false := h
      rw [ek] at h
      refine ⟨k + 1, [], ⟨by omega, fun j hj => ?_⟩, by dsimp only; omega, rfl, rfl, rfl, rfl, rfl, ⟨rfl, wr (by omega) (by omega)⟩, trivial⟩
      by_cases hjk : j = k
      · rw [hjk]; exact h
      · exact hno j (by omega)
  · have hc := dnlt hc
    have hc : (l.length : Int) ≤ k := hc
    obtain rfl : k = l.length := by omega
    exact RetIs.i (idxI_none hno).symm
set_option maxRecDepth 20000 in
theorem containsI_fn (l : List Int) (hl : l.length < 2^62) (x : Int) : Ctr Try.prog 147 [.rs 1 l.length (rI l), .i .i64 x] [] (.b (decide (x ∈ l))) := by
  refine fn_of_exec tabOk Try.func147 (by kernel_rfl) rfl (N := Try.f147.ntmps) rfl (res := [.tmp 4]) rfl rfl [] ?_
  repeat refine Or.inl ?_
  refine ⟨[], _, indexI_fn l hl x, ?_⟩
  exact RetIs.b (idxI_mem l x)
end Go.Proofs.Ytnookbebiacaeaa
end

section
/-
  Conversations: which events are right, which are alike, and bare ones: the program.
-/
namespace Go.Proofs.Ytnookbebiacaeaa
open Go.Eng

def sT : ByteArray := ⟨#[84, 97, 114, 103, 101, 116]⟩
def sQ : ByteArray := ⟨#[81, 117, 111, 116, 101]⟩
def sW : ByteArray := ⟨#[87, 104, 111]⟩
def sN : ByteArray := ⟨#[78]⟩
def sX : ByteArray := ⟨#[84, 101, 120, 116]⟩
def sF : ByteArray := ⟨#[70, 105, 108, 101, 115]⟩
def rS (l : List ByteArray) (k : Nat) : List AV := [.s (l.getD k noB)]
/-- The fields that a kind uses. -/
def usesS (k : Int) : List ByteArray :=
  if k = 0 then [sT, sQ, sW, sX, sF] else if k = 1 then [sT, sX, sF] else if k = 2 then [sT] else if k = 3 ∨ k = 4 then [sT, sN] else if k = 5 ∨ k = 7 then [sW] else if k = 9 then [sW, sN] else []
theorem usesS_len (k : Int) : (usesS k).length ≤ 5 := by
  unfold usesS
  repeat' split
  all_goals decide
theorem RetA.rsS {l l' : List ByteArray} (hl : l = l') {n : Nat} {g : Nat → List AV} {O : List OE} {nid : Nat} (hn : n = l'.length) (hg : ∀ k, k < l'.length → g k = rS l' k) : RetA (.rs 1 l.length (rS l)) (.rs 1 n g) O nid := by
  subst hl
  exact ⟨rfl, rfl, hn, hg⟩
theorem RetA.nilS {l : List ByteArray} (hl : l = []) {O : List OE} {nid : Nat} : RetA (.rs 1 l.length (rS l)) (.val (.slice none 0 0)) O nid := by
  subst hl
  exact ⟨rfl, rfl, rfl⟩
set_option maxRecDepth 20000 in
set_option maxHeartbeats 4000000 in
theorem Uses_fn (k : Int) : CtrA Try.prog 182 [.i .i64 k] (.rs 1 (usesS k).length (rS (usesS k))) := by
  refine fn_of_execA tabOk Try.func182 (by kernel_rfl) rfl (N := Try.f182.ntmps) rfl (res := [.tmp 2]) rfl rfl [(1000003, [.frz 2 [0]]), (1000005, [.frz 2 [0]]), (1000007, [.frz 2 [0]]), (1000010, [.frz 2 [0]]), (1000013, [.frz 2 [0]]), (1000015, [.frz 2 [0]])] ?_
  repeat refine Or.inl ?_
  refine ⟨fun h => ?_, fun h0 => ?_⟩
  · have h : (k == 0) = true := h
    rw [beq_iff_eq] at h
    refine RetA.rsS (l' := [sT, sQ, sW, sX, sF]) (by unfold usesS; rw [if_pos h]) rfl fun j hj => ?_
    match j, hj with
    | 0, _ => rfl
    | 1, _ => rfl
    | 2, _ => rfl
    | 3, _ => rfl
    | 4, _ => rfl
  have h0 : (k == 0) = false := h0
  rw [beq_eq_false_iff_ne] at h0
  repeat refine Or.inl ?_
  refine ⟨fun h => ?_, fun h1 => ?_⟩
  · have h : (k == 1) = true := h
    rw [beq_iff_eq] at h
    refine RetA.rsS (l' := [sT, sX, sF]) (by unfold usesS; rw [if_neg h0, if_pos h]) rfl fun j hj => ?_
    match j, hj with
    | 0, _ => rfl
    | 1, _ => rfl
    | 2, _ => rfl
  have h1 : (k == 1) = false := h1
  rw [beq_eq_false_iff_ne] at h1
  repeat refine Or.inl ?_
  refine ⟨fun h => ?_, fun h2 => ?_⟩
  · have h : (k == 2) = true := h
    rw [beq_iff_eq] at h
    refine RetA.rsS (l' := [sT]) (by unfold usesS; rw [if_neg h0, if_neg h1, if_pos h]) rfl fun j hj => ?_
    match j, hj with
    | 0, _ => rfl
  have h2 : (k == 2) = false := h2
  rw [beq_eq_false_iff_ne] at h2
  have two' : ∀ {p : Nat → Prop}, p 0 → p 1 → ∀ j, j < 2 → p j := fun h0 h1 j hj => by
    match j, hj with
    | 0, _ => exact h0
    | 1, _ => exact h1
  have one' : ∀ {p : Nat → Prop}, p 0 → ∀ j, j < 1 → p j := fun h0 j hj => by
    match j, hj with
    | 0, _ => exact h0
  repeat refine Or.inl ?_
  refine ⟨fun h3 => ?_, fun h3 => ?_⟩
  · have h3' : (k == 3) = true := h3
    rw [beq_iff_eq] at h3'
    repeat refine Or.inl ?_
    refine ⟨fun _ => ?_, fun h => ?_⟩
    · exact RetA.rsS (l' := [sT, sN]) (by unfold usesS; rw [if_neg h0, if_neg h1, if_neg h2, if_pos (.inl h3')]) rfl (two' rfl rfl)
    · have h : (k == 3) = false := h
      rw [beq_eq_false_iff_ne] at h
      exact absurd h3' h
  have h3 : (k == 3) = false := h3
  rw [beq_eq_false_iff_ne] at h3
  repeat refine Or.inl ?_
  refine ⟨fun h => ?_, fun h4 => ?_⟩
  · have h : (k == 4) = true := h
    rw [beq_iff_eq] at h
    exact RetA.rsS (l' := [sT, sN]) (by unfold usesS; rw [if_neg h0, if_neg h1, if_neg h2, if_pos (.inr h)]) rfl (two' rfl rfl)
  have h4 : (k == 4) = false := h4
  rw [beq_eq_false_iff_ne] at h4
  repeat refine Or.inl ?_
  refine ⟨fun h5 => ?_, fun h5 => ?_⟩
  · have h5' : (k == 5) = true := h5
    rw [beq_iff_eq] at h5'
    repeat refine Or.inl ?_
    refine ⟨fun _ => ?_, fun h => ?_⟩
    · exact RetA.rsS (l' := [sW]) (by unfold usesS; rw [if_neg h0, if_neg h1, if_neg h2, if_neg (by omega), if_pos (.inl h5')]) rfl (one' rfl)
    · have h : (k == 5) = false := h
      rw [beq_eq_false_iff_ne] at h
      exact absurd h5' h
  have h5 : (k == 5) = false := h5
  rw [beq_eq_false_iff_ne] at h5
  repeat refine Or.inl ?_
  refine ⟨fun h => ?_, fun h7 => ?_⟩
  · have h : (k == 7) = true := h
    rw [beq_iff_eq] at h
    exact RetA.rsS (l' := [sW]) (by unfold usesS; rw [if_neg h0, if_neg h1, if_neg h2, if_neg (by omega), if_pos (.inr h)]) rfl (one' rfl)
  have h7 : (k == 7) = false := h7
  rw [beq_eq_false_iff_ne] at h7
  repeat refine Or.inl ?_
  refine ⟨fun h => ?_, fun h9 => ?_⟩
  · have h : (k == 9) = true := h
    rw [beq_iff_eq] at h
    exact RetA.rsS (l' := [sW, sN]) (by unfold usesS; rw [if_neg h0, if_neg h1, if_neg h2, if_neg (by omega), if_neg (by omega), if_pos h]) rfl (two' rfl rfl)
  have h9 : (k == 9) = false := h9
  rw [beq_eq_false_iff_ne] at h9
  exact RetA.nilS (by unfold usesS; rw [if_neg h0, if_neg h1, if_neg h2, if_neg (by omega), if_neg (by omega), if_neg h9])
/-- The event o, with the field u as e has it. -/
def setF (e o : Ev) (u : ByteArray) : Ev :=
  if bytesEq u sT = true then { o with t := e.t } else if bytesEq u sQ = true then { o with q := e.q } else if bytesEq u sW = true then { o with w := e.w }
  else if bytesEq u sN = true then { o with n := e.n } else if bytesEq u sX = true then { o with x := e.x } else if bytesEq u sF = true then { o with fs := e.fs } else o
def spTo (e : Ev) (us : List ByteArray) (j : Nat) : Ev := (us.take j).foldl (setF e) ⟨e.a, e.s, e.cs, e.k, e.g, -1, -1, -1, 0, noB, [], e.st⟩
theorem spTo_succ {e : Ev} {us : List ByteArray} {j : Nat} (h : j < us.length) : spTo e us (j + 1) = setF e (spTo e us j) (us.getD j noB) := by
  unfold spTo
  rw [List.take_succ_eq_append_getElem h, List.foldl_append, gdI h]
  rfl
/-- The event with nothing but what its kind uses. -/
def spareE (e : Ev) : Ev := spTo e (usesS e.k) (usesS e.k).length
set_option maxRecDepth 20000 in
set_option maxHeartbeats 8000000 in
theorem spare_fn (e : Ev) : CtrA Try.prog 143 [.ag e.av] (.ag (spareE e).av) := by
  refine fn_of_execA tabOk Try.func143 (by kernel_rfl) rfl (N := Try.f143.ntmps) rfl (res := [.cell 2 96]) rfl rfl [] ?_
  refine Or.inl ?_
  refine Or.inr (Or.inl ?_)
  refine ⟨_, Uses_fn e.k, ?_⟩
  have hu := usesS_len e.k
  repeat refine Or.inl ?_
  refine ⟨[], Nat, fun j => j ≤ (usesS e.k).length, fun j => [⟨23, [], .i .i64 j⟩], fun j => [⟨2, [], .cells 96 (spTo e (usesS e.k) j).av⟩], fun j => (usesS e.k).length - j,
    ⟨0, [], Nat.zero_le _, rfl, rfl, rfl, rfl, rfl, ⟨rfl, rfl⟩, ?_⟩, ?_⟩
  · exact ⟨rfl, AVEq.refl _, AVEq.refl _, AVEq.refl _, AVEq.refl _, AVEq.refl _, AVEq.refl _, AVEq.refl _, AVEq.refl _, AVEq.refl _, AVEq.refl _, ⟨rfl, rfl⟩, AVEq.refl _⟩
  intro j hj
  have hj : j ≤ (usesS e.k).length := hj
  refine .inl ⟨fun hc => ?_, fun hc => ?_⟩
  · have hc := dlt hc
    have hc : (j : Int) < (usesS e.k).length := hc
    have ej : (j : Int).toNat = j := Int.toNat_natCast j
    have hst := spTo_succ (e := e) (us := usesS e.k) (j := j) (by omega)
    rw [← ej] at hst
    rw [show (((j : Int).toNat) + 1) = j + 1 by omega, show spTo e (usesS e.k) (j : Int).toNat = spTo e (usesS e.k) j by rw [ej]] at hst
    repeat refine Or.inl ?_
    refine ⟨⟨by omega, by omega⟩, ?_⟩
    repeat refine Or.inl ?_
    refine ⟨fun h => ?_, fun h1 => ?_⟩
    · have h : bytesEq ((usesS e.k).getD (j : Int).toNat noB) sT = true := h
      repeat refine Or.inl ?_
      refine ⟨j + 1, [], by dsimp only; omega, by dsimp only; omega, rfl, rfl, rfl, rfl, rfl, ⟨rfl, wr (by omega) (by omega)⟩, ?_⟩
      have ao : AOEq (.cells 96 (spTo e (usesS e.k) (j + 1)).av) (.cells 96 ({ spTo e (usesS e.k) j with t := e.t } : Ev).av) := by
        rw [hst, show ∀ o : Ev, setF e o ((usesS e.k).getD (j : Int).toNat noB) = { o with t := e.t } from fun o => by unfold setF; rw [if_pos h]]
        exact AOEq.refl _
      exact ao
    have h1 : bytesEq ((usesS e.k).getD (j : Int).toNat noB) sT = false := h1
    have n1 : ¬ bytesEq ((usesS e.k).getD (j : Int).toNat noB) sT = true := by rw [h1]; decide
    repeat refine Or.inl ?_
    refine ⟨fun h => ?_, fun h2 => ?_⟩
    · have h : bytesEq ((usesS e.k).getD (j : Int).toNat noB) sQ = true := h
      repeat refine Or.inl ?_
      refine ⟨j + 1, [], by dsimp only; omega, by dsimp only; omega, rfl, rfl, rfl, rfl, rfl, ⟨rfl, wr (by omega) (by omega)⟩, ?_⟩
      have ao : AOEq (.cells 96 (spTo e (usesS e.k) (j + 1)).av) (.cells 96 ({ spTo e (usesS e.k) j with q := e.q } : Ev).av) := by
        rw [hst, show ∀ o : Ev, setF e o ((usesS e.k).getD (j : Int).toNat noB) = { o with q := e.q } from fun o => by unfold setF; rw [if_neg n1, if_pos h]]
        exact AOEq.refl _
      exact ao
    have h2 : bytesEq ((usesS e.k).getD (j : Int).toNat noB) sQ = false := h2
    have n2 : ¬ bytesEq ((usesS e.k).getD (j : Int).toNat noB) sQ = true := by rw [h2]; decide
    repeat refine Or.inl ?_
    refine ⟨fun h => ?_, fun h3 => ?_⟩
    · have h : bytesEq ((usesS e.k).getD (j : Int).toNat noB) sW = true := h
      repeat refine Or.inl ?_
      refine ⟨j + 1, [], by dsimp only; omega, by dsimp only; omega, rfl, rfl, rfl, rfl, rfl, ⟨rfl, wr (by omega) (by omega)⟩, ?_⟩
      have ao : AOEq (.cells 96 (spTo e (usesS e.k) (j + 1)).av) (.cells 96 ({ spTo e (usesS e.k) j with w := e.w } : Ev).av) := by
        rw [hst, show ∀ o : Ev, setF e o ((usesS e.k).getD (j : Int).toNat noB) = { o with w := e.w } from fun o => by unfold setF; rw [if_neg n1, if_neg n2, if_pos h]]
        exact AOEq.refl _
      exact ao
    have h3 : bytesEq ((usesS e.k).getD (j : Int).toNat noB) sW = false := h3
    have n3 : ¬ bytesEq ((usesS e.k).getD (j : Int).toNat noB) sW = true := by rw [h3]; decide
    repeat refine Or.inl ?_
    refine ⟨fun h => ?_, fun h4 => ?_⟩
    · have h : bytesEq ((usesS e.k).getD (j : Int).toNat noB) sN = true := h
      repeat refine Or.inl ?_
      refine ⟨j + 1, [], by dsimp only; omega, by dsimp only; omega, rfl, rfl, rfl, rfl, rfl, ⟨rfl, wr (by omega) (by omega)⟩, ?_⟩
      have ao : AOEq (.cells 96 (spTo e (usesS e.k) (j + 1)).av) (.cells 96 ({ spTo e (usesS e.k) j with n := e.n } : Ev).av) := by
        rw [hst, show ∀ o : Ev, setF e o ((usesS e.k).getD (j : Int).toNat noB) = { o with n := e.n } from fun o => by unfold setF; rw [if_neg n1, if_neg n2, if_neg n3, if_pos h]]
        exact AOEq.refl _
      exact ao
    have h4 : bytesEq ((usesS e.k).getD (j : Int).toNat noB) sN = false := h4
    have n4 : ¬ bytesEq ((usesS e.k).getD (j : Int).toNat noB) sN = true := by rw [h4]; decide
    repeat refine Or.inl ?_
    refine ⟨fun h => ?_, fun h5 => ?_⟩
    · have h : bytesEq ((usesS e.k).getD (j : Int).toNat noB) sX = true := h
      repeat refine Or.inl ?_
      refine ⟨j + 1, [], by dsimp only; omega, by dsimp only; omega, rfl, rfl, rfl, rfl, rfl, ⟨rfl, wr (by omega) (by omega)⟩, ?_⟩
      have ao : AOEq (.cells 96 (spTo e (usesS e.k) (j + 1)).av) (.cells 96 ({ spTo e (usesS e.k) j with x := e.x } : Ev).av) := by
        rw [hst, show ∀ o : Ev, setF e o ((usesS e.k).getD (j : Int).toNat noB) = { o with x := e.x } from fun o => by unfold setF; rw [if_neg n1, if_neg n2, if_neg n3, if_neg n4, if_pos h]]
        exact AOEq.refl _
      exact ao
    have h5 : bytesEq ((usesS e.k).getD (j : Int).toNat noB) sX = false := h5
    have n5 : ¬ bytesEq ((usesS e.k).getD (j : Int).toNat noB) sX = true := by rw [h5]; decide
    repeat refine Or.inl ?_
    refine ⟨fun h => ?_, fun h6 => ?_⟩
    · have h : bytesEq ((usesS e.k).getD (j : Int).toNat noB) sF = true := h
      repeat refine Or.inl ?_
      refine ⟨j + 1, [], by dsimp only; omega, by dsimp only; omega, rfl, rfl, rfl, rfl, rfl, ⟨rfl, wr (by omega) (by omega)⟩, ?_⟩
      have ao : AOEq (.cells 96 (spTo e (usesS e.k) (j + 1)).av) (.cells 96 ({ spTo e (usesS e.k) j with fs := e.fs } : Ev).av) := by
        rw [hst, show ∀ o : Ev, setF e o ((usesS e.k).getD (j : Int).toNat noB) = { o with fs := e.fs } from fun o => by unfold setF; rw [if_neg n1, if_neg n2, if_neg n3, if_neg n4, if_neg n5, if_pos h]]
        exact AOEq.refl _
      exact ao
    have h6 : bytesEq ((usesS e.k).getD (j : Int).toNat noB) sF = false := h6
    have n6 : ¬ bytesEq ((usesS e.k).getD (j : Int).toNat noB) sF = true := by rw [h6]; decide
    refine ⟨j + 1, [], by dsimp only; omega, by dsimp only; omega, rfl, rfl, rfl, rfl, rfl, ⟨rfl, wr (by omega) (by omega)⟩, ?_⟩
    have ao : AOEq (.cells 96 (spTo e (usesS e.k) (j + 1)).av) (.cells 96 ((spTo e (usesS e.k) j) : Ev).av) := by
      rw [hst, show ∀ o : Ev, setF e o ((usesS e.k).getD (j : Int).toNat noB) = o from fun o => by unfold setF; rw [if_neg n1, if_neg n2, if_neg n3, if_neg n4, if_neg n5, if_neg n6]]
      exact AOEq.refl _
    exact ao
  · have hc := dnlt hc
    have hc : ((usesS e.k).length : Int) ≤ j := hc
    obtain rfl : j = (usesS e.k).length := by omega
    exact ⟨rfl, AVEq.refl (.ag (spareE e).av)⟩
end Go.Proofs.Ytnookbebiacaeaa
end

section
/-
  Conversations: which events are right, which are alike, and bare ones: the program.
-/
namespace Go.Proofs.Ytnookbebiacaeaa
open Go.Eng

def bl (n e : Int) : Bool := decide (0 ≤ n) && decide (n < e)
def mb (n e : Int) : Bool := (n == -1) || bl n e
/-- The fields that a kind uses are right. -/
def fieldsE (e : Ev) : Bool :=
  if e.k = 0 then (mb e.t 100000 && mb e.q 100000) && mb e.w 2000 else if e.k = 1 ∨ e.k = 2 then bl e.t 100000
  else if e.k = 3 ∨ e.k = 4 then (bl e.t 100000 && decide (1 ≤ e.n)) && decide (e.n ≤ 100) else if e.k = 5 ∨ e.k = 7 then bl e.w 2000
  else if e.k = 9 then bl e.w 2000 && bl e.n 16 else (e.k == 6) || (e.k == 8)
set_option maxRecDepth 20000 in
set_option maxHeartbeats 8000000 in
theorem fields_fn (e : Ev) : Ctr Try.prog 140 [.ag e.av] [] (.b (fieldsE e)) := by
  refine fn_of_exec tabOk Try.func140 (by kernel_rfl) rfl (N := Try.f140.ntmps) rfl (res := [.tmp 2]) rfl rfl [] ?_
  repeat refine Or.inl ?_
  refine ⟨fun h => ?_, fun h0 => ?_⟩
  · have h : (e.k == 0) = true := h
    rw [beq_iff_eq] at h
    repeat refine Or.inl ?_
    refine ⟨[], _, maybe_fn e.t 100000, ?_⟩
    repeat refine Or.inl ?_
    refine ⟨[], _, fun _ => maybe_fn e.q 100000, ?_⟩
    repeat refine Or.inl ?_
    refine ⟨[], _, fun _ => maybe_fn e.w 2000, ?_⟩
    refine RetIs.b ?_
    unfold fieldsE
    rw [if_pos h]
    rfl
  have h0 : (e.k == 0) = false := h0
  rw [beq_eq_false_iff_ne] at h0
  have c12 : e.k = 1 ∨ e.k = 2 → fieldsE e = bl e.t 100000 := fun h => by unfold fieldsE; rw [if_neg h0, if_pos h]
  repeat refine Or.inl ?_
  refine ⟨fun h => ?_, fun h1 => ?_⟩
  · have h' : (e.k == 1) = true := h
    rw [beq_iff_eq] at h'
    repeat refine Or.inl ?_
    refine ⟨fun _ => ?_, fun hn => ?_⟩
    · repeat refine Or.inl ?_
      refine ⟨[], _, below_fn e.t 100000, ?_⟩
      exact RetIs.b (c12 (.inl h')).symm
    · have hn : (e.k == 1) = false := hn
      rw [beq_eq_false_iff_ne] at hn
      exact absurd h' hn
  have h1 : (e.k == 1) = false := h1
  rw [beq_eq_false_iff_ne] at h1
  repeat refine Or.inl ?_
  refine ⟨fun h => ?_, fun h2 => ?_⟩
  · have h' : (e.k == 2) = true := h
    rw [beq_iff_eq] at h'
    repeat refine Or.inl ?_
    refine ⟨[], _, below_fn e.t 100000, ?_⟩
    exact RetIs.b (c12 (.inr h')).symm
  have h2 : (e.k == 2) = false := h2
  rw [beq_eq_false_iff_ne] at h2
  have c34 : e.k = 3 ∨ e.k = 4 → fieldsE e = ((bl e.t 100000 && decide (1 ≤ e.n)) && decide (e.n ≤ 100)) := fun h => by unfold fieldsE; rw [if_neg h0, if_neg (by omega), if_pos h]
  repeat refine Or.inl ?_
  refine ⟨fun h => ?_, fun h3 => ?_⟩
  · have h' : (e.k == 3) = true := h
    rw [beq_iff_eq] at h'
    repeat refine Or.inl ?_
    refine ⟨fun _ => ?_, fun hn => ?_⟩
    · repeat refine Or.inl ?_
      refine ⟨[], _, below_fn e.t 100000, ?_⟩
      exact RetIs.b (c34 (.inl h')).symm
    · have hn : (e.k == 3) = false := hn
      rw [beq_eq_false_iff_ne] at hn
      exact absurd h' hn
  have h3 : (e.k == 3) = false := h3
  rw [beq_eq_false_iff_ne] at h3
  repeat refine Or.inl ?_
  refine ⟨fun h => ?_, fun h4 => ?_⟩
  · have h' : (e.k == 4) = true := h
    rw [beq_iff_eq] at h'
    repeat refine Or.inl ?_
    refine ⟨[], _, below_fn e.t 100000, ?_⟩
    exact RetIs.b (c34 (.inr h')).symm
  have h4 : (e.k == 4) = false := h4
  rw [beq_eq_false_iff_ne] at h4
  have c57 : e.k = 5 ∨ e.k = 7 → fieldsE e = bl e.w 2000 := fun h => by unfold fieldsE; rw [if_neg h0, if_neg (by omega), if_neg (by omega), if_pos h]
  repeat refine Or.inl ?_
  refine ⟨fun h => ?_, fun h5 => ?_⟩
  · have h' : (e.k == 5) = true := h
    rw [beq_iff_eq] at h'
    repeat refine Or.inl ?_
    refine ⟨fun _ => ?_, fun hn => ?_⟩
    · repeat refine Or.inl ?_
      refine ⟨[], _, below_fn e.w 2000, ?_⟩
      exact RetIs.b (c57 (.inl h')).symm
    · have hn : (e.k == 5) = false := hn
      rw [beq_eq_false_iff_ne] at hn
      exact absurd h' hn
  have h5 : (e.k == 5) = false := h5
  rw [beq_eq_false_iff_ne] at h5
  repeat refine Or.inl ?_
  refine ⟨fun h => ?_, fun h7 => ?_⟩
  · have h' : (e.k == 7) = true := h
    rw [beq_iff_eq] at h'
    repeat refine Or.inl ?_
    refine ⟨[], _, below_fn e.w 2000, ?_⟩
    exact RetIs.b (c57 (.inr h')).symm
  have h7 : (e.k == 7) = false := h7
  rw [beq_eq_false_iff_ne] at h7
  repeat refine Or.inl ?_
  refine ⟨fun h => ?_, fun h9 => ?_⟩
  · have h' : (e.k == 9) = true := h
    rw [beq_iff_eq] at h'
    repeat refine Or.inl ?_
    refine ⟨[], _, below_fn e.w 2000, ?_⟩
    repeat refine Or.inl ?_
    refine ⟨[], _, fun _ => below_fn e.n 16, ?_⟩
    refine RetIs.b ?_
    unfold fieldsE
    rw [if_neg h0, if_neg (by omega), if_neg (by omega), if_neg (by omega), if_pos h']
    rfl
  have h9 : (e.k == 9) = false := h9
  rw [beq_eq_false_iff_ne] at h9
  refine RetIs.b ?_
  unfold fieldsE
  rw [if_neg h0, if_neg (by omega), if_neg (by omega), if_neg (by omega), if_neg h9]
/-- A name that is not right, or stood there before. -/
def badN (l : List Int) (i : Nat) : Bool := !bl (l.getD i 0) 1073741825 || decide (l.getD i 0 ∈ l.take i)
def filesB (l : List Int) : Bool := ((List.range l.length).all fun i => !badN l i) && decide ((l.length : Int) ≤ 4)
theorem range_all_no {n : Nat} {p : Nat → Bool} {k : Nat} (hk : k < n) (h : p k = false) : (List.range n).all p = false := by
  rw [List.all_eq_false]
  exact ⟨k, List.mem_range.2 hk, by rw [h]; decide⟩
theorem range_all_yes {n : Nat} {p : Nat → Bool} (h : ∀ k, k < n → p k = true) : (List.range n).all p = true := by
  rw [List.all_eq_true]
  exact fun k hk => h k (List.mem_range.1 hk)
theorem takeI (l : List Int) {k : Nat} (hk : k ≤ l.length) : AVEq (.rs 1 (l.take k).length (rI (l.take k))) (.rs 1 ((k : Int) - 0).toNat fun q => rI l (0 + q)) := by
  have e : (l.take k).length = k := by simp; omega
  refine ⟨rfl, by rw [e]; omega, fun q hq => ?_⟩
  rw [e] at hq
  unfold rI
  simp [List.getD, hq]
set_option maxRecDepth 20000 in
set_option maxHeartbeats 4000000 in
theorem files_fn (l : List Int) (hl : l.length < 2^62) : Ctr Try.prog 141 [.rs 1 l.length (rI l)] [] (.b (filesB l)) := by
  refine fn_of_exec tabOk Try.func141 (by kernel_rfl) rfl (N := Try.f141.ntmps) rfl (res := [.tmp 2]) rfl rfl [] ?_
  repeat refine Or.inl ?_
  refine ⟨[], Nat, fun k => k ≤ l.length ∧ ∀ j, j < k → badN l j = false, fun k => [⟨7, [], .i .i64 k⟩], fun _ => [], fun k => l.length - k,
    ⟨0, [], ⟨Nat.zero_le _, fun j hj => by omega⟩, rfl, rfl, rfl, rfl, rfl, ⟨rfl, rfl⟩, trivial⟩, ?_⟩
  rintro k ⟨hk, hno⟩
  have hk : k ≤ l.length := hk
  refine .inl ⟨fun hc => ?_, fun hc => ?_⟩
  · have hc := dlt hc
    have hc : (k : Int) < l.length := hc
    have ek : (k : Int).toNat = k := Int.toNat_natCast k
    repeat refine Or.inl ?_
    refine ⟨⟨by omega, by omega⟩, ?_⟩
    repeat refine Or.inl ?_
    refine ⟨[], _, below_fn _ _, ?_⟩
    refine ⟨fun _ => ⟨by omega, by omega, by omega⟩, ?_⟩
    repeat refine Or.inl ?_
    refine ⟨[], _, fun _ => Ctr.of_eq (args := [.rs 1 (l.take k).length (rI (l.take k)), .i .i64 (l.getD (k : Int).toNat 0)]) ⟨takeI l hk, AVEq.refl _⟩ (containsI_fn (l.take k) (by simp; omega) _), ?_⟩
    refine ⟨fun h => ?_, fun h => ?_⟩
    · have h : (!bl (l.getD (k : Int).toNat 0) 1073741825 || decide (l.getD (k : Int).toNat 0 ∈ l.take k)) = true := h
      rw [ek] at h
      refine RetIs.b ?_
      unfold filesB
      rw [range_all_no (p := fun i => !badN l i) (k := k) (by omega) (by unfold badN; rw [h]; rfl)]
      rfl
    · have h : (!bl (l.getD (k : Int).toNat 0) 1073741825 || decide (l.getD (k : Int).toNat 0 ∈ l.take k)) = false := h
      rw [ek] at h
      refine ⟨k + 1, [], ⟨by omega, fun j hj => ?_⟩, by dsimp only; omega, rfl, rfl, rfl, rfl, rfl, ⟨rfl, wr (by omega) (by omega)⟩, trivial⟩
      by_cases hjk : j = k
      · rw [hjk]; exact h
      · exact hno j (by omega)
  · have hc := dnlt hc
    have hc : (l.length : Int) ≤ k := hc
    obtain rfl : k = l.length := by omega
    refine RetIs.b ?_
    unfold filesB
    rw [range_all_yes (p := fun i => !badN l i) fun k hk => by rw [hno k hk]; rfl, Bool.true_and]
theorem bytesEq_dec (x y : ByteArray) : bytesEq x y = decide (x = y) := by
  rw [Bool.eq_iff_iff, bytes_eq, decide_eq_true_eq]
set_option maxRecDepth 20000 in
set_option maxHeartbeats 4000000 in
theorem sameE_fn (a b : Ev) (h1 : a.cs.length < 2^62) (h2 : b.cs.length < 2^62) (h3 : a.fs.length < 2^62) (h4 : b.fs.length < 2^62) : Ctr Try.prog 142 [.ag a.av, .ag b.av] [] (.b (decide (a = b))) := by
  refine fn_of_exec tabOk Try.func142 (by kernel_rfl) rfl (N := Try.f142.ntmps) rfl (res := [.tmp 4]) rfl rfl [] ?_
  repeat refine Or.inl ?_
  refine ⟨[], _, fun _ => equal_fn a.cs b.cs h1 h2, ?_⟩
  repeat refine Or.inl ?_
  refine ⟨[], _, fun _ => equal_fn a.fs b.fs h3 h4, ?_⟩
  refine RetIs.b ?_
  rw [bytesEq_dec, Bool.eq_iff_iff]
  obtain ⟨a1, a2, a3, a4, a5, a6, a7, a8, a9, a10, a11, a12⟩ := a
  obtain ⟨b1, b2, b3, b4, b5, b6, b7, b8, b9, b10, b11, b12⟩ := b
  simp only [Bool.and_eq_true, beq_iff_eq, decide_eq_true_eq, Ev.mk.injEq]
  constructor
  · rintro ⟨⟨⟨⟨⟨⟨⟨⟨⟨⟨⟨e1, e2⟩, e4⟩, e5⟩, e6⟩, e7⟩, e8⟩, e9⟩, e12⟩, e10⟩, e3⟩, e11⟩
    exact ⟨e1, e2, e3, e4, e5, e6, e7, e8, e9, e10, e11, e12⟩
  · rintro ⟨e1, e2, e3, e4, e5, e6, e7, e8, e9, e10, e11, e12⟩
    exact ⟨⟨⟨⟨⟨⟨⟨⟨⟨⟨⟨e1, e2⟩, e4⟩, e5⟩, e6⟩, e7⟩, e8⟩, e9⟩, e12⟩, e10⟩, e3⟩, e11⟩
/-- The bare event. -/
def bareE (e : Ev) : Ev := if e.k = 0 ∨ e.k = 1 then { e with x := noB, fs := [] } else e
set_option maxRecDepth 20000 in
set_option maxHeartbeats 4000000 in
theorem bare_fn (e : Ev) (h1 : e.cs.length * 8 ≤ 140737488355328) (h2 : e.fs.length * 8 ≤ 140737488355328) : CtrA Try.prog 78 [.ag e.av] (.ag (bareE e).av) := by
  refine fn_of_execA tabOk Try.func78 (by kernel_rfl) rfl (N := Try.f78.ntmps) rfl (res := [.cell 2 96]) rfl rfl [(1000003, [.eq 0 (.cells 96 ({ e with x := noB, fs := [] } : Ev).av)])] ?_
  refine Or.inr ?_
  refine ⟨_, clone_fnI e.cs h1, ?_⟩
  refine Or.inr ?_
  refine ⟨_, clone_fnI e.fs h2, ?_⟩
  repeat refine Or.inl ?_
  refine ⟨fun h => ?_, fun h => ?_⟩
  · have h : ((e.k == 0) || (e.k == 1)) = true := h
    rw [Bool.or_eq_true, beq_iff_eq, beq_iff_eq] at h
    repeat refine Or.inl ?_
    refine ⟨⟨rfl, AVEq.refl _, AVEq.refl _, AVEq.refl _, AVEq.refl _, AVEq.refl _, AVEq.refl _, AVEq.refl _, AVEq.refl _, AVEq.refl _, AVEq.refl _, ⟨rfl, rfl⟩, AVEq.refl _⟩, ?_⟩
    rw [show bareE e = { e with x := noB, fs := [] } from if_pos h]
    exact ⟨rfl, AVEq.refl (.ag ({ e with x := noB, fs := [] } : Ev).av)⟩
  · have h : ((e.k == 0) || (e.k == 1)) = false := h
    rw [Bool.or_eq_false_iff, beq_eq_false_iff_ne, beq_eq_false_iff_ne] at h
    rw [show bareE e = e from if_neg (by omega)]
    exact ⟨rfl, AVEq.refl (.ag e.av)⟩
theorem bareE_cs (e : Ev) : (bareE e).cs = e.cs := by unfold bareE; split <;> rfl
theorem bareE_fs (e : Ev) : (bareE e).fs.length ≤ e.fs.length := by unfold bareE; split <;> simp
def alikeE (a b : Ev) : Bool := decide (bareE a = bareE b)
/-- Its lists fit into memory. -/
def Ev.fit (e : Ev) : Prop := e.cs.length * 8 ≤ 140737488355328 ∧ e.fs.length * 8 ≤ 140737488355328
theorem Ev.fit.bare {e : Ev} (h : e.fit) : (bareE e).fit := by
  have := bareE_fs e
  unfold Ev.fit at *
  rw [bareE_cs]
  omega
set_option maxRecDepth 20000 in
theorem alike_fn (a b : Ev) (ha : a.fit) (hb : b.fit) : Ctr Try.prog 86 [.ag a.av, .ag b.av] [] (.b (alikeE a b)) := by
  refine fn_of_exec tabOk Try.func86 (by kernel_rfl) rfl (N := Try.f86.ntmps) rfl (res := [.tmp 4]) rfl rfl [] ?_
  have h1 := ha.bare
  have h2 := hb.bare
  unfold Ev.fit at h1 h2
  refine Or.inr ?_
  refine ⟨_, bare_fn a ha.1 ha.2, ?_⟩
  refine Or.inr ?_
  refine ⟨_, bare_fn b hb.1 hb.2, ?_⟩
  repeat refine Or.inl ?_
  refine ⟨[], _, sameE_fn (bareE a) (bareE b) (by omega) (by omega) (by omega) (by omega), ?_⟩
  exact RetIs.b rfl
/-- A cause that is not right, or does not come after the one before it. -/
def badC (l : List Int) (i : Nat) : Bool := !bl (l.getD i 0) 100000 || (decide (0 < i) && decide (l.getD i 0 ≤ l.getD (i - 1) 0))
def causesB (l : List Int) : Bool := (List.range l.length).all fun i => !badC l i
def whoB (e : Ev) : Bool := ((bl e.a 2000 && bl e.s 100000) && bl e.g 500) && bl e.st 1073741825
def rightE (e : Ev) : Bool := causesB e.cs && (((((whoB e && decide ((e.cs.length : Int) ≤ 8)) && fieldsE e) && decide ((e.x.size : Int) ≤ 4000)) && filesB e.fs) && decide (e = spareE e))
theorem setF_cs (e o : Ev) (u : ByteArray) : (setF e o u).cs = o.cs ∧ ((setF e o u).fs = o.fs ∨ (setF e o u).fs = e.fs) := by
  unfold setF
  repeat' split
  all_goals first | exact ⟨rfl, .inl rfl⟩ | exact ⟨rfl, .inr rfl⟩
theorem spTo_cs (e : Ev) (us : List ByteArray) : ∀ j, (spTo e us j).cs = e.cs ∧ ((spTo e us j).fs = [] ∨ (spTo e us j).fs = e.fs) := by
  intro j
  unfold spTo
  have : ∀ (l : List ByteArray) (o : Ev), o.cs = e.cs ∧ (o.fs = [] ∨ o.fs = e.fs) → (l.foldl (setF e) o).cs = e.cs ∧ ((l.foldl (setF e) o).fs = [] ∨ (l.foldl (setF e) o).fs = e.fs) := by
    intro l
    induction l with
    | nil => exact fun o h => h
    | cons u l ih =>
      intro o h
      refine ih _ ⟨(setF_cs e o u).1.trans h.1, ?_⟩
      rcases (setF_cs e o u).2 with h2 | h2
      · rw [h2]; exact h.2
      · exact .inr h2
  exact this _ _ ⟨rfl, .inl rfl⟩
set_option maxRecDepth 20000 in
set_option maxHeartbeats 8000000 in
theorem right_fn (e : Ev) (h1 : e.cs.length < 2^62) (h2 : e.fs.length < 2^62) : Ctr Try.prog 77 [.ag e.av] [] (.b (rightE e)) := by
  refine fn_of_exec tabOk Try.func77 (by kernel_rfl) rfl (N := Try.f77.ntmps) rfl (res := [.tmp 2]) rfl rfl [] ?_
  repeat refine Or.inl ?_
  refine ⟨[], Nat, fun k => k ≤ e.cs.length ∧ ∀ j, j < k → badC e.cs j = false, fun k => [⟨9, [], .i .i64 k⟩], fun _ => [], fun k => e.cs.length - k,
    ⟨0, [], ⟨Nat.zero_le _, fun j hj => by omega⟩, rfl, rfl, rfl, rfl, rfl, ⟨rfl, rfl⟩, trivial⟩, ?_⟩
  rintro k ⟨hk, hno⟩
  have hk : k ≤ e.cs.length := hk
  refine .inl ⟨fun hc => ?_, fun hc => ?_⟩
  · have hc := dlt hc
    have hc : (k : Int) < e.cs.length := hc
    have ek : (k : Int).toNat = k := Int.toNat_natCast k
    repeat refine Or.inl ?_
    refine ⟨⟨by omega, by omega⟩, ?_⟩
    repeat refine Or.inl ?_
    refine ⟨[], _, below_fn _ _, ?_⟩
    have sub1 : decide ((k : Int) > 0) = true → IntKind.i64.wrap ((k : Int) - 1) = ((k - 1 : Nat) : Int) ∧ 0 < k := fun h => by
      have h := of_decide_eq_true h
      exact ⟨by rw [wr (by omega) (by omega)]; omega, by omega⟩
    refine ⟨fun hg => ?_, ?_⟩
    · have := sub1 hg.1
      rw [this.1]
      omega
    have key : (!bl (e.cs.getD (k : Int).toNat 0) 100000 || (decide ((k : Int) > 0) && decide (e.cs.getD (k : Int).toNat 0 ≤ e.cs.getD (IntKind.i64.wrap ((k : Int) - 1)).toNat 0))) = badC e.cs k := by
      unfold badC
      rw [ek]
      cases h0 : decide ((k : Int) > 0) with
      | false =>
        rw [show decide (0 < k) = false from decide_eq_false (by have := of_decide_eq_false h0; omega)]
        rfl
      | true =>
        obtain ⟨e1, e2⟩ := sub1 h0
        rw [e1, Int.toNat_natCast, decide_eq_true e2]
    refine ⟨fun h => ?_, fun h => ?_⟩
    · have h := key.symm.trans h
      refine RetIs.b ?_
      unfold rightE causesB
      rw [range_all_no (p := fun i => !badC e.cs i) (k := k) (by omega) (by rw [h]; rfl), Bool.false_and]
    · have h := key.symm.trans h
      refine ⟨k + 1, [], ⟨by omega, fun j hj => ?_⟩, by dsimp only; omega, rfl, rfl, rfl, rfl, rfl, ⟨rfl, wr (by omega) (by omega)⟩, trivial⟩
      by_cases hjk : j = k
      · rw [hjk]; exact h
      · exact hno j (by omega)
  · have hc := dnlt hc
    have hc : (e.cs.length : Int) ≤ k := hc
    obtain rfl : k = e.cs.length := by omega
    have hsp := spTo_cs e (usesS e.k) (usesS e.k).length
    have hsf : (spareE e).fs.length < 2^62 := by
      rcases hsp.2 with h | h
      · unfold spareE; rw [h]; decide
      · unfold spareE; rw [h]; exact h2
    have hsc : (spareE e).cs.length < 2^62 := by unfold spareE; rw [hsp.1]; exact h1
    repeat refine Or.inl ?_
    refine ⟨[], _, below_fn _ _, ?_⟩
    repeat refine Or.inl ?_
    refine ⟨[], _, fun _ => below_fn _ _, ?_⟩
    repeat refine Or.inl ?_
    refine ⟨[], _, fun _ => below_fn _ _, ?_⟩
    repeat refine Or.inl ?_
    refine ⟨[], _, fun _ => below_fn _ _, ?_⟩
    repeat refine Or.inl ?_
    refine ⟨[], _, fun _ => fields_fn e, ?_⟩
    repeat refine Or.inl ?_
    refine ⟨[], _, fun _ => files_fn e.fs h2, ?_⟩
    refine Or.inr ?_
    refine ⟨_, fun _ => spare_fn e, ?_⟩
    repeat refine Or.inl ?_
    refine ⟨[], _, fun _ => sameE_fn e (spareE e) h1 hsc h2 hsf, ?_⟩
    refine RetIs.b ?_
    unfold rightE causesB
    rw [range_all_yes (p := fun i => !badC e.cs i) fun k hk => by rw [hno k hk]; rfl, Bool.true_and]
    rfl
end Go.Proofs.Ytnookbebiacaeaa
end

section
/-
  Conversations: numbers looked for, and struck; what an event names; small events.
-/
namespace Go.Proofs.Ytnookbebiacaeaa
open Go.Eng

theorem getD_memI {l : List Int} {k : Nat} (h : k < l.length) : l.getD k 0 ∈ l := by simp [List.getD, h]
theorem mem_getDI {l : List Int} {x : Int} (h : x ∈ l) : ∃ j, j < l.length ∧ l.getD j 0 = x := by
  obtain ⟨j, hj, rfl⟩ := List.getElem_of_mem h
  exact ⟨j, hj, gdI hj⟩
/-- The first place where p holds, or -1. -/
def idxG (p : Int → Bool) (l : List Int) : Int := match l.findIdx? p with | some k => k | none => -1
theorem idxG_some {p : Int → Bool} {S : List Int} {k : Nat} (hk : k < S.length) (h1 : ∀ j, j < k → p (S.getD j 0) = false) (h2 : p (S.getD k 0) = true) : idxG p S = k := by
  have : S.findIdx? p = some k := by
    rw [List.findIdx?_eq_some_iff_getElem]
    refine ⟨hk, by rw [← gdI (d := 0) hk]; exact h2, fun j hj => ?_⟩
    have := h1 j hj
    rw [gdI (by omega)] at this
    simp [this]
  simp [idxG, this]
theorem idxG_none {p : Int → Bool} {S : List Int} (h1 : ∀ j, j < S.length → p (S.getD j 0) = false) : idxG p S = -1 := by
  have : S.findIdx? p = none := by
    rw [List.findIdx?_eq_none_iff]
    intro y hy
    obtain ⟨j, hj, rfl⟩ := List.getElem_of_mem hy
    have := h1 j hj
    rwa [gdI hj] at this
  simp [idxG, this]
theorem idxG_any (p : Int → Bool) (l : List Int) : decide (idxG p l ≥ 0) = l.any p := by
  unfold idxG
  cases h : l.findIdx? p with
  | none =>
    rw [List.findIdx?_eq_none_iff] at h
    have : l.any p = false := by simpa using h
    rw [this]; rfl
  | some k =>
    rw [List.findIdx?_eq_some_iff_getElem] at h
    obtain ⟨hk, hp, _⟩ := h
    have : l.any p = true := by rw [List.any_eq_true]; exact ⟨_, List.getElem_mem hk, hp⟩
    rw [this]
    simp
set_option maxRecDepth 20000 in
set_option maxHeartbeats 4000000 in
theorem indexF1_fn (l : List Int) (hl : l.length < 2^62) (fid : FuncId) (c1 : List AV) (p : Int → Bool) (hp : ∀ x ∈ l, Ctr Try.prog fid [.i .i64 x, .rp c1] [] (.b (p x))) : Ctr Try.prog 207 [.rs 1 l.length (rI l), .fn fid [.rp c1]] [] (.i .i64 (idxG p l)) := by
  refine fn_of_exec tabOk Try.func207 (by kernel_rfl) rfl (N := Try.f207.ntmps) rfl (res := [.tmp 4]) rfl rfl [] ?_
  repeat refine Or.inl ?_
  refine ⟨[], Nat, fun k => k ≤ l.length ∧ ∀ j, j < k → p (l.getD j 0) = false, fun k => [⟨8, [], .i .i64 k⟩], fun _ => [], fun k => l.length - k,
    ⟨0, [], ⟨Nat.zero_le _, fun j hj => by omega⟩, rfl, rfl, rfl, rfl, rfl, ⟨rfl, rfl⟩, trivial⟩, ?_⟩
  rintro k ⟨hk, hno⟩
  have hk : k ≤ l.length := hk
  refine .inl ⟨fun hc => ?_, fun hc => ?_⟩
  · have hc := dlt hc
    have hc : (k : Int) < l.length := hc
    have ek : (k : Int).toNat = k := Int.toNat_natCast k
    have hr := hp _ (getD_memI (l := l) (k := (k : Int).toNat) (by omega))
    repeat refine Or.inl ?_
    refine ⟨⟨by omega, by omega⟩, ?_⟩
    repeat refine Or.inl ?_
    refine ⟨[], _, hr, ?_⟩
    refine ⟨fun h => ?_, fun h => ?_⟩
    · have h : p (l.getD (k : Int).toNat 0) = true := h
      rw [ek] at h
      exact RetIs.i (idxG_some (by omega) hno h).symm
    · have h : p (l.getD (k : Int).toNat 0) = false := h
      rw [ek] at h
      refine ⟨k + 1, [], ⟨by omega, fun j hj => ?_⟩, by dsimp only; omega, rfl, rfl, rfl, rfl, rfl, ⟨rfl, wr (by omega) (by omega)⟩, trivial⟩
      by_cases hjk : j = k
      · rw [hjk]; exact h
      · exact hno j (by omega)
  · have hc := dnlt hc
    have hc : (l.length : Int) ≤ k := hc
    obtain rfl : k = l.length := by omega
    exact RetIs.i (idxG_none hno).symm
set_option maxRecDepth 20000 in
set_option maxHeartbeats 4000000 in
theorem indexF0_fn (l : List Int) (hl : l.length < 2^62) (fid : FuncId) (p : Int → Bool) (hp : ∀ x ∈ l, Ctr Try.prog fid [.i .i64 x] [] (.b (p x))) : Ctr Try.prog 207 [.rs 1 l.length (rI l), .fn fid []] [] (.i .i64 (idxG p l)) := by
  refine fn_of_exec tabOk Try.func207 (by kernel_rfl) rfl (N := Try.f207.ntmps) rfl (res := [.tmp 4]) rfl rfl [] ?_
  repeat refine Or.inl ?_
  refine ⟨[], Nat, fun k => k ≤ l.length ∧ ∀ j, j < k → p (l.getD j 0) = false, fun k => [⟨8, [], .i .i64 k⟩], fun _ => [], fun k => l.length - k,
    ⟨0, [], ⟨Nat.zero_le _, fun j hj => by omega⟩, rfl, rfl, rfl, rfl, rfl, ⟨rfl, rfl⟩, trivial⟩, ?_⟩
  rintro k ⟨hk, hno⟩
  have hk : k ≤ l.length := hk
  refine .inl ⟨fun hc => ?_, fun hc => ?_⟩
  · have hc := dlt hc
    have hc : (k : Int) < l.length := hc
    have ek : (k : Int).toNat = k := Int.toNat_natCast k
    have hr := hp _ (getD_memI (l := l) (k := (k : Int).toNat) (by omega))
    repeat refine Or.inl ?_
    refine ⟨⟨by omega, by omega⟩, ?_⟩
    repeat refine Or.inl ?_
    refine ⟨[], _, hr, ?_⟩
    refine ⟨fun h => ?_, fun h => ?_⟩
    · have h : p (l.getD (k : Int).toNat 0) = true := h
      rw [ek] at h
      exact RetIs.i (idxG_some (by omega) hno h).symm
    · have h : p (l.getD (k : Int).toNat 0) = false := h
      rw [ek] at h
      refine ⟨k + 1, [], ⟨by omega, fun j hj => ?_⟩, by dsimp only; omega, rfl, rfl, rfl, rfl, rfl, ⟨rfl, wr (by omega) (by omega)⟩, trivial⟩
      by_cases hjk : j = k
      · rw [hjk]; exact h
      · exact hno j (by omega)
  · have hc := dnlt hc
    have hc : (l.length : Int) ≤ k := hc
    obtain rfl : k = l.length := by omega
    exact RetIs.i (idxG_none hno).symm
set_option maxRecDepth 20000 in
theorem containsF_fn (l : List Int) (hl : l.length < 2^62) (fid : FuncId) (c1 : List AV) (p : Int → Bool) (hp : ∀ x ∈ l, Ctr Try.prog fid [.i .i64 x, .rp c1] [] (.b (p x))) : Ctr Try.prog 178 [.rs 1 l.length (rI l), .fn fid [.rp c1]] [] (.b (l.any p)) := by
  refine fn_of_exec tabOk Try.func178 (by kernel_rfl) rfl (N := Try.f178.ntmps) rfl (res := [.tmp 4]) rfl rfl [] ?_
  repeat refine Or.inl ?_
  refine ⟨[], _, indexF1_fn l hl fid c1 p hp, ?_⟩
  exact RetIs.b (idxG_any _ _)
/-! ### numbers that are not struck -/
def keepF (p : Int → Bool) (S : List Int) : List Int := S.filter fun k => !p k
theorem keepF_take (p : Int → Bool) (S : List Int) {k : Nat} (h : k < S.length) : keepF p (S.take (k + 1)) = if p (S.getD k 0) = true then keepF p (S.take k) else keepF p (S.take k) ++ [S.getD k 0] := by
  unfold keepF
  rw [List.take_succ_eq_append_getElem h, List.filter_append]
  have e : S.getD k 0 = S[k] := by simp [List.getD, h]
  rw [← e]
  by_cases hx : p (S.getD k 0) = true
  · rw [if_pos hx, List.filter_cons_of_neg (by rw [hx]; decide)]; simp
  · rw [if_neg hx, List.filter_cons_of_pos (by simpa using hx)]; simp
theorem firstF_at {S : List Int} {p : Int → Bool} (h : ∃ x ∈ S, p x = true) : ∃ k, k < S.length ∧ p (S.getD k 0) = true ∧ (∀ j, j < k → p (S.getD j 0) = false) ∧ idxG p S = k := by
  have key : ∀ m, m ≤ S.length → (∀ j, j < m → p (S.getD j 0) = false) ∨ ∃ k, k < m ∧ p (S.getD k 0) = true ∧ ∀ j, j < k → p (S.getD j 0) = false := by
    intro m
    induction m with
    | zero => exact fun _ => .inl fun j hj => by omega
    | succ m ih =>
      intro hm
      rcases ih (by omega) with h1 | ⟨k, h1, h2, h3⟩
      · by_cases he : p (S.getD m 0) = true
        · exact .inr ⟨m, by omega, he, h1⟩
        · refine .inl fun j hj => ?_
          by_cases hjm : j = m
          · rw [hjm]; simpa using he
          · exact h1 j (by omega)
      · exact .inr ⟨k, by omega, h2, h3⟩
  rcases key S.length (Nat.le_refl _) with h1 | ⟨k, h1, h2, h3⟩
  · obtain ⟨x, hx, hpx⟩ := h
    obtain ⟨j, hj, e⟩ := mem_getDI hx
    have := h1 j hj
    rw [e, hpx] at this
    cases this
  · exact ⟨k, h1, h2, h3, idxG_some (p := p) (S := S) (k := k) h1 h3 h2⟩
theorem keepF_head {S : List Int} {p : Int → Bool} : ∀ {k : Nat}, k ≤ S.length → (∀ j, j < k → p (S.getD j 0) = false) → keepF p (S.take k) = S.take k := by
  intro k hk h
  unfold keepF
  rw [List.filter_eq_self]
  intro y hy
  obtain ⟨j, hj, e⟩ := mem_getDI hy
  rw [List.length_take] at hj
  have : S.getD j 0 = y := by
    rw [← e]
    simp only [List.getD]
    rw [List.getElem?_take_of_lt (by omega)]
  rw [← this, h j (by omega)]
  rfl
/-- The row while the numbers are moved. -/
def movedF (p : Int → Bool) (S : List Int) (j q : Nat) : Int := if q < (keepF p (S.take j)).length then (keepF p (S.take j)).getD q 0 else S.getD q 0

set_option maxRecDepth 20000 in
set_option maxHeartbeats 4000000 in
theorem delF_some (S : List Int) (hS : S.length ≤ 1000000) (fid : FuncId) (p : Int → Bool) (hp : ∀ x ∈ S, Ctr Try.prog fid [.i .i64 x] [] (.b (p x))) (hx : ∃ x ∈ S, p x = true) :
    CtrM Try.prog 183 false [.row 3 1 S.length (rI S)] [.so 0, .fn fid []] (fun _ : Unit => True) (fun _ => [.dead]) (fun _ => [.row 3 1 (keepF p S).length (rI (keepF p S))]) (fun _ => .so 1) := by
  refine fn_of_execM tabOk Try.func183 (by kernel_rfl) rfl (N := Try.f183.ntmps) rfl (res := [.tmp 4]) rfl false false [.row 3 1 S.length (rI S)] _ _ _ _ rfl (fun h => by cases h) [(999999, [.own 4])] ?_
  obtain ⟨k0, hk0, hk1, hk2, hk3⟩ := firstF_at hx
  repeat refine Or.inl ?_
  refine ⟨[], _, indexF0_fn S (by omega) fid p hp, ?_⟩
  rw [hk3]
  repeat refine Or.inl ?_
  refine ⟨fun h => ?_, fun _ => ?_⟩
  · have h : ((k0 : Int) == -1) = true := h
    rw [beq_iff_eq] at h
    omega
  have w0 : keepF p (S.take k0) = S.take k0 := keepF_head (by omega) hk2
  have w1 : keepF p (S.take (k0 + 1)) = S.take k0 := by rw [keepF_take p S hk0, if_pos hk1, w0]
  have l0 : (S.take k0).length = k0 := by rw [List.length_take]; omega
  repeat refine Or.inl ?_
  refine ⟨[], Nat, fun j => k0 < j ∧ j ≤ S.length, fun j => [⟨6, [], .i .i64 j⟩, ⟨5, [], .i .i64 (keepF p (S.take j)).length⟩], fun j => [⟨0, [], .row 3 1 S.length fun q => [.i .i64 (movedF p S j q)]⟩], fun j => S.length - j,
    ⟨k0 + 1, [], ⟨by omega, by omega⟩, rfl, rfl, rfl, rfl, rfl, ⟨⟨rfl, wr (by omega) (by omega)⟩, ⟨rfl, ?_⟩⟩, ⟨rfl, rfl, rfl, fun q hq => ?_⟩⟩, ?_⟩
  · rw [w1, l0]
  · show [AV.i .i64 (S.getD q 0)] = [AV.i .i64 (movedF p S (k0 + 1) q)]
    unfold movedF
    rw [w1, l0]
    split
    · rename_i hq2
      have : (S.take k0).getD q 0 = S.getD q 0 := by
        simp only [List.getD]
        rw [List.getElem?_take_of_lt hq2]
      rw [this]
    · rfl
  rintro j ⟨hj1, hj2⟩
  have hwl : (keepF p (S.take j)).length < j := by
    have : ∀ d, k0 + 1 + d ≤ S.length → (keepF p (S.take (k0 + 1 + d))).length < k0 + 1 + d := by
      intro d
      induction d with
      | zero => intro _; rw [Nat.add_zero, w1, l0]; omega
      | succ d ih =>
        intro hd
        have := ih (by omega)
        rw [show k0 + 1 + (d + 1) = (k0 + 1 + d) + 1 by omega, keepF_take p S (by omega)]
        split
        · omega
        · rw [List.length_append]; simp; omega
    have := this (j - (k0 + 1)) (by omega)
    rwa [show k0 + 1 + (j - (k0 + 1)) = j by omega] at this
  refine .inl ⟨fun hc => ?_, fun hc => ?_⟩
  · have hc := dlt hc
    have hc : (j : Int) < S.length := hc
    have ej : (j : Int).toNat = j := Int.toNat_natCast j
    have hgj : movedF p S j (j : Int).toNat = S.getD j 0 := by
      unfold movedF
      rw [ej, if_neg (by omega)]
    have hwt := keepF_take p S (k := j) (by omega)
    have hjm : movedF p S j (j : Int).toNat ∈ S := by rw [hgj]; exact getD_memI (by omega)
    repeat refine Or.inl ?_
    refine ⟨⟨by omega, by omega⟩, by omega, ?_⟩
    repeat refine Or.inl ?_
    refine ⟨[], _, hp _ (hjm), ?_⟩
    repeat refine Or.inl ?_
    refine ⟨fun h3 => ?_, fun h3 => ?_⟩
    · have h3 : (!(p (movedF p S j (j : Int).toNat))) = true := h3
      rw [hgj, Bool.not_eq_true'] at h3
      rw [if_neg (by rw [h3]; decide)] at hwt
      refine ⟨⟨by omega, by omega⟩, by omega, ?_⟩
      refine ⟨j + 1, [], ⟨by omega, by omega⟩, by dsimp only; omega, rfl, rfl, rfl, rfl, rfl, ⟨⟨rfl, wr (by omega) (by omega)⟩, ⟨rfl, ?_⟩⟩, ⟨rfl, rfl, rfl, fun q hq => ?_⟩⟩
      · rw [hwt, List.length_append, wr (by omega) (by omega)]
        rfl
      · show (if q = ((keepF p (S.take j)).length : Int).toNat then Go.Eng.over 0 [AV.i .i64 (movedF p S j (j : Int).toNat)] [AV.i .i64 (movedF p S j q)] else [AV.i .i64 (movedF p S j q)]) = [AV.i .i64 (movedF p S (j + 1) q)]
        rw [Int.toNat_natCast, hgj]
        unfold movedF
        rw [hwt, getD_snoc, List.length_append, List.length_singleton]
        by_cases h1 : q = (keepF p (S.take j)).length
        · have e1 : (if q < (keepF p (S.take j)).length + 1 then (if q < (keepF p (S.take j)).length then (keepF p (S.take j)).getD q 0 else if q = (keepF p (S.take j)).length then S.getD j 0 else 0) else S.getD q 0) = S.getD j 0 := by
            rw [if_pos (show q < (keepF p (S.take j)).length + 1 by omega), if_neg (show ¬ q < (keepF p (S.take j)).length by omega), if_pos h1]
          rw [e1, if_pos h1]
          rfl
        · rw [if_neg h1]
          by_cases h2 : q < (keepF p (S.take j)).length
          · rw [if_pos h2, if_pos (show q < (keepF p (S.take j)).length + 1 by omega), if_pos h2]
          · rw [if_neg h2, if_neg (show ¬ q < (keepF p (S.take j)).length + 1 by omega)]
    · have h3 : (!(p (movedF p S j (j : Int).toNat))) = false := h3
      rw [hgj, Bool.not_eq_false'] at h3
      rw [if_pos h3] at hwt
      refine ⟨j + 1, [], ⟨by omega, by omega⟩, by dsimp only; omega, rfl, rfl, rfl, rfl, rfl, ⟨⟨rfl, wr (by omega) (by omega)⟩, ⟨rfl, by rw [hwt]⟩⟩, ⟨rfl, rfl, rfl, fun q hq => ?_⟩⟩
      show [AV.i .i64 (movedF p S j q)] = [AV.i .i64 (movedF p S (j + 1) q)]
      unfold movedF
      rw [hwt]
  · have hc := dnlt hc
    have hc : (S.length : Int) ≤ j := hc
    obtain rfl : j = S.length := by omega
    have et : S.take S.length = S := List.take_length
    repeat refine Or.inl ?_
    refine ⟨⟨by omega, by omega, by omega⟩, ?_⟩
    repeat refine Or.inl ?_
    refine ⟨⟨by omega, by omega, by omega⟩, ?_⟩
    refine ⟨⟨(), [(1, 1)], trivial, ⟨⟨⟨rfl, rfl, rfl⟩, trivial⟩, ⟨⟨rfl, rfl, trivial, trivial⟩, ⟨rfl, rfl, trivial, ⟨rfl, rfl, ?_, fun q hq => ?_⟩⟩, trivial⟩, rfl⟩, rfl, fun _ => ⟨rfl, trivial, fun _ _ => rfl⟩⟩⟩
    · rw [et]
      omega
    · have hq : q < (keepF p S).length := hq
      show (if ((keepF p (S.take S.length)).length : Int).toNat ≤ q ∧ q < ((keepF p (S.take S.length)).length : Int).toNat + ((S.length : Int) - (keepF p (S.take S.length)).length).toNat then _ else [AV.i .i64 (movedF p S S.length q)]) = [AV.i .i64 ((keepF p S).getD q 0)]
      rw [if_neg (by rw [et]; omega)]
      unfold movedF
      rw [et, if_pos hq]

set_option maxRecDepth 20000 in
theorem delF_none (S : List Int) (hS : S.length ≤ 1000000) (fid : FuncId) (p : Int → Bool) (hp : ∀ x ∈ S, Ctr Try.prog fid [.i .i64 x] [] (.b (p x))) (hno : ∀ x ∈ S, p x = false) :
    CtrM Try.prog 183 false [.row 3 1 S.length (rI S)] [.so 0, .fn fid []] (fun _ : Unit => True) (fun _ => [.row 3 1 S.length (rI S)]) (fun _ => []) (fun _ => .so 0) := by
  refine fn_of_execM tabOk Try.func183 (by kernel_rfl) rfl (N := Try.f183.ntmps) rfl (res := [.tmp 4]) rfl false false [.row 3 1 S.length (rI S)] _ _ _ _ rfl (fun h => by cases h) [] ?_
  have hi : idxG p S = -1 := idxG_none fun j hj => hno _ (getD_memI hj)
  repeat refine Or.inl ?_
  refine ⟨[], _, indexF0_fn S (by omega) fid p hp, ?_⟩
  rw [hi]
  repeat refine Or.inl ?_
  refine ⟨fun _ => ?_, fun h => by cases h⟩
  exact ⟨⟨(), [], trivial, ⟨⟨⟨rfl, rfl, rfl⟩, trivial⟩, ⟨⟨rfl, rfl, trivial, ⟨rfl, rfl, rfl, fun _ _ => rfl⟩⟩, trivial⟩, rfl⟩, rfl, fun _ => ⟨rfl, fun _ _ => rfl⟩⟩⟩

/-! ### small events -/
def fewE (e : Ev) : Bool := (decide ((e.cs.length : Int) ≤ 10) && decide ((e.fs.length : Int) ≤ 10)) && decide ((e.x.size : Int) ≤ 300)
theorem few_fn (e : Ev) : Ctr Try.prog 98 [.ag e.av] [] (.b (fewE e)) := by
  refine fn_of_exec tabOk Try.func98 (by kernel_rfl) rfl (N := Try.f98.ntmps) rfl (res := [.tmp 2]) rfl rfl [] ?_
  exact RetIs.b rfl
/-- At most n events, all small, as far as so many go. -/
def fewAll (l : List Ev) (n : Int) : Bool := ((List.range l.length).all fun i => fewE (l.getD i dE) || !decide ((i : Int) ≤ n)) && decide ((l.length : Int) ≤ n)
set_option maxRecDepth 20000 in
set_option maxHeartbeats 4000000 in
theorem fewAll_fn (l : List Ev) (hl : l.length < 2^63) (n : Int) : Ctr Try.prog 72 [.rs 12 l.length (rE l), .i .i64 n] [] (.b (fewAll l n)) := by
  refine fn_of_exec tabOk Try.func72 (by kernel_rfl) rfl (N := Try.f72.ntmps) rfl (res := [.tmp 4]) rfl rfl [] ?_
  repeat refine Or.inl ?_
  refine ⟨[], Nat, fun k => k ≤ l.length ∧ ∀ j, j < k → fewE (l.getD j dE) = true, fun k => [⟨5, [], .i .i64 k⟩], fun _ => [], fun k => l.length - k,
    ⟨0, [], ⟨Nat.zero_le _, fun j hj => by omega⟩, rfl, rfl, rfl, rfl, rfl, ⟨rfl, rfl⟩, trivial⟩, ?_⟩
  rintro k ⟨hk, hall⟩
  have hk : k ≤ l.length := hk
  refine .inl ⟨fun hc => ?_, fun hc => ?_⟩
  · have hc : (decide ((k : Int) < l.length) && decide ((k : Int) ≤ n)) = true := hc
    rw [Bool.and_eq_true, decide_eq_true_eq, decide_eq_true_eq] at hc
    have ek : (k : Int).toNat = k := Int.toNat_natCast k
    repeat refine Or.inl ?_
    refine ⟨⟨by omega, by omega⟩, ?_⟩
    repeat refine Or.inl ?_
    refine ⟨[], _, few_fn (l.getD (k : Int).toNat dE), ?_⟩
    refine ⟨fun h => ?_, fun h => ?_⟩
    · have h : (!fewE (l.getD (k : Int).toNat dE)) = true := h
      rw [ek, Bool.not_eq_true'] at h
      refine RetIs.b ?_
      unfold fewAll
      rw [range_all_no (p := fun i => fewE (l.getD i dE) || !decide ((i : Int) ≤ n)) (k := k) (by omega) (by rw [h, decide_eq_true hc.2]; rfl)]
      rfl
    · have h : (!fewE (l.getD (k : Int).toNat dE)) = false := h
      rw [ek, Bool.not_eq_false'] at h
      refine ⟨k + 1, [], ⟨by omega, fun j hj => ?_⟩, by dsimp only; omega, rfl, rfl, rfl, rfl, rfl, ⟨rfl, wr (by omega) (by omega)⟩, trivial⟩
      by_cases hjk : j = k
      · rw [hjk]; exact h
      · exact hall j (by omega)
  · have hc : (decide ((k : Int) < l.length) && decide ((k : Int) ≤ n)) = false := hc
    rw [Bool.and_eq_false_iff, decide_eq_false_iff_not, decide_eq_false_iff_not] at hc
    refine RetIs.b ?_
    unfold fewAll
    rcases Nat.lt_or_ge k l.length with hlt | hge
    · rw [decide_eq_false (show ¬ (l.length : Int) ≤ n by omega), Bool.and_false]
    · rw [range_all_yes (p := fun i => fewE (l.getD i dE) || !decide ((i : Int) ≤ n)) fun j hj => by rw [hall j (by omega)]; rfl, Bool.true_and]
theorem fewAll_of {l : List Ev} {n : Int} (h : fewAll l n = true) : (l.length : Int) ≤ n ∧ ∀ e ∈ l, fewE e = true := by
  unfold fewAll at h
  rw [Bool.and_eq_true, decide_eq_true_eq, List.all_eq_true] at h
  refine ⟨h.2, fun e he => ?_⟩
  obtain ⟨j, hj, rfl⟩ := List.getElem_of_mem he
  have := h.1 j (List.mem_range.2 hj)
  rw [gdI hj, Bool.or_eq_true, Bool.not_eq_true', decide_eq_false_iff_not] at this
  rcases this with h1 | h1
  · exact h1
  · omega
set_option maxRecDepth 20000 in
set_option maxHeartbeats 4000000 in
theorem same95_fn (a b : Ev) (h1 : a.cs.length < 2^62) (h2 : b.cs.length < 2^62) (h3 : a.fs.length < 2^62) (h4 : b.fs.length < 2^62) : Ctr Try.prog 95 [.ag a.av, .ag b.av] [] (.b (decide (a = b))) := by
  refine fn_of_exec tabOk Try.func95 (by kernel_rfl) rfl (N := Try.f95.ntmps) rfl (res := [.tmp 4]) rfl rfl [] ?_
  repeat refine Or.inl ?_
  refine ⟨[], _, fun _ => ints63_fn a.cs b.cs h1 h2, ?_⟩
  repeat refine Or.inl ?_
  refine ⟨[], _, fun _ => ints63_fn a.fs b.fs h3 h4, ?_⟩
  refine RetIs.b ?_
  rw [bytesEq_dec, Bool.eq_iff_iff]
  obtain ⟨a1, a2, a3, a4, a5, a6, a7, a8, a9, a10, a11, a12⟩ := a
  obtain ⟨b1, b2, b3, b4, b5, b6, b7, b8, b9, b10, b11, b12⟩ := b
  simp only [Bool.and_eq_true, beq_iff_eq, decide_eq_true_eq, Ev.mk.injEq]
  constructor
  · rintro ⟨⟨⟨⟨⟨⟨⟨⟨⟨⟨⟨e1, e2⟩, e4⟩, e5⟩, e6⟩, e7⟩, e8⟩, e9⟩, e12⟩, e10⟩, e3⟩, e11⟩
    exact ⟨e1, e2, e3, e4, e5, e6, e7, e8, e9, e10, e11, e12⟩
  · rintro ⟨e1, e2, e3, e4, e5, e6, e7, e8, e9, e10, e11, e12⟩
    exact ⟨⟨⟨⟨⟨⟨⟨⟨⟨⟨⟨e1, e2⟩, e4⟩, e5⟩, e6⟩, e7⟩, e8⟩, e9⟩, e12⟩, e10⟩, e3⟩, e11⟩
/-- Their lists are of a length that a number can tell. -/
def okL (l : List Ev) : Prop := ∀ e ∈ l, e.cs.length < 2^62 ∧ e.fs.length < 2^62
theorem getD_memE {l : List Ev} {k : Nat} (h : k < l.length) : l.getD k dE ∈ l := by simp [List.getD, h]
set_option maxRecDepth 20000 in
set_option maxHeartbeats 4000000 in
theorem same80_fn (a b : List Ev) (ha : a.length < 2^62) (hb : b.length < 2^62) (ka : okL a) (kb : okL b) : Ctr Try.prog 80 [.rs 12 a.length (rE a), .rs 12 b.length (rE b)] [] (.b (decide (a = b))) := by
  refine fn_of_exec tabOk Try.func80 (by kernel_rfl) rfl (N := Try.f80.ntmps) rfl (res := [.tmp 4]) rfl rfl [] ?_
  refine .inl ⟨fun h => ?_, fun h => ?_⟩
  · refine RetIs.b ?_
    have h : ((a.length : Int) != b.length) = true := h
    simp at h
    simp
    intro he
    exact h (by rw [he])
  have h : ((a.length : Int) != b.length) = false := h
  simp at h
  have hl : a.length = b.length := by omega
  refine .inl ⟨[], Nat, fun k => k ≤ a.length ∧ eqU dE a b k, fun k => [⟨5, [], .i .i64 k⟩], fun _ => [], fun k => a.length - k,
    ⟨0, [], ⟨Nat.zero_le _, fun j hj => by omega⟩, rfl, rfl, rfl, rfl, rfl, ⟨rfl, rfl⟩, trivial⟩, ?_⟩
  rintro k ⟨hk, he⟩
  refine .inl ⟨fun hc => ?_, fun hc => ?_⟩
  · have hc := dlt hc
    have hc : (k : Int) < a.length := hc
    have ek : (k : Int).toNat = k := Int.toNat_natCast k
    have m1 := ka _ (getD_memE (l := a) (k := (k : Int).toNat) (by omega))
    have m2 := kb _ (getD_memE (l := b) (k := (k : Int).toNat) (by omega))
    repeat refine Or.inl ?_
    refine ⟨⟨by omega, by omega⟩, ?_⟩
    refine ⟨⟨by omega, by omega⟩, ?_⟩
    repeat refine Or.inl ?_
    refine ⟨[], _, same95_fn _ _ m1.1 m2.1 m1.2 m2.2, ?_⟩
    refine ⟨fun h2 => ?_, fun h2 => ?_⟩
    · refine RetIs.b ?_
      have h2 : (!decide (a.getD (k : Int).toNat dE = b.getD (k : Int).toNat dE)) = true := h2
      rw [ek, Bool.not_eq_true', decide_eq_false_iff_not] at h2
      symm
      rw [decide_eq_false_iff_not]
      rintro rfl
      exact h2 rfl
    · have h2 : (!decide (a.getD (k : Int).toNat dE = b.getD (k : Int).toNat dE)) = false := h2
      rw [ek, Bool.not_eq_false', decide_eq_true_eq] at h2
      refine ⟨k + 1, [], ⟨by omega, fun j hj => ?_⟩, by dsimp only; omega, rfl, rfl, rfl, rfl, rfl, ⟨rfl, wr (by omega) (by omega)⟩, trivial⟩
      by_cases hjk : j = k
      · rw [hjk]; exact h2
      · exact he j (by omega)
  · have hc := dnlt hc
    refine RetIs.b ?_
    have hk2 : k = a.length := by omega
    subst hk2
    simp [eqU_all hl he]
end Go.Proofs.Ytnookbebiacaeaa
end

section
/-
  Conversations: what a conversation keeps; what an event names, and whether something is missing.
-/
namespace Go.Proofs.Ytnookbebiacaeaa
open Go.Eng

/-! ### maps whose values are rows of their own -/
section
variable {α γ : Type} [DecidableEq α]
theorem mset_at {L : List (α × γ)} {k : α} {v0 v : γ} (d : α × γ) (h : mget L k = some v0) : ∃ i, i < L.length ∧ (L.getD i d).1 = k ∧ (L.getD i d).2 = v0 ∧ (mset L k v).length = L.length ∧
    ∀ j, j < L.length → ((mset L k v).getD j d).1 = (L.getD j d).1 ∧ ((mset L k v).getD j d).2 = if j = i then v else (L.getD j d).2 := by
  induction L with
  | nil => cases h
  | cons p r ih =>
    unfold mget at h
    split at h
    · rename_i he
      refine ⟨0, by simp, by simpa using he, by simpa using h, ?_, fun j hj => ?_⟩
      · unfold mset; rw [if_pos he]; simp
      · unfold mset
        rw [if_pos he]
        cases j with
        | zero => simp [he]
        | succ j => simp
    · rename_i hne
      obtain ⟨i, h1, h2, h3, h4, h5⟩ := ih h
      refine ⟨i + 1, by simpa using h1, by simpa using h2, by simpa using h3, ?_, fun j hj => ?_⟩
      · unfold mset; rw [if_neg hne]; simp [h4]
      · unfold mset
        rw [if_neg hne]
        cases j with
        | zero => simp
        | succ j =>
          obtain ⟨e1, e2⟩ := h5 j (by simpa using hj)
          simp only [List.getD_cons_succ, Nat.add_right_cancel_iff]
          exact ⟨e1, e2⟩
theorem mset_new {L : List (α × γ)} {k : α} {v : γ} (h : mget L k = none) : mset L k v = L ++ [(k, v)] := by
  induction L with
  | nil => rfl
  | cons p r ih =>
    unfold mget at h
    split at h
    · cases h
    · rename_i hne
      unfold mset
      rw [if_neg hne, ih h]
      rfl
def mrL (kf : α → AV) (vf : γ → KD) (d : α × γ) (L : List (α × γ)) (x : Nat) : AO := .mr L.length (fun i => kf (L.getD i d).1) (fun i => vf (L.getD i d).2) (fun i => i) L.length x none
theorem lookOk_mget' {kf : α → AV} {vf : γ → AV} {d : α × γ} {L : List (α × γ)} (hk : ∀ a b, kf a = kf b → a = b) (k : α) (z : γ) {zv : AV} (hz : AVEq (vf z) zv) :
    LookOk L.length (fun i => kf (L.getD i d).1) (fun i => vf (L.getD i d).2) (kf k) (vf ((mget L k).getD z)) zv (mget L k).isSome := by
  cases h : mget L k with
  | none => exact ⟨fun h => (by cases h), fun _ => ⟨fun i hi he => mget_none h d i hi (hk _ _ he), hz⟩⟩
  | some v =>
    obtain ⟨i, h1, h2, h3⟩ := mget_some h d
    refine ⟨fun _ => ⟨i, h1, congrArg kf h2, ?_⟩, fun h => (by cases h)⟩
    have e : vf ((some v).getD z) = vf (L.getD i d).2 := congrArg vf h3.symm
    rw [e]
    exact AVEq.refl _
end

/-! ### what is kept -/
def dG : Int × List Int := (0, [])
def dD : Int × Bool := (0, false)
def ownStep (L : List (Int × List Int)) (p : Ev × Nat) : List (Int × List Int) := mset L p.1.a ((mget L p.1.a).getD [] ++ [(p.2 : Int)])
/-- The ids of the events of each author. -/
def ownL (E : List Ev) : List (Int × List Int) := E.zipIdx.foldl ownStep []
theorem ownL_snoc (E : List Ev) (e : Ev) : ownL (E ++ [e]) = mset (ownL E) e.a ((mget (ownL E) e.a).getD [] ++ [(E.length : Int)]) := by
  unfold ownL
  rw [List.zipIdx_append, List.foldl_append]
  simp [ownStep]
def idsOf (E : List Ev) (a : Int) : List Int := (mget (ownL E) a).getD []
theorem idsOf_snoc (E : List Ev) (e : Ev) (a : Int) : idsOf (E ++ [e]) a = if a = e.a then idsOf E a ++ [(E.length : Int)] else idsOf E a := by
  unfold idsOf
  rw [ownL_snoc, mget_mset]
  split
  · rename_i h
    rw [h]
    rfl
  · rfl
def delStep (L : List (Int × Bool)) (e : Ev) : List (Int × Bool) := if e.k = 2 then mset L e.t true else L
def delL (E : List Ev) : List (Int × Bool) := E.foldl delStep []
theorem delL_snoc (E : List Ev) (e : Ev) : delL (E ++ [e]) = if e.k = 2 then mset (delL E) e.t true else delL E := by
  unfold delL
  rw [List.foldl_append]
  rfl
/-- The message was deleted. -/
def delB (E : List Ev) (t : Int) : Bool := E.any fun e => (e.k == 2) && (e.t == t)
theorem snoc_ind {α : Type} {p : List α → Prop} (h0 : p []) (h1 : ∀ l x, p l → p (l ++ [x])) (l : List α) : p l := by
  have : ∀ n (l : List α), l.length = n → p l := by
    intro n
    induction n with
    | zero => intro l h; rw [List.length_eq_zero_iff.1 h]; exact h0
    | succ n ih =>
      intro l h
      have hne : l ≠ [] := by intro e; rw [e] at h; simp at h
      rw [← List.dropLast_concat_getLast hne]
      exact h1 _ _ (ih _ (by simp [h]))
  exact this _ l rfl
theorem delB_snoc (E : List Ev) (e : Ev) (t : Int) : delB (E ++ [e]) t = (delB E t || ((e.k == 2) && (e.t == t))) := by
  unfold delB
  rw [List.any_append]
  simp
theorem delB_get (E : List Ev) (t : Int) : (mget (delL E) t).getD false = delB E t := by
  refine snoc_ind (p := fun E => (mget (delL E) t).getD false = delB E t) rfl (fun E e ih => ?_) E
  rw [delL_snoc, delB_snoc]
  by_cases hk : e.k = 2
  · rw [if_pos hk, mget_mset, hk]
    by_cases ht : t = e.t
    · rw [if_pos ht, ht]; simp
    · rw [if_neg ht, ih]
      have : (e.t == t) = false := by simpa using Ne.symm ht
      rw [this]; simp
  · rw [if_neg hk, ih]
    have : (e.k == 2) = false := by simpa using hk
    rw [this]; simp
/-- The ids of an author's events are those events' places, ascending. -/
theorem idsOf_spec (E : List Ev) (a : Int) : (∀ x ∈ idsOf E a, 0 ≤ x ∧ x < E.length ∧ (E.getD x.toNat dE).a = a) ∧ (idsOf E a).Pairwise (· < ·) ∧ ∀ k, k < E.length → (E.getD k dE).a = a → (k : Int) ∈ idsOf E a := by
  refine snoc_ind (p := fun E => (∀ x ∈ idsOf E a, 0 ≤ x ∧ x < E.length ∧ (E.getD x.toNat dE).a = a) ∧ (idsOf E a).Pairwise (· < ·) ∧ ∀ k, k < E.length → (E.getD k dE).a = a → (k : Int) ∈ idsOf E a) ⟨fun x hx => (by cases hx), List.Pairwise.nil, fun k hk => absurd hk (Nat.not_lt_zero k)⟩ (fun E e ⟨h1, h2, h3⟩ => ?_) E
  have hold : ∀ x ∈ idsOf E a, 0 ≤ x ∧ x < (E ++ [e]).length ∧ ((E ++ [e]).getD x.toNat dE).a = a := fun x hx => by
    obtain ⟨a1, a2, a3⟩ := h1 x hx
    refine ⟨a1, by rw [List.length_append]; simp; omega, ?_⟩
    rw [getD_snoc, if_pos (by omega)]
    exact a3
  have hnew : ∀ k, k < (E ++ [e]).length → ((E ++ [e]).getD k dE).a = a → (k < E.length ∧ (k : Int) ∈ idsOf E a) ∨ (k = E.length ∧ e.a = a) := fun k hk ha => by
    rw [List.length_append, List.length_singleton] at hk
    rw [getD_snoc] at ha
    by_cases hkl : k < E.length
    · rw [if_pos hkl] at ha
      exact .inl ⟨hkl, h3 k hkl ha⟩
    · rw [if_neg hkl, if_pos (by omega)] at ha
      exact .inr ⟨by omega, ha⟩
  rw [idsOf_snoc]
  by_cases hae : a = e.a
  · rw [if_pos hae]
    refine ⟨fun x hx => ?_, ?_, fun k hk ha => ?_⟩
    · rcases List.mem_append.1 hx with hx | hx
      · exact hold x hx
      · rw [List.mem_singleton] at hx
        subst hx
        refine ⟨by omega, by rw [List.length_append, List.length_singleton]; omega, ?_⟩
        rw [Int.toNat_natCast, getD_snoc, if_neg (by omega), if_pos rfl]
        exact hae.symm
    · rw [List.pairwise_append]
      refine ⟨h2, List.pairwise_singleton _ _, fun x hx y hy => ?_⟩
      rw [List.mem_singleton] at hy
      rw [hy]
      exact (h1 x hx).2.1
    · rcases hnew k hk ha with ⟨_, h⟩ | ⟨h, _⟩
      · exact List.mem_append_left _ h
      · rw [h]; exact List.mem_append_right _ (by simp)
  · rw [if_neg hae]
    refine ⟨hold, h2, fun k hk ha => ?_⟩
    rcases hnew k hk ha with ⟨_, h⟩ | ⟨_, h⟩
    · exact h
    · exact absurd h.symm hae
/-- Numbers that ascend within bounds are not more than the bound. -/
theorem asc_len {l : List Int} {n : Nat} (h : l.Pairwise (· < ·)) (hb : ∀ x ∈ l, 0 ≤ x ∧ x < n) : l.length ≤ n := by
  have key : ∀ (l : List Int) (a : Int), l.Pairwise (· < ·) → (∀ x ∈ l, a ≤ x ∧ x < n) → l ≠ [] → a + l.length ≤ n := by
    intro l
    induction l with
    | nil => intro a _ _ h; exact absurd rfl h
    | cons x r ih =>
      intro a hp hb _
      rw [List.pairwise_cons] at hp
      have hx := hb x (by simp)
      cases hr : r with
      | nil => simp; omega
      | cons y s =>
        have := ih (x + 1) hp.2 (fun z hz => ⟨by have := hp.1 z hz; omega, (hb z (by simp [hz])).2⟩) (by rw [hr]; simp)
        rw [hr] at this
        simp at this ⊢
        omega
  by_cases he : l = []
  · rw [he]; exact Nat.zero_le _
  · have := key l 0 h hb he
    omega
/-! ### read only: what is seen of a conversation -/
def ownG (E : List Ev) : AV := .rm (ownL E).length (fun i => .i .i64 ((ownL E).getD i dG).1) (fun i => .rs 1 ((ownL E).getD i dG).2.length (rI ((ownL E).getD i dG).2))
def delG (E : List Ev) : AV := .rm (delL E).length (fun i => .i .i64 ((delL E).getD i dD).1) (fun i => .b ((delL E).getD i dD).2)
def cvA (E : List Ev) : List AV := [.rs 12 E.length (rE E), ownG E, delG E]
theorem len_fn (E : List Ev) : Ctr Try.prog 79 [.rp (cvA E)] [] (.i .i64 E.length) := by
  refine fn_of_exec tabOk Try.func79 (by kernel_rfl) rfl (N := Try.f79.ntmps) rfl (res := [.tmp 2]) rfl rfl [] ?_
  exact RetIs.i rfl
/-- What missing looks at: the events alone. -/
def cvX (E : List Ev) (x y : AV) : List AV := [.rs 12 E.length (rE E), x, y]
theorem missing1_fn (E : List Ev) (o d : AV) (x : Int) : Ctr Try.prog 179 [.i .i64 x, .rp [.rp (cvX E o d)]] [] (.b (decide (x ≥ (E.length : Int)))) := by
  refine fn_of_exec tabOk Try.func179 (by kernel_rfl) rfl (N := Try.f179.ntmps) rfl (res := [.tmp 3]) rfl rfl [] ?_
  exact RetIs.b rfl
def missE (E : List Ev) (e : Ev) : Bool := (e.t :: e.q :: e.cs).any fun x => decide (x ≥ (E.length : Int))
theorem two_rows (x y : Int) (l : List Int) : ∀ k, k < (x :: y :: l).length → catG 2 (rowOf 1 [.i .i64 x, .i .i64 y]) (rI l) k = rI (x :: y :: l) k := by
  intro k hk
  unfold catG
  match k with
  | 0 => rfl
  | 1 => rfl
  | k + 2 => rw [if_neg (by omega)]; rfl
set_option maxRecDepth 20000 in
set_option maxHeartbeats 4000000 in
theorem missing_fn (E : List Ev) (o d : AV) (e : Ev) (h1 : e.cs.length ≤ 100) : Ctr Try.prog 137 [.rp (cvX E o d), .ag e.av] [] (.b (missE E e)) := by
  refine fn_of_exec tabOk Try.func137 (by kernel_rfl) rfl (N := Try.f137.ntmps) rfl (res := [.tmp 4]) rfl rfl [] ?_
  repeat refine Or.inl ?_
  refine ⟨fits (by omega), ?_⟩
  refine Or.inl ?_
  refine ⟨[], _, Ctr.of_eq (args := [.rs 1 (e.t :: e.q :: e.cs).length (rI (e.t :: e.q :: e.cs)), .fn 179 [.rp [.rp (cvX E o d)]]]) ⟨⟨rfl, ?_, ?_⟩, AVEq.refl _⟩ (containsF_fn (e.t :: e.q :: e.cs) (by simp; omega) 179 _ _ (fun x _ => missing1_fn E o d x)), ?_⟩
  · show 2 + _ = _
    simp; omega
  · exact fun k hk => two_rows _ _ _ k hk
  · exact RetIs.b rfl
/-- The ids that an event names. -/
def rawN (E : List Ev) (e : Ev) : List Int := (e.t :: e.q :: e.cs) ++ (if e.s > 0 then [(idsOf E e.a).getD (e.s - 1).toNat 0] else [])
def namesE (E : List Ev) (e : Ev) : List Int := keepF (fun x => decide (x < 0)) (rawN E e)
theorem names1_fn (x : Int) : Ctr Try.prog 184 [.i .i64 x] [] (.b (decide (x < 0))) := by
  refine fn_of_exec tabOk Try.func184 (by kernel_rfl) rfl (N := Try.f184.ntmps) rfl (res := [.tmp 2]) rfl rfl [] ?_
  exact RetIs.b rfl
theorem keysI {n : Nat} {g : Nat → Int} : KeysFit T 3 n fun i => .i .i64 (g i) := fun _ _ => rfl
theorem look_own (E : List Ev) (a : Int) : LookOk (ownL E).length (fun i => .i .i64 ((ownL E).getD i dG).1) (fun i => .rs 1 ((ownL E).getD i dG).2.length (rI ((ownL E).getD i dG).2)) (.i .i64 a) (.rs 1 (idsOf E a).length (rI (idsOf E a))) (.val (.slice none 0 0)) (mget (ownL E) a).isSome :=
  lookOk_mget' (kf := fun a => .i .i64 a) (vf := fun l : List Int => .rs 1 l.length (rI l)) (d := dG) i64_inj a [] (show AVEq (.rs 1 0 (rI [])) (.val (.slice none 0 0)) from ⟨rfl, rfl⟩)
set_option maxRecDepth 20000 in
set_option maxHeartbeats 8000000 in
theorem names_fn (E : List Ev) (e : Ev) (h1 : e.cs.length ≤ 100) (hs : e.s ≤ (idsOf E e.a).length) (hl : (idsOf E e.a).length < 2^62) : Ctr Try.prog 145 [.rp (cvA E), .ag e.av] [.row 3 1 (namesE E e).length (rI (namesE E e))] (.so 0) := by
  refine fn_of_exec tabOk Try.func145 (by kernel_rfl) rfl (N := Try.f145.ntmps) rfl (res := [.tmp 4]) rfl rfl [(1000001, [.sl 13 .u])] ?_
  have hlen : (rawN E e).length ≤ 103 := by unfold rawN; split <;> simp <;> omega
  repeat refine Or.inl ?_
  refine ⟨fits (by omega), ?_⟩
  refine ⟨trivial, ?_⟩
  refine Or.inr ⟨[], Unit, fun _ => True, fun _ => [⟨5, [], .so 2⟩], fun _ => [⟨2, [], .row 3 1 (rawN E e).length (rI (rawN E e))⟩], ?_, fun _ _ => ?_⟩
  · repeat refine Or.inl ?_
    refine ⟨fun h => ?_, fun h => ?_⟩
    · have h : decide (e.s > 0) = true := h
      rw [decide_eq_true_eq] at h
      have e1 : IntKind.i64.wrap (e.s - 1) = e.s - 1 := wr (by omega) (by omega)
      have hraw : rawN E e = (e.t :: e.q :: e.cs) ++ [(idsOf E e.a).getD (IntKind.i64.wrap (e.s - 1)).toNat 0] := by unfold rawN; rw [if_pos h, e1]
      refine ⟨_, _, ⟨keysI, rfl, look_own E e.a⟩, ?_⟩
      refine ⟨⟨by omega, by omega⟩, ?_⟩
      refine ⟨fits (by omega), ?_⟩
      have ao : AOEq (.row 3 1 (rawN E e).length (rI (rawN E e))) (.row 3 1 (2 + e.cs.length + 1) (catG (2 + e.cs.length) (catG 2 (rowOf 1 [.i .i64 e.t, .i .i64 e.q]) (rI e.cs)) (rowOf 1 [.i .i64 ((idsOf E e.a).getD (IntKind.i64.wrap (e.s - 1)).toNat 0)]))) := by
        refine ⟨rfl, rfl, by rw [hraw]; simp; omega, fun k hk => ?_⟩
        rw [hraw] at hk ⊢
        have hl2 : (e.t :: e.q :: e.cs).length = 2 + e.cs.length := by simp; omega
        rw [List.length_append, List.length_singleton, hl2] at hk
        unfold catG
        by_cases hk2 : k < 2 + e.cs.length
        · rw [if_pos hk2]
          refine (two_rows _ _ _ k (by omega)).trans ?_
          unfold rI
          rw [getD_snoc, if_pos (by omega)]
        · rw [if_neg hk2]
          have : k = 2 + e.cs.length := by omega
          subst this
          unfold rI
          rw [getD_snoc, if_neg (by omega), if_pos (by omega)]
          simp [rowOf]
      refine ⟨(), [(2, 4)], trivial, rfl, rfl, rfl, rfl, rfl, rfl, ?_⟩
      exact ao
    · have h : decide (e.s > 0) = false := h
      rw [decide_eq_false_iff_not] at h
      have hraw : rawN E e = e.t :: e.q :: e.cs := by unfold rawN; rw [if_neg h, List.append_nil]
      refine ⟨(), [], trivial, rfl, rfl, rfl, rfl, rfl, rfl, ⟨rfl, rfl, ?_, fun k hk => ?_⟩⟩
      · rw [hraw]; show 2 + _ = _; simp; omega
      · rw [hraw] at hk ⊢
        exact two_rows _ _ _ k hk
  · cases hany : (rawN E e).any fun x => decide (x < 0) with
    | true =>
      have hex : ∃ x ∈ rawN E e, decide (x < 0) = true := by rw [List.any_eq_true] at hany; exact hany
      refine Or.inr (Or.inr ?_)
      refine ⟨false, [2], rfl, Unit, _, _, _, _, delF_some (rawN E e) (by omega) 184 (fun x => decide (x < 0)) (fun x _ => names1_fn x) hex, fun _ _ => ?_⟩
      exact RetIs.so rfl rfl (fun _ _ => rfl) (fun _ _ => rfl)
    | false =>
      have hno : ∀ x ∈ rawN E e, decide (x < 0) = false := fun x hx => by
        rw [List.any_eq_false] at hany
        simpa using hany x hx
      have hk : namesE E e = rawN E e := by
        unfold namesE keepF
        rw [List.filter_eq_self]
        intro x hx
        have := hno x hx
        show (!decide (x < 0)) = true
        rw [this]
        rfl
      rw [hk]
      refine Or.inr (Or.inr ?_)
      refine ⟨false, [2], rfl, Unit, _, _, _, _, delF_none (rawN E e) (by omega) 184 (fun x => decide (x < 0)) (fun x _ => names1_fn x) hno, fun _ _ => ?_⟩
      exact RetIs.so rfl rfl (fun _ _ => rfl) (fun _ _ => rfl)
end Go.Proofs.Ytnookbebiacaeaa
end
