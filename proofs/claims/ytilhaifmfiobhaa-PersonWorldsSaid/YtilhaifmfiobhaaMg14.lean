/-
  Several texts in one: So, St.
-/
import Derived.Shelf.SortM.Plain
import Derived.Shelf.SortM.SortNone
import Derived.Shelf.Slices.CompactI
import Derived.Test.YtilhaifmfiobhaaMg13

section
/-
  Numbers sorted, and each once: the kit's contracts on slices.Sort and slices.Compact, laid at this program.
-/
namespace Go.Proofs.Ytilhaifmfiobhaa
open Go.Eng Go.RowKit Go.Maps Go.Sort Go.Shelf

def sortA_ren : Go.Shelf.Ren := ⟨fun | 5 => 110 | 8 => 126 | 7 => 125 | 19 => 140 | 20 => 141 | 10 => 131 | 11 => 132 | 12 => 133 | 13 => 134 | 14 => 135 | 15 => 136 | 16 => 137 | 17 => 138 | 18 => 139 | 30 => 143 | 31 => 144 | 32 => 145 | 33 => 146 | 34 => 147 | 35 => 148 | 40 => 149 | n => n, fun | 23 => 23 | 25 => 3 | 3 => 3 | 32 => 136 | 22 => 23 | 0 => 0 | 44 => 149 | 46 => 151 | 4 => 4 | 36 => 142 | 35 => 141 | 41 => 60 | 5 => 5 | 9 => 9 | 53 => 153 | 57 => 157 | 63 => 159 | 64 => 160 | n => n, fun | n => n⟩
theorem sortA : Go.Proofs.SlLaysM.n5 Try.prog sortA_ren := {
  mixed := by kernel_rfl,
  f5 := ⟨Try.f110.name, by decide, Try.func110.trans (congrArg some (by kernel_rfl))⟩,
  f7 := ⟨Try.f125.name, by decide, Try.func125.trans (congrArg some (by kernel_rfl))⟩,
  f8 := Try.func126.trans (congrArg some (by kernel_rfl)),
  f10 := ⟨Try.f131.name, by decide, Try.func131.trans (congrArg some (by kernel_rfl))⟩,
  f11 := ⟨Try.f132.name, by decide, Try.func132.trans (congrArg some (by kernel_rfl))⟩,
  f12 := ⟨Try.f133.name, by decide, Try.func133.trans (congrArg some (by kernel_rfl))⟩,
  f13 := ⟨Try.f134.name, by decide, Try.func134.trans (congrArg some (by kernel_rfl))⟩,
  f14 := ⟨Try.f135.name, by decide, Try.func135.trans (congrArg some (by kernel_rfl))⟩,
  f15 := ⟨Try.f136.name, by decide, Try.func136.trans (congrArg some (by kernel_rfl))⟩,
  f16 := ⟨Try.f137.name, by decide, Try.func137.trans (congrArg some (by kernel_rfl))⟩,
  f17 := ⟨Try.f138.name, by decide, Try.func138.trans (congrArg some (by kernel_rfl))⟩,
  f18 := ⟨Try.f139.name, by decide, Try.func139.trans (congrArg some (by kernel_rfl))⟩,
  f19 := Try.func140.trans (congrArg some (by kernel_rfl)),
  f20 := Try.func141.trans (congrArg some (by kernel_rfl)),
  f30 := ⟨Try.f143.name, by decide, Try.func143.trans (congrArg some (by kernel_rfl))⟩,
  f31 := Try.func144.trans (congrArg some (by kernel_rfl)),
  f32 := Try.func145.trans (congrArg some (by kernel_rfl)),
  f33 := ⟨Try.f146.name, by decide, Try.func146.trans (congrArg some (by kernel_rfl))⟩,
  f34 := ⟨Try.f147.name, by decide, Try.func147.trans (congrArg some (by kernel_rfl))⟩,
  f35 := ⟨Try.f148.name, by decide, Try.func148.trans (congrArg some (by kernel_rfl))⟩,
  f40 := ⟨Try.f149.name, by decide, Try.func149.trans (congrArg some (by kernel_rfl))⟩,
  t0 := Try.underlying0,
  a0 := Try.isAgg0,
  z0 := Try.sizeOf0,
  v0 := Try.zeroValue0,
  t3 := Try.underlying3,
  a3 := Try.isAgg3,
  z3 := Try.sizeOf3,
  v3 := Try.zeroValue3,
  t4 := Try.underlying4,
  a4 := Try.isAgg4,
  z4 := Try.sizeOf4,
  v4 := Try.zeroValue4,
  t5 := Try.underlying5,
  a5 := Try.isAgg5,
  z5 := Try.sizeOf5,
  v5 := Try.zeroValue5,
  t9 := Try.underlying9,
  a9 := Try.isAgg9,
  z9 := Try.sizeOf9,
  v9 := Try.zeroValue9,
  t22 := Try.underlying23,
  a22 := Try.isAgg23,
  z22 := Try.sizeOf23,
  v22 := Try.zeroValue23,
  t23 := Try.underlying23,
  a23 := Try.isAgg23,
  z23 := Try.sizeOf23,
  v23 := Try.zeroValue23,
  t25 := Try.underlying3,
  a25 := Try.isAgg3,
  z25 := Try.sizeOf3,
  v25 := Try.zeroValue3,
  t32 := Try.underlying136,
  a32 := Try.isAgg136,
  z32 := Try.sizeOf136,
  v32 := Try.zeroValue136,
  t35 := Try.underlying141,
  a35 := Try.isAgg141,
  z35 := Try.sizeOf141,
  v35 := Try.zeroValue141,
  t36 := Try.underlying142,
  a36 := Try.isAgg142,
  z36 := Try.sizeOf142,
  v36 := Try.zeroValue142,
  t41 := Try.underlying60,
  a41 := Try.isAgg60,
  z41 := Try.sizeOf60,
  v41 := Try.zeroValue60,
  t44 := Try.underlying149,
  a44 := Try.isAgg149,
  z44 := Try.sizeOf149,
  v44 := Try.zeroValue149,
  t46 := Try.underlying151,
  a46 := Try.isAgg151,
  z46 := Try.sizeOf151,
  v46 := Try.zeroValue151,
  t53 := Try.underlying153,
  a53 := Try.isAgg153,
  z53 := Try.sizeOf153,
  v53 := Try.zeroValue153,
  t57 := Try.underlying157,
  a57 := Try.isAgg157,
  z57 := Try.sizeOf157,
  v57 := Try.zeroValue157,
  t63 := Try.underlying159,
  a63 := Try.isAgg159,
  z63 := Try.sizeOf159,
  v63 := Try.zeroValue159,
  t64 := Try.underlying160,
  a64 := Try.isAgg160,
  z64 := Try.sizeOf160,
  v64 := Try.zeroValue160 }

def compA_ren : Go.Shelf.Ren := ⟨fun | 20 => 122 | n => n, fun | 22 => 23 | 0 => 0 | 3 => 3 | 4 => 4 | n => n, fun | n => n⟩
theorem compA : Go.Proofs.Lays2.n20 Try.prog compA_ren := {
  mixed := by kernel_rfl,
  f20 := Try.func122.trans (congrArg some (by kernel_rfl)),
  t0 := Try.underlying0,
  a0 := Try.isAgg0,
  z0 := Try.sizeOf0,
  v0 := Try.zeroValue0,
  t3 := Try.underlying3,
  a3 := Try.isAgg3,
  z3 := Try.sizeOf3,
  v3 := Try.zeroValue3,
  t4 := Try.underlying4,
  a4 := Try.isAgg4,
  z4 := Try.sizeOf4,
  v4 := Try.zeroValue4,
  t22 := Try.underlying23,
  a22 := Try.isAgg23,
  z22 := Try.sizeOf23,
  v22 := Try.zeroValue23,
  i3 := by kernel_rfl }
theorem compact_le (zs : List Int) : (Lib.compact zs).length ≤ zs.length := by
  unfold Lib.compact Lib.compactUpTo
  rw [List.length_map]
  refine Nat.le_trans (List.length_filter_le _ _) ?_
  simp
theorem sortsRow : SortsRow Try.prog 110 :=
  ⟨⟨_, Try.func110, by kernel_rfl, rfl⟩, fun blk off cap ss W hH hblk hsz => AnyM.slices_Sort_int sortA blk off cap ss W hH hblk hsz, fun p cap W => AnyM.slices_Sort_int_none sortA p cap W⟩
theorem compactsRow : CompactsRow Try.prog 122 Lib.compact :=
  ⟨⟨_, Try.func122, by kernel_rfl, rfl⟩, compact_le, fun blk off cap ss W hH h1 h2 _ => Any.slices_Compact_int compA blk off cap ss W hH h1 h2, fun p cap W => Any.slices_Compact_int_empty compA p cap W⟩

/-- Of an ascending list that may have a number twice, each once. -/
theorem compact_asc {zs : List Int} (h : zs.Pairwise (· ≤ ·)) : (Lib.compact zs).Pairwise (· < ·) ∧ ∀ x, x ∈ Lib.compact zs ↔ x ∈ zs := by
  have hg : ∀ j, j < zs.length → zs.toArray[j]! = zs.getD j 0 := fun j hj => by simp [hj]
  have hle : ∀ i j, i ≤ j → j < zs.length → zs.getD i 0 ≤ zs.getD j 0 := by
    intro i j hij hj
    by_cases he : i = j
    · subst he; omega
    · have := List.pairwise_iff_getElem.1 h i j (by omega) hj (by omega)
      simpa [List.getD, hj, show i < zs.length by omega] using this
  have hsz : zs.toArray.size = zs.length := by simp
  constructor
  · unfold Lib.compact Lib.compactUpTo
    rw [List.pairwise_map]
    refine List.Pairwise.imp_of_mem ?_ ((List.pairwise_lt_range (n := zs.length)).filter _)
    intro a b ha hb hab
    rw [List.mem_filter, List.mem_range] at ha hb
    have hk := hb.2
    unfold Lib.keeps at hk
    rw [decide_eq_true_eq] at hk
    rw [hg a ha.1, hg b hb.1]
    rw [hg b hb.1, hg (b - 1) (by omega)] at hk
    have h1 := hle a (b - 1) (by omega) (by omega)
    have h2 := hle (b - 1) b (by omega) (by omega)
    omega
  · intro x
    unfold Lib.compact Lib.compactUpTo
    simp only [List.mem_map, List.mem_filter, List.mem_range]
    constructor
    · rintro ⟨j, ⟨hj, _⟩, rfl⟩
      rw [hg j hj]
      simp [List.getD, hj]
    · intro hx
      obtain ⟨j, hj, rfl⟩ := List.getElem_of_mem hx
      have key : ∀ j, j < zs.length → ∃ a, (a < zs.length ∧ Lib.keeps zs.toArray a = true) ∧ zs.getD a 0 = zs.getD j 0 := by
        intro j
        induction j with
        | zero => exact fun hj => ⟨0, ⟨hj, by simp [Lib.keeps]⟩, rfl⟩
        | succ j ih =>
          intro hj
          by_cases he : zs.getD (j + 1) 0 = zs.getD j 0
          · obtain ⟨a, ha, hb⟩ := ih (by omega)
            exact ⟨a, ha, hb.trans he.symm⟩
          · refine ⟨j + 1, ⟨hj, ?_⟩, rfl⟩
            unfold Lib.keeps
            rw [decide_eq_true_eq, hg (j + 1) hj]
            right
            rw [show j + 1 - 1 = j from rfl, hg j (by omega)]
            exact he
      obtain ⟨a, ha, hb⟩ := key j hj
      refine ⟨a, ha, ?_⟩
      rw [hg a ha.1, hb]
      simp [List.getD, hj]
theorem sortI_le (l : List Int) : (sortI l).Pairwise (· ≤ ·) := by
  have := List.pairwise_mergeSort (le := fun x y : Int => decide (x ≤ y)) (fun a b c h1 h2 => by simp at *; omega) (fun a b => by simp; omega) l
  exact this.imp fun h => by simpa using h
theorem sortI_mem {l : List Int} {x : Int} : x ∈ sortI l ↔ x ∈ l := List.mem_mergeSort
/-- Each of a list's numbers once, ascending. -/
def setI (l : List Int) : List Int := Lib.compact (sortI l)
theorem setI_asc (l : List Int) : (setI l).Pairwise (· < ·) := (compact_asc (sortI_le l)).1
theorem setI_mem {l : List Int} {x : Int} : x ∈ setI l ↔ x ∈ l := ((compact_asc (sortI_le l)).2 x).trans sortI_mem
theorem setI_len (l : List Int) : (setI l).length ≤ l.length := by
  have := compact_le (sortI l)
  rw [sortI_length] at this
  exact this

end Go.Proofs.Ytilhaifmfiobhaa
end

section
/-
  Sets of numbers as maps to true.
-/
namespace Go.Proofs.Ytilhaifmfiobhaa
open Go.Eng

/-- A set of one's own, in the order in which its numbers came. -/
def setO (S : List Int) : AO := .mp S.length (fun i => .i .i64 (S.getD i 0)) (fun _ => .b true) (fun i => i) S.length
def ins (S : List Int) (k : Int) : List Int := if k ∈ S then S else S ++ [k]
theorem mem_ins {S : List Int} {k x : Int} : x ∈ ins S k ↔ x ∈ S ∨ x = k := by
  unfold ins
  split
  · rename_i h
    exact ⟨.inl, fun h2 => h2.elim id fun e => e ▸ h⟩
  · rw [List.mem_append, List.mem_singleton]
theorem ins_new {S : List Int} {k : Int} (h : k ∉ S) : ins S k = S ++ [k] := if_neg h
theorem ins_old {S : List Int} {k : Int} (h : k ∈ S) : ins S k = S := if_pos h
theorem ins_nodup {S : List Int} {k : Int} (h : S.Nodup) : (ins S k).Nodup := by
  unfold ins
  split
  · exact h
  · rename_i hn
    rw [List.nodup_append]
    refine ⟨h, by simp, ?_⟩
    intro a ha b hb
    simp at hb
    subst hb
    rintro rfl
    exact hn ha
theorem getD_snocI (L : List Int) (x : Int) (j : Nat) : (L ++ [x]).getD j 0 = if j < L.length then L.getD j 0 else if j = L.length then x else 0 := by
  simp only [List.getD]
  by_cases h : j < L.length
  · rw [if_pos h, List.getElem?_append_left h]
  · rw [if_neg h, List.getElem?_append_right (by omega)]
    by_cases h2 : j = L.length
    · rw [if_pos h2, h2]; simp
    · rw [if_neg h2, List.getElem?_eq_none (by simp; omega)]; rfl
theorem lookOk_set (S : List Int) (k : Int) : LookOk S.length (fun i => .i .i64 (S.getD i 0)) (fun _ => .b true) (.i .i64 k) (.b (decide (k ∈ S))) (.b false) (decide (k ∈ S)) := by
  by_cases h : k ∈ S
  · rw [decide_eq_true h]
    obtain ⟨i, hi, e⟩ := mem_getDX h
    exact ⟨fun _ => ⟨i, hi, by dsimp only; rw [e], AVEq.refl _⟩, fun h => (by cases h)⟩
  · rw [decide_eq_false h]
    refine ⟨fun h => (by cases h), fun _ => ⟨fun i hi e => h ?_, AVEq.refl _⟩⟩
    have e := i64_inj _ _ e
    rw [← e]
    exact getD_memX hi
theorem updOk_set (S : List Int) (k : Int) : UpdOk S.length (fun i => .i .i64 (S.getD i 0)) (fun _ => .b true) (fun i => i) S.length (.i .i64 k) (.b true) (ins S k).length (fun i => .i .i64 ((ins S k).getD i 0)) (fun _ => .b true) (fun i => i) (ins S k).length := by
  by_cases h : k ∈ S
  · rw [ins_old h]
    obtain ⟨i, hi, e⟩ := mem_getDX h
    refine .inl ⟨i, hi, by dsimp only; rw [e], rfl, rfl, fun j hj => ⟨rfl, rfl, ?_⟩⟩
    split <;> rfl
  · rw [ins_new h]
    refine .inr ⟨fun i hi e => h ?_, by simp, by simp, fun j hj => ⟨?_, rfl, rfl⟩, ?_, rfl, rfl⟩
    · have e := i64_inj _ _ e
      rw [← e]
      exact getD_memX hi
    · dsimp only; rw [getD_snocI, if_pos hj]
    · dsimp only; rw [getD_snocI, if_neg (by omega), if_pos rfl]
end Go.Proofs.Ytilhaifmfiobhaa
end
