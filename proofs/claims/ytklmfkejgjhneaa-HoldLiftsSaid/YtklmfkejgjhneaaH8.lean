/-
  Holds: Due.
-/
import Derived.Shelf.Slices.CompactI
import Derived.Test.YtklmfkejgjhneaaEngT
import Derived.Test.YtklmfkejgjhneaaS13
import Derived.Test.YtklmfkejgjhneaaH7
namespace Go.Proofs.Ytklmfkejgjhneaa
open Go.Eng Go.RowKit Go.Maps Go.Sort Go.Shelf

def compA_ren : Go.Shelf.Ren := ⟨fun | 20 => 87 | n => n, fun | 22 => 29 | 0 => 0 | 3 => 3 | 4 => 4 | n => n, fun | n => n⟩
theorem compA : Go.Proofs.Lays2.n20 Try.prog compA_ren := {
  mixed := by kernel_rfl,
  f20 := Try.func87.trans (congrArg some (by kernel_rfl)),
  t0 := Try.underlying0,
  a0 := Try.isAgg0,
  z0 := Try.sizeOf0,
  v0 := Try.zeroValue0,
  t3 := Try.underlying3,
  a3 := Try.isAgg3,
  z3 := Try.sizeOf3,
  v3 := Try.zeroValue3,
  t4 := Try.underlying4,
  a4 := Try.isAgg4,
  z4 := Try.sizeOf4,
  v4 := Try.zeroValue4,
  t22 := Try.underlying29,
  a22 := Try.isAgg29,
  z22 := Try.sizeOf29,
  v22 := Try.zeroValue29,
  i3 := by kernel_rfl }
theorem compact_le (zs : List Int) : (Lib.compact zs).length ≤ zs.length := by
  unfold Lib.compact Lib.compactUpTo
  rw [List.length_map]
  refine Nat.le_trans (List.length_filter_le _ _) ?_
  simp
theorem sortsRow : SortsRow Try.prog 86 :=
  ⟨⟨_, Try.func86, by kernel_rfl, rfl⟩, fun blk off cap ss W hH hblk hsz => AnyM.slices_Sort_int sortA blk off cap ss W hH hblk hsz, fun p cap W => AnyM.slices_Sort_int_none sortA p cap W⟩
theorem compactsRow : CompactsRow Try.prog 87 Lib.compact :=
  ⟨⟨_, Try.func87, by kernel_rfl, rfl⟩, compact_le, fun blk off cap ss W hH h1 h2 _ => Any.slices_Compact_int compA blk off cap ss W hH h1 h2, fun p cap W => Any.slices_Compact_int_empty compA p cap W⟩

/-- Of an ascending list that may have a number twice, each once. -/
theorem compact_asc {zs : List Int} (h : zs.Pairwise (· ≤ ·)) : (Lib.compact zs).Pairwise (· < ·) ∧ ∀ x, x ∈ Lib.compact zs ↔ x ∈ zs := by
  have hg : ∀ j, j < zs.length → zs.toArray[j]! = zs.getD j 0 := fun j hj => by simp [hj]
  have hle : ∀ i j, i ≤ j → j < zs.length → zs.getD i 0 ≤ zs.getD j 0 := by
    intro i j hij hj
    by_cases he : i = j
    · subst he; omega
    · have := List.pairwise_iff_getElem.1 h i j (by omega) hj (by omega)
      simpa [List.getD, hj, show i < zs.length by omega] using this
  have hsz : zs.toArray.size = zs.length := by simp
  constructor
  · unfold Lib.compact Lib.compactUpTo
    rw [List.pairwise_map]
    refine List.Pairwise.imp_of_mem ?_ ((List.pairwise_lt_range (n := zs.length)).filter _)
    intro a b ha hb hab
    rw [List.mem_filter, List.mem_range] at ha hb
    have hk := hb.2
    unfold Lib.keeps at hk
    rw [decide_eq_true_eq] at hk
    rw [hg a ha.1, hg b hb.1]
    rw [hg b hb.1, hg (b - 1) (by omega)] at hk
    have h1 := hle a (b - 1) (by omega) (by omega)
    have h2 := hle (b - 1) b (by omega) (by omega)
    omega
  · intro x
    unfold Lib.compact Lib.compactUpTo
    simp only [List.mem_map, List.mem_filter, List.mem_range]
    constructor
    · rintro ⟨j, ⟨hj, _⟩, rfl⟩
      rw [hg j hj]
      simp [List.getD, hj]
    · intro hx
      obtain ⟨j, hj, rfl⟩ := List.getElem_of_mem hx
      have key : ∀ j, j < zs.length → ∃ a, (a < zs.length ∧ Lib.keeps zs.toArray a = true) ∧ zs.getD a 0 = zs.getD j 0 := by
        intro j
        induction j with
        | zero => exact fun hj => ⟨0, ⟨hj, by simp [Lib.keeps]⟩, rfl⟩
        | succ j ih =>
          intro hj
          by_cases he : zs.getD (j + 1) 0 = zs.getD j 0
          · obtain ⟨a, ha, hb⟩ := ih (by omega)
            exact ⟨a, ha, hb.trans he.symm⟩
          · refine ⟨j + 1, ⟨hj, ?_⟩, rfl⟩
            unfold Lib.keeps
            rw [decide_eq_true_eq, hg (j + 1) hj]
            right
            rw [show j + 1 - 1 = j from rfl, hg j (by omega)]
            exact he
      obtain ⟨a, ha, hb⟩ := key j hj
      refine ⟨a, ha, ?_⟩
      rw [hg a ha.1, hb]
      simp [List.getD, hj]
theorem sortI_le (l : List Int) : (sortI l).Pairwise (· ≤ ·) := by
  have := List.pairwise_mergeSort (le := fun x y : Int => decide (x ≤ y)) (fun a b c h1 h2 => by simp at *; omega) (fun a b => by simp; omega) l
  exact this.imp fun h => by simpa using h
theorem sortI_mem {l : List Int} {x : Int} : x ∈ sortI l ↔ x ∈ l := List.mem_mergeSort
/-- Each of a list's numbers once, ascending. -/
def setI (l : List Int) : List Int := Lib.compact (sortI l)
theorem setI_asc (l : List Int) : (setI l).Pairwise (· < ·) := (compact_asc (sortI_le l)).1
theorem setI_mem {l : List Int} {x : Int} : x ∈ setI l ↔ x ∈ l := ((compact_asc (sortI_le l)).2 x).trans sortI_mem
theorem setI_len (l : List Int) : (setI l).length ≤ l.length := by
  have := compact_le (sortI l)
  rw [sortI_length] at this
  exact this

def dueL (h : List Hld) (l : List Ord) (now : Int) (m : List Ord) : List Int := (m.filter fun o => Decide h l o.ev now != 0).map Ord.ev
def Due (h : List Hld) (l : List Ord) (now : Int) : List Int := setI (dueL h l now l)
theorem dueL_succ (h : List Hld) (l : List Ord) (now : Int) (k : Nat) (hk : k < l.length) : dueL h l now (l.take (k + 1)) = if (Decide h l (l.getD k dO).ev now != 0) = true then dueL h l now (l.take k) ++ [(l.getD k dO).ev] else dueL h l now (l.take k) := by
  unfold dueL
  rw [filter_take _ dO l k hk]
  split <;> simp
theorem dueL_len (h : List Hld) (l : List Ord) (now : Int) (m : List Ord) : (dueL h l now m).length ≤ m.length := by
  unfold dueL
  rw [List.length_map]
  exact List.length_filter_le _ _
theorem Due_len (h : List Hld) (l : List Ord) (now : Int) : (Due h l now).length ≤ l.length := Nat.le_trans (setI_len _) (dueL_len h l now l)

set_option maxRecDepth 20000 in
set_option maxHeartbeats 8000000 in
theorem Due_fn (h : List Hld) (hh : h.length < 2^62) (l : List Ord) (hl : l.length < 2^40) (now : Int) :
    Ctr Try.prog 52 [.rs 4 h.length (rowsH h), .rs 4 l.length (rowsO l), .i .i64 now] [.row 3 1 (Due h l now).length (rowsI (Due h l now))] (.so 0) := by
  refine fn_of_exec tabOk Try.func52 (by kernel_rfl) rfl (N := Try.f52.ntmps) rfl (res := [.tmp 6]) rfl rfl [] ?_
  refine .inl ⟨[(7, 3, 1)], Nat, fun k => k ≤ l.length, fun k => [⟨12, [], .i .i64 k⟩, ⟨7, [], .so 0⟩], fun k => [⟨0, [], .row 3 1 (dueL h l now (l.take k)).length (rowsI (dueL h l now (l.take k)))⟩], fun k => l.length - k,
    ⟨0, [], Nat.zero_le _, rfl, rfl, rfl, rfl, rfl, ⟨⟨rfl, rfl⟩, rfl⟩, ⟨rfl, rfl, rfl, fun j hj => by simp [dueL] at hj⟩⟩, ?_⟩
  intro k hk
  have ho := dueL_len h l now (l.take k)
  rw [List.length_take] at ho
  refine .inl ⟨fun hc => ?_, fun hc => ?_⟩
  · have hc := dlt hc
    have hs := dueL_succ h l now k (by omega)
    have ek : (k : Int).toNat = k := Int.toNat_natCast k
    have hsn := snocI (dueL h l now (l.take k)) (l.getD (k : Int).toNat dO).ev
    generalize dueL h l now (l.take k) = o at *
    repeat refine Or.inl ?_
    refine ⟨⟨by omega, by omega⟩, ?_⟩
    repeat refine Or.inl ?_
    refine ⟨[], _, Decide_fn h hh l (by omega) _ now, ⟨fun h2 => ?_, fun h2 => ?_⟩⟩
    · have h2 : (Decide h l (l.getD (k : Int).toNat dO).ev now != 0) = true := h2
      rw [ek] at h2
      rw [if_pos h2] at hs
      have hb : (o.length + 1) * 8 ≤ 140737488355328 := by omega
      refine ⟨hb, k + 1, [(0, 3)], by dsimp only; omega, by dsimp only; omega, rfl, rfl, rfl, rfl, rfl, ⟨⟨rfl, wr (by omega) (by omega)⟩, rfl⟩, ?_⟩
      have hv : AOEq (.row 3 1 (dueL h l now (l.take (k + 1))).length (rowsI (dueL h l now (l.take (k + 1))))) (.row 3 1 (o.length + 1) (catG o.length (rowsI o) (rowOf 1 [.i .i64 (l.getD (k : Int).toNat dO).ev]))) := by
        rw [hs, ← ek]
        exact ⟨rfl, rfl, by simp, hsn⟩
      exact hv
    · have h2 : (Decide h l (l.getD (k : Int).toNat dO).ev now != 0) = false := h2
      rw [ek] at h2
      rw [if_neg (by rw [h2]; simp)] at hs
      refine ⟨k + 1, [], by dsimp only; omega, by dsimp only; omega, rfl, rfl, rfl, rfl, rfl, ⟨⟨rfl, wr (by omega) (by omega)⟩, rfl⟩, ?_⟩
      have hv : AOEq (.row 3 1 (dueL h l now (l.take (k + 1))).length (rowsI (dueL h l now (l.take (k + 1))))) (.row 3 1 o.length (rowsI o)) := by rw [hs]; exact AOEq.refl _
      exact hv
  · have hc := dnlt hc
    have hk2 : l.take k = l := List.take_of_length_le (by omega)
    rw [hk2]
    have hlen := dueL_len h l now l
    have hb : (dueL h l now l).length < 4611686018427387904 := by omega
    have hn : (sortI (dueL h l now l)).length = (dueL h l now l).length := sortI_length _
    have c2 := compactRow_ctr compactsRow (kt := 3) (sortI (dueL h l now l)) (fun i => [.i .i64 ((sortI (dueL h l now l)).getD i 0)]) (fun _ _ => rfl) (by omega)
    rw [hn] at c2
    refine .inr (.inr ⟨false, [0], rfl, Unit, _, _, _, _, sortRow_ctr sortsRow (kt := 3) (dueL h l now l) (rowsI (dueL h l now l)) (fun _ _ => rfl) hb, fun _ _ => ?_⟩)
    refine .inr (.inr ⟨false, [0], rfl, Unit, _, _, _, _, c2, fun _ _ => ?_⟩)
    exact RetIs.so rfl rfl (fun _ _ => rfl) (fun _ _ => rfl)
end Go.Proofs.Ytklmfkejgjhneaa
