/-
  Several texts in one: So, Z1, Z2, Y10, Z3, Z4, V3.
-/
import Derived.Shelf.SortM.Plain
import Derived.Shelf.SortM.SortNone
import Derived.Shelf.Slices.CompactI
import Derived.Test.YtilhaifmfiobhaaMg18

section
/-
  Numbers sorted, and each once: the kit's contracts on slices.Sort and slices.Compact, laid at this program.
-/
namespace Go.Proofs.Ytilhaifmfiobhaa
open Go.Eng Go.RowKit Go.Maps Go.Sort Go.Shelf

def sortA_ren : Go.Shelf.Ren := ⟨fun | 5 => 110 | 8 => 126 | 7 => 125 | 19 => 140 | 20 => 141 | 10 => 131 | 11 => 132 | 12 => 133 | 13 => 134 | 14 => 135 | 15 => 136 | 16 => 137 | 17 => 138 | 18 => 139 | 30 => 143 | 31 => 144 | 32 => 145 | 33 => 146 | 34 => 147 | 35 => 148 | 40 => 149 | n => n, fun | 23 => 23 | 25 => 3 | 3 => 3 | 32 => 136 | 22 => 23 | 0 => 0 | 44 => 149 | 46 => 151 | 4 => 4 | 36 => 142 | 35 => 141 | 41 => 60 | 5 => 5 | 9 => 9 | 53 => 153 | 57 => 157 | 63 => 159 | 64 => 160 | n => n, fun | n => n⟩
theorem sortA : Go.Proofs.SlLaysM.n5 Try.prog sortA_ren := {
  mixed := by kernel_rfl,
  f5 := ⟨Try.f110.name, by decide, Try.func110.trans (congrArg some (by kernel_rfl))⟩,
  f7 := ⟨Try.f125.name, by decide, Try.func125.trans (congrArg some (by kernel_rfl))⟩,
  f8 := Try.func126.trans (congrArg some (by kernel_rfl)),
  f10 := ⟨Try.f131.name, by decide, Try.func131.trans (congrArg some (by kernel_rfl))⟩,
  f11 := ⟨Try.f132.name, by decide, Try.func132.trans (congrArg some (by kernel_rfl))⟩,
  f12 := ⟨Try.f133.name, by decide, Try.func133.trans (congrArg some (by kernel_rfl))⟩,
  f13 := ⟨Try.f134.name, by decide, Try.func134.trans (congrArg some (by kernel_rfl))⟩,
  f14 := ⟨Try.f135.name, by decide, Try.func135.trans (congrArg some (by kernel_rfl))⟩,
  f15 := ⟨Try.f136.name, by decide, Try.func136.trans (congrArg some (by kernel_rfl))⟩,
  f16 := ⟨Try.f137.name, by decide, Try.func137.trans (congrArg some (by kernel_rfl))⟩,
  f17 := ⟨Try.f138.name, by decide, Try.func138.trans (congrArg some (by kernel_rfl))⟩,
  f18 := ⟨Try.f139.name, by decide, Try.func139.trans (congrArg some (by kernel_rfl))⟩,
  f19 := Try.func140.trans (congrArg some (by kernel_rfl)),
  f20 := Try.func141.trans (congrArg some (by kernel_rfl)),
  f30 := ⟨Try.f143.name, by decide, Try.func143.trans (congrArg some (by kernel_rfl))⟩,
  f31 := Try.func144.trans (congrArg some (by kernel_rfl)),
  f32 := Try.func145.trans (congrArg some (by kernel_rfl)),
  f33 := ⟨Try.f146.name, by decide, Try.func146.trans (congrArg some (by kernel_rfl))⟩,
  f34 := ⟨Try.f147.name, by decide, Try.func147.trans (congrArg some (by kernel_rfl))⟩,
  f35 := ⟨Try.f148.name, by decide, Try.func148.trans (congrArg some (by kernel_rfl))⟩,
  f40 := ⟨Try.f149.name, by decide, Try.func149.trans (congrArg some (by kernel_rfl))⟩,
  t0 := Try.underlying0,
  a0 := Try.isAgg0,
  z0 := Try.sizeOf0,
  v0 := Try.zeroValue0,
  t3 := Try.underlying3,
  a3 := Try.isAgg3,
  z3 := Try.sizeOf3,
  v3 := Try.zeroValue3,
  t4 := Try.underlying4,
  a4 := Try.isAgg4,
  z4 := Try.sizeOf4,
  v4 := Try.zeroValue4,
  t5 := Try.underlying5,
  a5 := Try.isAgg5,
  z5 := Try.sizeOf5,
  v5 := Try.zeroValue5,
  t9 := Try.underlying9,
  a9 := Try.isAgg9,
  z9 := Try.sizeOf9,
  v9 := Try.zeroValue9,
  t22 := Try.underlying23,
  a22 := Try.isAgg23,
  z22 := Try.sizeOf23,
  v22 := Try.zeroValue23,
  t23 := Try.underlying23,
  a23 := Try.isAgg23,
  z23 := Try.sizeOf23,
  v23 := Try.zeroValue23,
  t25 := Try.underlying3,
  a25 := Try.isAgg3,
  z25 := Try.sizeOf3,
  v25 := Try.zeroValue3,
  t32 := Try.underlying136,
  a32 := Try.isAgg136,
  z32 := Try.sizeOf136,
  v32 := Try.zeroValue136,
  t35 := Try.underlying141,
  a35 := Try.isAgg141,
  z35 := Try.sizeOf141,
  v35 := Try.zeroValue141,
  t36 := Try.underlying142,
  a36 := Try.isAgg142,
  z36 := Try.sizeOf142,
  v36 := Try.zeroValue142,
  t41 := Try.underlying60,
  a41 := Try.isAgg60,
  z41 := Try.sizeOf60,
  v41 := Try.zeroValue60,
  t44 := Try.underlying149,
  a44 := Try.isAgg149,
  z44 := Try.sizeOf149,
  v44 := Try.zeroValue149,
  t46 := Try.underlying151,
  a46 := Try.isAgg151,
  z46 := Try.sizeOf151,
  v46 := Try.zeroValue151,
  t53 := Try.underlying153,
  a53 := Try.isAgg153,
  z53 := Try.sizeOf153,
  v53 := Try.zeroValue153,
  t57 := Try.underlying157,
  a57 := Try.isAgg157,
  z57 := Try.sizeOf157,
  v57 := Try.zeroValue157,
  t63 := Try.underlying159,
  a63 := Try.isAgg159,
  z63 := Try.sizeOf159,
  v63 := Try.zeroValue159,
  t64 := Try.underlying160,
  a64 := Try.isAgg160,
  z64 := Try.sizeOf160,
  v64 := Try.zeroValue160 }

def compA_ren : Go.Shelf.Ren := ⟨fun | 20 => 122 | n => n, fun | 22 => 23 | 0 => 0 | 3 => 3 | 4 => 4 | n => n, fun | n => n⟩
theorem compA : Go.Proofs.Lays2.n20 Try.prog compA_ren := {
  mixed := by kernel_rfl,
  f20 := Try.func122.trans (congrArg some (by kernel_rfl)),
  t0 := Try.underlying0,
  a0 := Try.isAgg0,
  z0 := Try.sizeOf0,
  v0 := Try.zeroValue0,
  t3 := Try.underlying3,
  a3 := Try.isAgg3,
  z3 := Try.sizeOf3,
  v3 := Try.zeroValue3,
  t4 := Try.underlying4,
  a4 := Try.isAgg4,
  z4 := Try.sizeOf4,
  v4 := Try.zeroValue4,
  t22 := Try.underlying23,
  a22 := Try.isAgg23,
  z22 := Try.sizeOf23,
  v22 := Try.zeroValue23,
  i3 := by kernel_rfl }
theorem compact_le (zs : List Int) : (Lib.compact zs).length ≤ zs.length := by
  unfold Lib.compact Lib.compactUpTo
  rw [List.length_map]
  refine Nat.le_trans (List.length_filter_le _ _) ?_
  simp
theorem sortsRow : SortsRow Try.prog 110 :=
  ⟨⟨_, Try.func110, by kernel_rfl, rfl⟩, fun blk off cap ss W hH hblk hsz => AnyM.slices_Sort_int sortA blk off cap ss W hH hblk hsz, fun p cap W => AnyM.slices_Sort_int_none sortA p cap W⟩
theorem compactsRow : CompactsRow Try.prog 122 Lib.compact :=
  ⟨⟨_, Try.func122, by kernel_rfl, rfl⟩, compact_le, fun blk off cap ss W hH h1 h2 _ => Any.slices_Compact_int compA blk off cap ss W hH h1 h2, fun p cap W => Any.slices_Compact_int_empty compA p cap W⟩

/-- Of an ascending list that may have a number twice, each once. -/
theorem compact_asc {zs : List Int} (h : zs.Pairwise (· ≤ ·)) : (Lib.compact zs).Pairwise (· < ·) ∧ ∀ x, x ∈ Lib.compact zs ↔ x ∈ zs := by
  have hg : ∀ j, j < zs.length → zs.toArray[j]! = zs.getD j 0 := fun j hj => by simp [hj]
  have hle : ∀ i j, i ≤ j → j < zs.length → zs.getD i 0 ≤ zs.getD j 0 := by
    intro i j hij hj
    by_cases he : i = j
    · subst he; omega
    · have := List.pairwise_iff_getElem.1 h i j (by omega) hj (by omega)
      simpa [List.getD, hj, show i < zs.length by omega] using this
  have hsz : zs.toArray.size = zs.length := by simp
  constructor
  · unfold Lib.compact Lib.compactUpTo
    rw [List.pairwise_map]
    refine List.Pairwise.imp_of_mem ?_ ((List.pairwise_lt_range (n := zs.length)).filter _)
    intro a b ha hb hab
    rw [List.mem_filter, List.mem_range] at ha hb
    have hk := hb.2
    unfold Lib.keeps at hk
    rw [decide_eq_true_eq] at hk
    rw [hg a ha.1, hg b hb.1]
    rw [hg b hb.1, hg (b - 1) (by omega)] at hk
    have h1 := hle a (b - 1) (by omega) (by omega)
    have h2 := hle (b - 1) b (by omega) (by omega)
    omega
  · intro x
    unfold Lib.compact Lib.compactUpTo
    simp only [List.mem_map, List.mem_filter, List.mem_range]
    constructor
    · rintro ⟨j, ⟨hj, _⟩, rfl⟩
      rw [hg j hj]
      simp [List.getD, hj]
    · intro hx
      obtain ⟨j, hj, rfl⟩ := List.getElem_of_mem hx
      have key : ∀ j, j < zs.length → ∃ a, (a < zs.length ∧ Lib.keeps zs.toArray a = true) ∧ zs.getD a 0 = zs.getD j 0 := by
        intro j
        induction j with
        | zero => exact fun hj => ⟨0, ⟨hj, by simp [Lib.keeps]⟩, rfl⟩
        | succ j ih =>
          intro hj
          by_cases he : zs.getD (j + 1) 0 = zs.getD j 0
          · obtain ⟨a, ha, hb⟩ := ih (by omega)
            exact ⟨a, ha, hb.trans he.symm⟩
          · refine ⟨j + 1, ⟨hj, ?_⟩, rfl⟩
            unfold Lib.keeps
            rw [decide_eq_true_eq, hg (j + 1) hj]
            right
            rw [show j + 1 - 1 = j from rfl, hg j (by omega)]
            exact he
      obtain ⟨a, ha, hb⟩ := key j hj
      refine ⟨a, ha, ?_⟩
      rw [hg a ha.1, hb]
      simp [List.getD, hj]
theorem sortI_le (l : List Int) : (sortI l).Pairwise (· ≤ ·) := by
  have := List.pairwise_mergeSort (le := fun x y : Int => decide (x ≤ y)) (fun a b c h1 h2 => by simp at *; omega) (fun a b => by simp; omega) l
  exact this.imp fun h => by simpa using h
theorem sortI_mem {l : List Int} {x : Int} : x ∈ sortI l ↔ x ∈ l := List.mem_mergeSort
/-- Each of a list's numbers once, ascending. -/
def setI (l : List Int) : List Int := Lib.compact (sortI l)
theorem setI_asc (l : List Int) : (setI l).Pairwise (· < ·) := (compact_asc (sortI_le l)).1
theorem setI_mem {l : List Int} {x : Int} : x ∈ setI l ↔ x ∈ l := ((compact_asc (sortI_le l)).2 x).trans sortI_mem
theorem setI_len (l : List Int) : (setI l).length ≤ l.length := by
  have := compact_le (sortI l)
  rw [sortI_length] at this
  exact this

end Go.Proofs.Ytilhaifmfiobhaa
end

section
/-
  Persons: literals, persons, Of and May.
-/
namespace Go.Proofs.Ytilhaifmfiobhaa
open Go.Eng

section
variable {P : Program}
/-- Of three results only the last one, a number, is kept. -/
theorem CtrM.forget3 {f : FuncId} {args : List AV} {Y : Type} {spec : Y → Prop} {os : Y → List AO} {r : Y → AV} {c0 : Int} (hc : ∀ y, spec y → ∃ a b, r y = .tup [a, b, .i .i64 c0])
    (h : CtrM P f false [] args spec (fun _ => []) os r) : Ctr P f args [] (.tup [.u, .u, .i .i64 c0]) := by
  refine ⟨h.1, fun w vs hl hr => ?_⟩
  refine (h.2 (fun _ => False) w ⟨fun _ => 0, fun _ => undef⟩ vs (fun g ⟨j, o, hj, _⟩ => by simp at hj) (fun _ h => h.elim) (fun _ _ h => h.elim) (fun j o hj => by simp at hj) (fun j j' o o' g hj => by simp at hj) hl
    (fun j h1 h2 => .pure _ _ (hr j h1 h2))).mono ?_
  rintro e w' ⟨v, β, y, rfl, hy, g⟩
  obtain ⟨a, b, er⟩ := hc y hy
  have hg := g.res
  rw [er] at hg
  refine ⟨v, β, rfl, g.fr.below (fun k ⟨j, o, hj, _⟩ => by simp at hj), ⟨fun j o hj => by simp at hj, fun j o b hj => by simp at hj, fun j j' o o' b hj => by simp at hj⟩, ?_⟩
  obtain ⟨us, rfl, hul, hu⟩ := hg.tup_inv
  have hul : 3 = us.length := hul
  refine .tup _ us hul fun j h1 h2 => ?_
  match j, h1 with
  | 0, _ => exact .pure _ _ (.u _)
  | 1, _ => exact .pure _ _ (.u _)
  | 2, _ =>
    have h3 := hu 2 (by simp) h2
    simp only [List.getElem_cons_succ, List.getElem_cons_zero] at h3 ⊢
    rw [h3.i_inv]
    exact .pure _ _ (.i _ _)
end
theorem Solve_err {l : List Cl} {n : Int} (hl : l.length < 2^62) (h : rightB l n = true) :
    Ctr Try.prog 24 [.rs 2 l.length (rowsC l), .i .i64 n] [] (.tup [.u, .u, .i .i64 (if (firstL l n.toNat []).isSome then 0 else 17)]) := by
  refine CtrM.forget3 (fun y hy => ?_) (Solve_fn l hl n)
  cases e : firstL l n.toNat [] with
  | some vs =>
    obtain rfl := SolvK.of_sat hy h e
    exact ⟨_, _, rfl⟩
  | none =>
    obtain ⟨c, rfl, _⟩ := SolvK.of_uns hy h e
    exact ⟨_, _, rfl⟩

set_option maxRecDepth 20000 in
theorem truth_fn (x : Int) (h0 : 0 ≤ x) (h1 : x < 1000000) : Ctr Try.prog 123 [.i .i64 x] [] (.i .i64 (2 * x)) := by
  refine fn_of_exec tabOk Try.func123 (by kernel_rfl) rfl (N := Try.f123.ntmps) rfl (res := [.tmp 2]) rfl rfl [] ?_
  refine RetIs.i ?_
  exact wr (by omega) (by omega)
theorem litsTo_pos {C : List Cm} {a p : Int} {k : Nat} (h : (C.getD k dCm).acc = a ∧ (C.getD k dCm).per = p) : litsTo C a p (k + 1) = litsTo C a p k ++ [2 * (k : Int)] := by rw [litsTo_succ, if_pos h]
theorem litsTo_neg {C : List Cm} {a p : Int} {k : Nat} (h : ¬ ((C.getD k dCm).acc = a ∧ (C.getD k dCm).per = p)) : litsTo C a p (k + 1) = litsTo C a p k := by rw [litsTo_succ, if_neg h, List.append_nil]

set_option maxRecDepth 20000 in
set_option maxHeartbeats 1000000 in
theorem literals_fn (C : List Cm) (hC : C.length ≤ 1000) (a p : Int) : Ctr Try.prog 99 [.rs 2 C.length (rowsM C), .i .i64 a, .i .i64 p] [.row 3 1 (litsA C a p).length (rowsI (litsA C a p))] (.so 0) := by
  refine fn_of_exec tabOk Try.func99 (by kernel_rfl) rfl (N := Try.f99.ntmps) rfl (res := [.tmp 6]) rfl rfl [] ?_
  repeat refine Or.inl ?_
  refine ⟨[(7, 3, 1)], Nat, fun k => k ≤ C.length, fun k => [⟨12, [], .i .i64 k⟩, ⟨7, [], .so 0⟩], fun k => [⟨0, [], .row 3 1 (litsTo C a p k).length (rowsI (litsTo C a p k))⟩], fun k => C.length - k,
    ⟨0, [], Nat.zero_le _, rfl, rfl, rfl, rfl, rfl, ⟨⟨rfl, rfl⟩, rfl⟩, ⟨rfl, rfl, rfl, fun j hj => absurd hj (Nat.not_lt_zero j)⟩⟩, ?_⟩
  intro k hk
  have hk : k ≤ C.length := hk
  have hll := litsTo_len C a p k
  refine .inl ⟨fun hc => ?_, fun hc => ?_⟩
  · have hc := dlt hc
    have hc : (k : Int) < C.length := hc
    have ek : (k : Int).toNat = k := Int.toNat_natCast k
    repeat refine Or.inl ?_
    refine ⟨⟨by omega, by omega⟩, ?_⟩
    repeat refine Or.inl ?_
    refine ⟨fun h => ?_, fun h => ?_⟩
    · have h : (((C.getD (k : Int).toNat dCm).acc == a) && ((C.getD (k : Int).toNat dCm).per == p)) = true := h
      rw [ek, Bool.and_eq_true, beq_iff_eq, beq_iff_eq] at h
      repeat refine Or.inl ?_
      refine ⟨[], _, truth_fn (k : Int) (by omega) (by omega), ?_⟩
      refine ⟨fits (by omega), ?_⟩
      refine ⟨k + 1, [(0, 3)], by dsimp only; omega, by dsimp only; omega, rfl, rfl, rfl, rfl, rfl, ⟨⟨rfl, wr (by omega) (by omega)⟩, rfl⟩, snocZ_row _ _ (litsTo_pos h)⟩
    · have h : (((C.getD (k : Int).toNat dCm).acc == a) && ((C.getD (k : Int).toNat dCm).per == p)) = false := h
      rw [ek] at h
      refine ⟨k + 1, [], by dsimp only; omega, by dsimp only; omega, rfl, rfl, rfl, rfl, rfl, ⟨⟨rfl, wr (by omega) (by omega)⟩, rfl⟩, same_row (litsTo_neg fun hh => ?_)⟩
      rw [hh.1, hh.2, beq_self_eq_true, beq_self_eq_true] at h
      cases h
  · have hc := dnlt hc
    have hc : (C.length : Int) ≤ k := hc
    obtain rfl : k = C.length := by omega
    exact RetIs.so rfl rfl (fun _ _ => rfl) (fun _ _ => rfl)

/-- The persons of the first claims about an account. -/
def perTo (C : List Cm) (a : Int) (k : Nat) : List Int := (List.range k).flatMap fun i => if (C.getD i dCm).acc = a then [(C.getD i dCm).per] else []
theorem perTo_succ (C : List Cm) (a : Int) (k : Nat) : perTo C a (k + 1) = perTo C a k ++ (if (C.getD k dCm).acc = a then [(C.getD k dCm).per] else []) := by
  unfold perTo
  rw [List.range_succ, List.flatMap_append]
  simp
theorem perTo_len (C : List Cm) (a : Int) : ∀ k, (perTo C a k).length ≤ k
  | 0 => by simp [perTo]
  | k + 1 => by
    have := perTo_len C a k
    rw [perTo_succ, List.length_append]
    split <;> simp <;> omega
theorem mem_perTo {C : List Cm} {a p : Int} {k : Nat} : p ∈ perTo C a k ↔ ∃ i, i < k ∧ (C.getD i dCm).acc = a ∧ (C.getD i dCm).per = p := by
  unfold perTo
  simp only [List.mem_flatMap, List.mem_range]
  constructor
  · rintro ⟨i, hi, h⟩
    split at h
    · rename_i e; exact ⟨i, hi, e, (by simpa using h : p = _).symm⟩
    · simp at h
  · rintro ⟨i, hi, e, rfl⟩
    exact ⟨i, hi, by rw [if_pos e]; simp⟩
def persL (C : List Cm) (a : Int) : List Int := setI (perTo C a C.length)
theorem pers_is (C : List Cm) (a : Int) : IsPers C a (persL C a) := ⟨setI_asc _, fun p => by unfold persL; rw [setI_mem, mem_perTo]⟩
theorem persL_len (C : List Cm) (a : Int) : (persL C a).length ≤ C.length := Nat.le_trans (setI_len _) (perTo_len C a C.length)
theorem perTo_pos {C : List Cm} {a : Int} {k : Nat} (h : (C.getD k dCm).acc = a) : perTo C a (k + 1) = perTo C a k ++ [(C.getD k dCm).per] := by rw [perTo_succ, if_pos h]
theorem perTo_neg {C : List Cm} {a : Int} {k : Nat} (h : ¬ (C.getD k dCm).acc = a) : perTo C a (k + 1) = perTo C a k := by rw [perTo_succ, if_neg h, List.append_nil]

set_option maxRecDepth 20000 in
set_option maxHeartbeats 1000000 in
theorem persons_fn (C : List Cm) (hC : C.length ≤ 1000) (a : Int) : Ctr Try.prog 98 [.rs 2 C.length (rowsM C), .i .i64 a] [.row 3 1 (persL C a).length (rowsI (persL C a))] (.so 0) := by
  refine fn_of_exec tabOk Try.func98 (by kernel_rfl) rfl (N := Try.f98.ntmps) rfl (res := [.tmp 4]) rfl rfl [] ?_
  repeat refine Or.inl ?_
  refine ⟨[(5, 3, 1)], Nat, fun k => k ≤ C.length, fun k => [⟨10, [], .i .i64 k⟩, ⟨5, [], .so 0⟩], fun k => [⟨0, [], .row 3 1 (perTo C a k).length (rowsI (perTo C a k))⟩], fun k => C.length - k,
    ⟨0, [], Nat.zero_le _, rfl, rfl, rfl, rfl, rfl, ⟨⟨rfl, rfl⟩, rfl⟩, ⟨rfl, rfl, rfl, fun j hj => absurd hj (Nat.not_lt_zero j)⟩⟩, ?_⟩
  intro k hk
  have hk : k ≤ C.length := hk
  have hll := perTo_len C a k
  refine .inl ⟨fun hc => ?_, fun hc => ?_⟩
  · have hc := dlt hc
    have hc : (k : Int) < C.length := hc
    have ek : (k : Int).toNat = k := Int.toNat_natCast k
    repeat refine Or.inl ?_
    refine ⟨⟨by omega, by omega⟩, ?_⟩
    repeat refine Or.inl ?_
    refine ⟨fun h => ?_, fun h => ?_⟩
    · have h : ((C.getD (k : Int).toNat dCm).acc == a) = true := h
      rw [ek, beq_iff_eq] at h
      refine ⟨fits (by omega), ?_⟩
      refine ⟨k + 1, [(0, 3)], by dsimp only; omega, by dsimp only; omega, rfl, rfl, rfl, rfl, rfl, ⟨⟨rfl, wr (by omega) (by omega)⟩, rfl⟩, snocZ_row _ (C.getD (k : Int).toNat dCm).per (by rw [ek]; exact perTo_pos h)⟩
    · have h : ((C.getD (k : Int).toNat dCm).acc == a) = false := h
      rw [ek, beq_eq_false_iff_ne] at h
      refine ⟨k + 1, [], by dsimp only; omega, by dsimp only; omega, rfl, rfl, rfl, rfl, rfl, ⟨⟨rfl, wr (by omega) (by omega)⟩, rfl⟩, same_row (perTo_neg h)⟩
  · have hc := dnlt hc
    have hc : (C.length : Int) ≤ k := hc
    obtain rfl : k = C.length := by omega
    have hb : (perTo C a C.length).length < 4611686018427387904 := by omega
    have hn : (sortI (perTo C a C.length)).length = (perTo C a C.length).length := sortI_length _
    have c2 := compactRow_ctr compactsRow (kt := 3) (sortI (perTo C a C.length)) (fun i => [.i .i64 ((sortI (perTo C a C.length)).getD i 0)]) (fun _ _ => rfl) (by omega)
    rw [hn] at c2
    refine .inr (.inr ⟨false, [0], rfl, Unit, _, _, _, _, sortRow_ctr sortsRow (kt := 3) (perTo C a C.length) (rowsI (perTo C a C.length)) (fun _ _ => rfl) hb, fun _ _ => ?_⟩)
    refine .inr (.inr ⟨false, [0], rfl, Unit, _, _, _, _, c2, fun _ _ => ?_⟩)
    exact RetIs.so rfl rfl (fun _ _ => rfl) (fun _ _ => rfl)

def worldO (C : List Cm) (P : List Pf) : List AO := if okCP C P = true then [.row 25 2 (clausesL C P).length (rowsC (clausesL C P))] else []
def worldR (C : List Cm) (P : List Pf) : AV := .tup [if okCP C P = true then .so 0 else .val (.slice none 0 0), .b (hasW C P)]
set_option maxRecDepth 20000 in
set_option maxHeartbeats 1000000 in
theorem world_fn (C : List Cm) (P : List Pf) (hC : C.length < 2 ^ 62) (hP : P.length < 2 ^ 62) : Ctr Try.prog 97 [.rs 2 C.length (rowsM C), .rs 3 P.length (rowsP P)] (worldO C P) (worldR C P) := by
  refine fn_of_exec tabOk Try.func97 (by kernel_rfl) rfl (N := Try.f97.ntmps) rfl (res := [.tmp 4, .tmp 5]) rfl rfl [] ?_
  have cl := Clauses_fn C P hC hP
  unfold worldO worldR hasW
  rcases Clauses_or (C := C) (P := P) with ⟨hok, e⟩ | ⟨hok, k, hk, e⟩
  · obtain ⟨hR, hlen⟩ := okCP_iff.1 hok
    rw [e] at cl
    have cl : Ctr Try.prog 38 [.rs 2 C.length (rowsM C), .rs 3 P.length (rowsP P)] [.row 25 2 (clausesL C P).length (rowsC (clausesL C P))] (.tup [.so 0, .i .i64 0]) := cl
    have hRL := rightB_iff.2 (clausesL_right hR hlen)
    rw [hok, Bool.true_and, if_pos rfl, if_pos rfl]
    repeat refine Or.inl ?_
    refine ⟨_, _, cl, ?_⟩
    repeat refine Or.inl ?_
    refine ⟨fun h => (by cases h), fun _ => ?_⟩
    refine .inr (.inr ⟨false, [], rfl, _, _, _, _, _, Solve_fn (clausesL C P) (by omega) C.length, fun y hy => ?_⟩)
    cases e2 : firstL (clausesL C P) C.length [] with
    | some vs =>
      obtain rfl := SolvK.of_sat hy hRL e2
      exact RetIs.sob rfl rfl (fun _ _ => rfl) (fun _ _ => rfl) rfl
    | none =>
      obtain ⟨c, rfl, _⟩ := SolvK.of_uns hy hRL e2
      exact RetIs.sob rfl rfl (fun _ _ => rfl) (fun _ _ => rfl) rfl
  · rw [e, (okC_no hk).1, (okC_no hk).2] at cl
    rw [hok, Bool.false_and, if_neg (by decide), if_neg (by decide)]
    repeat refine Or.inl ?_
    refine ⟨_, _, cl, ?_⟩
    repeat refine Or.inl ?_
    refine ⟨fun _ => ?_, fun h => ?_⟩
    · exact ⟨⟨[], ⟨⟨⟨rfl, rfl, AVEq.refl _⟩, trivial⟩, trivial, rfl⟩, rfl, trivial⟩⟩
    · have h : (k != 0) = false := h
      rw [bne_eq_false_iff_eq] at h
      exact absurd h hk
theorem world_yes {C : List Cm} {P : List Pf} (hC : C.length < 2 ^ 62) (hP : P.length < 2 ^ 62) (h : okCP C P = true) :
    Ctr Try.prog 97 [.rs 2 C.length (rowsM C), .rs 3 P.length (rowsP P)] [.row 25 2 (clausesL C P).length (rowsC (clausesL C P))] (.tup [.so 0, .b (hasW C P)]) := by
  have := world_fn C P hC hP
  unfold worldO worldR at this
  rw [h, if_pos rfl, if_pos rfl] at this
  exact this
theorem world_no {C : List Cm} {P : List Pf} (hC : C.length < 2 ^ 62) (hP : P.length < 2 ^ 62) (h : okCP C P = false) :
    Ctr Try.prog 97 [.rs 2 C.length (rowsM C), .rs 3 P.length (rowsP P)] [] (.tup [.val (.slice none 0 0), .b false]) := by
  have := world_fn C P hC hP
  unfold worldO worldR hasW at this
  rw [h, Bool.false_and, if_neg (by decide), if_neg (by decide)] at this
  exact this

theorem find_none_upto {p : Int → Bool} {L : List Int} (h : ∀ j, j < L.length → p (L.getD j 0) = false) : L.find? p = none := by
  rw [List.find?_eq_none]
  intro x hx
  obtain ⟨j, hj, rfl⟩ := mem_getDX hx
  rw [h j hj]
  simp
theorem find_at {p : Int → Bool} {L : List Int} {k : Nat} (hk : k < L.length) (h : ∀ j, j < k → p (L.getD j 0) = false) (hp : p (L.getD k 0) = true) : L.find? p = some (L.getD k 0) := by
  rw [List.find?_eq_some_iff_getElem]
  refine ⟨hp, k, hk, (gdX hk).symm, fun j hj => ?_⟩
  have := h j hj
  rw [gdX (by omega)] at this
  rw [this]
  rfl
theorem RetIs.ib {k : IntKind} {c c' : Int} {b b' : Bool} {O : List OE} {nid : Nat} (h : c' = c) (h2 : b' = b) : RetIs [] (.tup [.i k c, .b b]) (.tup [.i k c', .b b']) O nid := by
  subst h h2
  exact ⟨[], ⟨⟨⟨rfl, rfl, AVEq.refl _⟩, trivial⟩, trivial, rfl⟩, rfl, trivial⟩
theorem litsA_len (C : List Cm) (a p : Int) : (litsA C a p).length ≤ C.length := litsTo_len C a p C.length
theorem ofY_none {C : List Cm} {P : List Pf} {L : List Int} {a : Int} (h : (L.find? fun p => hasW C P && followsB (clausesL C P) C.length (litsA C a p)) = none) : ofY C P L a = (0, false) := by
  unfold ofY
  rw [h]
theorem ofY_some {C : List Cm} {P : List Pf} {L : List Int} {a p : Int} (h : (L.find? fun p => hasW C P && followsB (clausesL C P) C.length (litsA C a p)) = some p) : ofY C P L a = (p, true) := by
  unfold ofY
  rw [h]

set_option maxRecDepth 20000 in
set_option maxHeartbeats 2000000 in
theorem Of_fn (C : List Cm) (P : List Pf) (hC : C.length ≤ 1000) (hP : P.length < 2 ^ 62) (a : Int) : Ctr Try.prog 52 [.rs 2 C.length (rowsM C), .rs 3 P.length (rowsP P), .i .i64 a] [] (.tup [.i .i64 (ofY C P (persL C a) a).1, .b (ofY C P (persL C a) a).2]) := by
  refine fn_of_exec tabOk Try.func52 (by kernel_rfl) rfl (N := Try.f52.ntmps) rfl (res := [.tmp 6, .tmp 7]) rfl rfl [] ?_
  have hpl := persL_len C a
  cases hok : okCP C P with
  | true =>
    have hlen := (okCP_iff.1 hok).2
    have wd := world_yes (C := C) (P := P) (by omega) hP hok
    repeat refine Or.inl ?_
    refine ⟨_, _, wd, ?_⟩
    repeat refine Or.inl ?_
    refine ⟨_, _, persons_fn C hC a, ?_⟩
    repeat refine Or.inl ?_
    refine ⟨[], Nat, fun k => k ≤ (persL C a).length ∧ ∀ j, j < k → (hasW C P && followsB (clausesL C P) C.length (litsA C a ((persL C a).getD j 0))) = false, fun k => [⟨22, [], .i .i64 k⟩], fun _ => [], fun k => (persL C a).length - k,
      ⟨0, [], ⟨Nat.zero_le _, fun j hj => absurd hj (Nat.not_lt_zero j)⟩, rfl, rfl, rfl, rfl, rfl, ⟨rfl, rfl⟩, trivial⟩, ?_⟩
    rintro k ⟨hk, hno⟩
    refine .inl ⟨fun hc => ?_, fun hc => ?_⟩
    · have hc := dlt hc
      have hc : (k : Int) < (persL C a).length := hc
      have ek : (k : Int).toNat = k := Int.toNat_natCast k
      have hll := litsA_len C a ((persL C a).getD (k : Int).toNat 0)
      repeat refine Or.inl ?_
      refine ⟨⟨by omega, by omega⟩, by omega, ?_⟩
      repeat refine Or.inl ?_
      refine ⟨_, _, fun _ => literals_fn C hC a ((persL C a).getD (k : Int).toNat 0), ?_⟩
      repeat refine Or.inl ?_
      refine ⟨[], _, fun _ => Follows_fn (clausesL C P) (by omega) C.length (litsA C a ((persL C a).getD (k : Int).toNat 0)) (by omega), ?_⟩
      refine ⟨fun h => ?_, fun h => ?_⟩
      · have h : (hasW C P && followsB (clausesL C P) C.length (litsA C a ((persL C a).getD (k : Int).toNat 0))) = true := h
        rw [ek] at h
        rw [ofY_some (find_at (by omega) hno h)]
        exact RetIs.ib (by rw [ek]) rfl
      · have h : (hasW C P && followsB (clausesL C P) C.length (litsA C a ((persL C a).getD (k : Int).toNat 0))) = false := h
        rw [ek] at h
        refine ⟨k + 1, [], ⟨by omega, fun j hj => ?_⟩, by dsimp only; omega, rfl, rfl, rfl, rfl, rfl, ⟨rfl, wr (by omega) (by omega)⟩, trivial⟩
        by_cases hjk : j = k
        · rw [hjk]; exact h
        · exact hno j (by omega)
    · have hc := dnlt hc
      have hc : ((persL C a).length : Int) ≤ k := hc
      obtain rfl : k = (persL C a).length := by omega
      rw [ofY_none (find_none_upto hno)]
      exact RetIs.ib rfl rfl
  | false =>
    have wd := world_no (C := C) (P := P) (by omega) hP hok
    have hw : hasW C P = false := by unfold hasW; rw [hok]; rfl
    rw [ofY_none (find_none_upto fun j _ => by rw [hw]; rfl)]
    have ff : ∀ ls : List Int, ls.length ≤ 100000 → Ctr Try.prog 23 [.val (.slice none 0 0), .i .i64 C.length, .rs 1 ls.length (rowsI ls)] [] (.b (followsB [] C.length ls)) := fun ls h =>
      Ctr.of_eq (args := [.rs 2 0 (rowsC []), .i .i64 C.length, .rs 1 ls.length (rowsI ls)]) ⟨⟨rfl, rfl⟩, AVEq.refl _, AVEq.refl _⟩ (Follows_fn [] (by decide) C.length ls h)
    repeat refine Or.inl ?_
    refine ⟨_, _, wd, ?_⟩
    repeat refine Or.inl ?_
    refine ⟨_, _, persons_fn C hC a, ?_⟩
    repeat refine Or.inl ?_
    refine ⟨[], Nat, fun k => k ≤ (persL C a).length, fun k => [⟨22, [], .i .i64 k⟩], fun _ => [], fun k => (persL C a).length - k,
      ⟨0, [], Nat.zero_le _, rfl, rfl, rfl, rfl, rfl, ⟨rfl, rfl⟩, trivial⟩, ?_⟩
    intro k hk
    have hk : k ≤ (persL C a).length := hk
    refine .inl ⟨fun hc => ?_, fun hc => RetIs.ib rfl rfl⟩
    have hc := dlt hc
    have hc : (k : Int) < (persL C a).length := hc
    have hll := litsA_len C a ((persL C a).getD (k : Int).toNat 0)
    repeat refine Or.inl ?_
    refine ⟨⟨by omega, by omega⟩, by omega, ?_⟩
    repeat refine Or.inl ?_
    refine ⟨_, _, fun _ => literals_fn C hC a ((persL C a).getD (k : Int).toNat 0), ?_⟩
    repeat refine Or.inl ?_
    refine ⟨[], _, fun _ => ff (litsA C a ((persL C a).getD (k : Int).toNat 0)) (by omega), ?_⟩
    refine ⟨fun h => (by cases h), fun _ => ?_⟩
    exact ⟨k + 1, [], by dsimp only; omega, by dsimp only; omega, rfl, rfl, rfl, rfl, rfl, ⟨rfl, wr (by omega) (by omega)⟩, trivial⟩

set_option maxRecDepth 20000 in
set_option maxHeartbeats 1000000 in
theorem may1_fn (C : List Cm) (P : List Pf) (hok : okCP C P = true) (hl : (clausesL C P).length ≤ 3000) (x : Int) (hx : 0 ≤ x ∧ x < 2 * (C.length : Int)) :
    Ctr Try.prog 100 [.i .i64 x, .rp [.rs 2 (clausesL C P).length (rowsC (clausesL C P))], .rp [.rs 2 C.length (rowsM C)]] [] (.b (canB C P x)) := by
  refine fn_of_exec tabOk Try.func100 (by kernel_rfl) rfl (N := Try.f100.ntmps) rfl (res := [.tmp 4]) rfl rfl [] ?_
  have hR := clausesL_right (okCP_iff.1 hok).1 (okCP_iff.1 hok).2
  have hR2 : RightP (clausesL C P ++ [unit x]) C.length := hR.append (fun c hc => by rw [List.mem_singleton.1 hc]; exact ⟨hx, hx⟩) (by simp; omega)
  have sv : Ctr Try.prog 24 [.rs 2 ((clausesL C P).length + 1) (catG (clausesL C P).length (rowsC (clausesL C P)) (rowOf 2 [.i .i64 x, .i .i64 x])), .i .i64 C.length] [] (.tup [.u, .u, .i .i64 (if (firstL (clausesL C P ++ [unit x]) (C.length : Int).toNat []).isSome then 0 else 17)]) :=
    Ctr.of_eq (args := [.rs 2 (clausesL C P ++ [unit x]).length (rowsC (clausesL C P ++ [unit x])), .i .i64 C.length]) ⟨⟨rfl, by simp, catC2 _ (unit x)⟩, AVEq.refl _⟩ (Solve_err (by simp; omega) (rightB_iff.2 hR2))
  repeat refine Or.inl ?_
  refine ⟨_, _, cloneC_fn (clausesL C P) (by omega), ?_⟩
  refine ⟨fits (by omega), ?_⟩
  repeat refine Or.inl ?_
  refine ⟨[], _, sv, ?_⟩
  refine RetIs.b ?_
  unfold canB
  rw [Int.toNat_natCast]
  cases (firstL (clausesL C P ++ [unit x]) C.length []).isSome <;> rfl
end Go.Proofs.Ytilhaifmfiobhaa
end

section
/-
  Persons: May, Same.
-/
namespace Go.Proofs.Ytilhaifmfiobhaa
open Go.Eng

theorem filter_succ (p : Int → Bool) (L : List Int) {k : Nat} (h : k < L.length) : (L.take (k + 1)).filter p = if p (L.getD k 0) = true then (L.take k).filter p ++ [L.getD k 0] else (L.take k).filter p := by
  rw [List.take_succ_eq_append_getElem h, List.filter_append]
  have e : L.getD k 0 = L[k] := by simp [List.getD, h]
  rw [← e]
  by_cases hx : p (L.getD k 0) = true
  · rw [if_pos hx, List.filter_cons_of_pos hx]; simp
  · rw [if_neg hx, List.filter_cons_of_neg hx]; simp
theorem mayL_take (C : List Cm) (P : List Pf) (L : List Int) (a : Int) {k : Nat} (h : k < L.length) : mayL C P (L.take (k + 1)) a = if (okCP C P && (litsA C a (L.getD k 0)).any (canB C P)) = true then mayL C P (L.take k) a ++ [L.getD k 0] else mayL C P (L.take k) a :=
  filter_succ (fun p => okCP C P && (litsA C a p).any (canB C P)) L h
theorem mayL_len (C : List Cm) (P : List Pf) (L : List Int) (a : Int) : (mayL C P L a).length ≤ L.length := List.length_filter_le _ _

set_option maxRecDepth 20000 in
set_option maxHeartbeats 4000000 in
theorem May_fn (C : List Cm) (P : List Pf) (hC : C.length ≤ 20) (hP : P.length ≤ 100) (a : Int) : Ctr Try.prog 53 [.rs 2 C.length (rowsM C), .rs 3 P.length (rowsP P), .i .i64 a] [.row 3 1 (mayL C P (persL C a) a).length (rowsI (mayL C P (persL C a) a))] (.so 0) := by
  refine fn_of_exec tabOk Try.func53 (by kernel_rfl) rfl (N := Try.f53.ntmps) rfl (res := [.tmp 6]) rfl rfl [] ?_
  have hpl := persL_len C a
  have pf := persons_fn C (by omega) a
  have cl := Clauses_fn C P (by omega) (by omega)
  rcases Clauses_or (C := C) (P := P) with ⟨hok, e⟩ | ⟨hok, k, hk, e⟩
  · obtain ⟨hR, hlen⟩ := okCP_iff.1 hok
    rw [e] at cl
    have cl : Ctr Try.prog 38 [.rs 2 C.length (rowsM C), .rs 3 P.length (rowsP P)] [.row 25 2 (clausesL C P).length (rowsC (clausesL C P))] (.tup [.so 0, .i .i64 0]) := cl
    have hl3 : (clausesL C P).length ≤ 3000 := by
      have := baseL_len C 20 C.length (by omega)
      have h2 : C.length * 20 ≤ 20 * 20 := Nat.mul_le_mul_right _ hC
      rw [clausesL_len]
      unfold baseN
      omega
    repeat refine Or.inl ?_
    refine ⟨_, _, cl, ?_⟩
    repeat refine Or.inl ?_
    refine ⟨_, _, pf, ?_⟩
    repeat refine Or.inl ?_
    refine ⟨[(9, 3, 1)], Nat, fun k => k ≤ (persL C a).length, fun k => [⟨23, [], .i .i64 k⟩, ⟨9, [], .so 4⟩], fun k => [⟨4, [], .row 3 1 (mayL C P ((persL C a).take k) a).length (rowsI (mayL C P ((persL C a).take k) a))⟩], fun k => (persL C a).length - k,
      ⟨0, [], Nat.zero_le _, rfl, rfl, rfl, rfl, rfl, ⟨⟨rfl, rfl⟩, rfl⟩, ⟨rfl, rfl, rfl, fun j hj => absurd hj (Nat.not_lt_zero j)⟩⟩, ?_⟩
    intro k hk
    have hk : k ≤ (persL C a).length := hk
    have hml := mayL_len C P ((persL C a).take k) a
    rw [List.length_take] at hml
    refine .inl ⟨fun hc => ?_, fun hc => ?_⟩
    · have hc := dlt hc
      have hc : (k : Int) < (persL C a).length := hc
      have ek : (k : Int).toNat = k := Int.toNat_natCast k
      have hll := litsA_len C a ((persL C a).getD (k : Int).toNat 0)
      have mt := mayL_take C P (persL C a) a (k := k) (by omega)
      rw [hok, Bool.true_and] at mt
      repeat refine Or.inl ?_
      refine ⟨⟨by omega, by omega⟩, by omega, ?_⟩
      repeat refine Or.inl ?_
      refine ⟨_, _, fun _ => literals_fn C (by omega) a ((persL C a).getD (k : Int).toNat 0), ?_⟩
      repeat refine Or.inl ?_
      refine ⟨[], _, fun _ => containsI2_fn (litsA C a ((persL C a).getD (k : Int).toNat 0)) (by omega) 100 [.rs 2 (clausesL C P).length (rowsC (clausesL C P))] [.rs 2 C.length (rowsM C)] (canB C P) (fun x hx => may1_fn C P hok hl3 x (lits_ok x hx)), ?_⟩
      repeat refine Or.inl ?_
      refine ⟨fun h => ?_, fun h => ?_⟩
      · have h : (((0 : Int) == 0) && (litsA C a ((persL C a).getD (k : Int).toNat 0)).any (canB C P)) = true := h
        rw [ek] at h
        have h : (litsA C a ((persL C a).getD k 0)).any (canB C P) = true := h
        rw [if_pos h] at mt
        refine ⟨fits (by omega), ?_⟩
        refine ⟨k + 1, [(4, 7)], by dsimp only; omega, by dsimp only; omega, rfl, rfl, rfl, rfl, rfl, ⟨⟨rfl, wr (by omega) (by omega)⟩, rfl⟩, snocZ_row _ ((persL C a).getD (k : Int).toNat 0) (by rw [mt, ek])⟩
      · have h : (((0 : Int) == 0) && (litsA C a ((persL C a).getD (k : Int).toNat 0)).any (canB C P)) = false := h
        rw [ek] at h
        have h : (litsA C a ((persL C a).getD k 0)).any (canB C P) = false := h
        rw [if_neg (by rw [h]; decide)] at mt
        refine ⟨k + 1, [], by dsimp only; omega, by dsimp only; omega, rfl, rfl, rfl, rfl, rfl, ⟨⟨rfl, wr (by omega) (by omega)⟩, rfl⟩, same_row mt⟩
    · have hc := dnlt hc
      have hc : ((persL C a).length : Int) ≤ k := hc
      have et : (persL C a).take k = persL C a := List.take_of_length_le (by omega)
      rw [et]
      exact RetIs.so rfl rfl (fun _ _ => rfl) (fun _ _ => rfl)
  · rw [e, (okC_no hk).1, (okC_no hk).2] at cl
    have em : mayL C P (persL C a) a = [] := by
      unfold mayL
      rw [hok, List.filter_eq_nil_iff]
      intro x _
      simp
    rw [em]
    repeat refine Or.inl ?_
    refine ⟨_, _, cl, ?_⟩
    repeat refine Or.inl ?_
    refine ⟨_, _, pf, ?_⟩
    repeat refine Or.inl ?_
    refine ⟨[(9, 3, 1)], Nat, fun k => k ≤ (persL C a).length, fun k => [⟨23, [], .i .i64 k⟩, ⟨9, [], .so 3⟩], fun k => [⟨3, [], .row 3 1 0 (rowsI [])⟩], fun k => (persL C a).length - k,
      ⟨0, [], Nat.zero_le _, rfl, rfl, rfl, rfl, rfl, ⟨⟨rfl, rfl⟩, rfl⟩, ⟨rfl, rfl, rfl, fun j hj => absurd hj (Nat.not_lt_zero j)⟩⟩, ?_⟩
    intro m hm
    have hm : m ≤ (persL C a).length := hm
    refine .inl ⟨fun hc => ?_, fun hc => ?_⟩
    · have hc := dlt hc
      have hc : (m : Int) < (persL C a).length := hc
      have hkf : ((k : Int) == 0) = false := by rw [beq_eq_false_iff_ne]; exact hk
      repeat refine Or.inl ?_
      refine ⟨⟨by omega, by omega⟩, by omega, ?_⟩
      repeat refine Or.inl ?_
      refine ⟨_, _, fun _ => literals_fn C (by omega) a ((persL C a).getD (m : Int).toNat 0), ?_⟩
      repeat refine Or.inl ?_
      refine ⟨[], .b false, fun hg => ?_, ?_⟩
      · have hg : ((k : Int) == 0) = true := hg.1
        rw [hkf] at hg
        cases hg
      repeat refine Or.inl ?_
      refine ⟨fun h => ?_, fun _ => ?_⟩
      · have h : (((k : Int) == 0) && false) = true := h
        rw [Bool.and_false] at h
        cases h
      refine ⟨m + 1, [], by dsimp only; omega, by dsimp only; omega, rfl, rfl, rfl, rfl, rfl, ⟨⟨rfl, wr (by omega) (by omega)⟩, rfl⟩, ?_⟩
      have ao := AOEq.refl (.row 3 1 0 (rowsI []))
      exact ao
    · exact RetIs.so rfl rfl (fun _ _ => rfl) (fun _ _ => rfl)

theorem apartC_take (C : List Cm) (L : List Int) (a b : Int) {k : Nat} (h : k < L.length) : apartC C (L.take (k + 1)) a b = apartC C (L.take k) a b ++ apartL (litsA C a (L.getD k 0)) (litsA C b (L.getD k 0)) := by
  unfold apartC
  rw [List.take_succ_eq_append_getElem h, List.flatMap_append]
  simp [List.getD, h]
theorem apartL_take (X Y : List Int) {k : Nat} (h : k < X.length) : apartL (X.take (k + 1)) Y = apartL (X.take k) Y ++ Y.map fun y => ⟨X.getD k 0 + 1, y + 1⟩ := by
  unfold apartL
  rw [List.take_succ_eq_append_getElem h, List.flatMap_append]
  simp [List.getD, h]
theorem mapCl_take (x : Int) (Y : List Int) {k : Nat} (h : k < Y.length) : ((Y.take (k + 1)).map fun y => (⟨x, y + 1⟩ : Cl)) = ((Y.take k).map fun y => ⟨x, y + 1⟩) ++ [⟨x, Y.getD k 0 + 1⟩] := by
  rw [List.take_succ_eq_append_getElem h, List.map_append]
  simp [List.getD, h]
theorem apartL_len (X Y : List Int) : (apartL X Y).length = X.length * Y.length := by
  unfold apartL
  induction X with
  | nil => simp
  | cons x r ih => rw [List.flatMap_cons, List.length_append, ih, List.length_map, List.length_cons, Nat.add_mul]; omega
theorem apartC_len (C : List Cm) (a b : Int) (hC : C.length ≤ 12) : ∀ (L : List Int), (apartC C L a b).length ≤ L.length * 144
  | [] => by simp [apartC]
  | p :: r => by
    have ih := apartC_len C a b hC r
    have h1 := litsA_len C a p
    have h2 := litsA_len C b p
    have h3 : (litsA C a p).length * (litsA C b p).length ≤ 12 * 12 := Nat.mul_le_mul (by omega) (by omega)
    unfold apartC at ih ⊢
    rw [List.flatMap_cons, List.length_append, apartL_len, List.length_cons, Nat.add_mul]
    omega

set_option maxRecDepth 20000 in
set_option maxHeartbeats 4000000 in
theorem Same_fn (C : List Cm) (P : List Pf) (hC : C.length ≤ 12) (hP : P.length ≤ 100) (a b : Int) : Ctr Try.prog 56 [.rs 2 C.length (rowsM C), .rs 3 P.length (rowsP P), .i .i64 a, .i .i64 b] [] (.b (sameB C P (persL C a) a b)) := by
  refine fn_of_exec tabOk Try.func56 (by kernel_rfl) rfl (N := Try.f56.ntmps) rfl (res := [.tmp 8]) rfl rfl [(4, [.sl 20 .u, .sl 23 .u, .sl 24 .u])] ?_
  have hpl := persL_len C a
  have pf := persons_fn C (by omega) a
  cases hok : okCP C P with
  | false =>
    have wd := world_no (C := C) (P := P) (by omega) (by omega) hok
    have hw : hasW C P = false := by unfold hasW; rw [hok]; rfl
    repeat refine Or.inl ?_
    refine ⟨_, _, wd, ?_⟩
    repeat refine Or.inl ?_
    refine ⟨fun _ => RetIs.b ?_, fun h => (by cases h)⟩
    unfold sameB
    rw [hw]
    rfl
  | true =>
    obtain ⟨hR, hlen⟩ := okCP_iff.1 hok
    have wd := world_yes (C := C) (P := P) (by omega) (by omega) hok
    have hl3 : (clausesL C P).length ≤ 400 := by
      have := baseL_len C 12 C.length (by omega)
      have h2 : C.length * 12 ≤ 12 * 12 := Nat.mul_le_mul_right _ hC
      rw [clausesL_len]
      unfold baseN
      omega
    repeat refine Or.inl ?_
    refine ⟨_, _, wd, ?_⟩
    repeat refine Or.inl ?_
    refine ⟨fun h => RetIs.b ?_, fun h => ?_⟩
    · have h : (!hasW C P) = true := h
      unfold sameB
      rw [show hasW C P = false by simpa using h]
      rfl
    have h : (!hasW C P) = false := h
    have hw : hasW C P = true := by simpa using h
    repeat refine Or.inl ?_
    refine ⟨trivial, trivial, trivial, ?_⟩
    repeat refine Or.inl ?_
    refine ⟨_, _, pf, ?_⟩
    repeat refine Or.inl ?_
    have hac := fun (L : List Int) (h : L.length ≤ 12) => by
      have := apartC_len C a b hC L
      have h2 : L.length * 144 ≤ 12 * 144 := Nat.mul_le_mul_right _ h
      exact (show (apartC C L a b).length ≤ 1728 by omega)
    refine ⟨[], Nat, fun k => k ≤ (persL C a).length, fun k => [⟨32, [], .i .i64 k⟩, ⟨9, [], .so 0⟩], fun k => [⟨0, [], .row 25 2 (clausesL C P ++ apartC C ((persL C a).take k) a b).length (rowsC (clausesL C P ++ apartC C ((persL C a).take k) a b))⟩], fun k => (persL C a).length - k,
      ⟨0, [], Nat.zero_le _, rfl, rfl, rfl, rfl, rfl, ⟨⟨rfl, rfl⟩, rfl⟩, ?_⟩, ?_⟩
    · have ao : AOEq (.row 25 2 (clausesL C P ++ apartC C ((persL C a).take 0) a b).length (rowsC (clausesL C P ++ apartC C ((persL C a).take 0) a b))) (.row 25 2 (clausesL C P).length (rowsC (clausesL C P))) := by
        rw [show apartC C ((persL C a).take 0) a b = [] by simp [apartC], List.append_nil]
        exact AOEq.refl _
      exact ao
    intro k hk
    have hk : k ≤ (persL C a).length := hk
    have hak := hac ((persL C a).take k) (by rw [List.length_take]; omega)
    refine .inl ⟨fun hc => ?_, fun hc => ?_⟩
    · have hc := dlt hc
      have hc : (k : Int) < (persL C a).length := hc
      have ek : (k : Int).toNat = k := Int.toNat_natCast k
      have la := litsA_len C a ((persL C a).getD (k : Int).toNat 0)
      have lb := litsA_len C b ((persL C a).getD (k : Int).toNat 0)
      have at1 := apartC_take C (persL C a) a b (k := k) (by omega)
      repeat refine Or.inl ?_
      refine ⟨⟨by omega, by omega⟩, by omega, ?_⟩
      repeat refine Or.inl ?_
      refine ⟨_, _, literals_fn C (by omega) a ((persL C a).getD (k : Int).toNat 0), ?_⟩
      repeat refine Or.inl ?_
      have hap : ∀ j, (apartL ((litsA C a ((persL C a).getD (k : Int).toNat 0)).take j) (litsA C b ((persL C a).getD (k : Int).toNat 0))).length ≤ 144 := fun j => by
        rw [apartL_len, List.length_take]
        exact Nat.le_trans (Nat.mul_le_mul (show _ ≤ 12 by omega) (show _ ≤ 12 by omega)) (by decide)
      have okA := lits_ok (C := C) (a := a) (p := (persL C a).getD (k : Int).toNat 0)
      have okB := lits_ok (C := C) (a := b) (p := (persL C a).getD (k : Int).toNat 0)
      refine ⟨[], Nat, fun j => j ≤ (litsA C a ((persL C a).getD (k : Int).toNat 0)).length, fun j => [⟨41, [], .i .i64 j⟩, ⟨9, [], .so 0⟩], fun j => [⟨0, [], .row 25 2 ((clausesL C P ++ apartC C ((persL C a).take k) a b) ++ apartL ((litsA C a ((persL C a).getD (k : Int).toNat 0)).take j) (litsA C b ((persL C a).getD (k : Int).toNat 0))).length (rowsC ((clausesL C P ++ apartC C ((persL C a).take k) a b) ++ apartL ((litsA C a ((persL C a).getD (k : Int).toNat 0)).take j) (litsA C b ((persL C a).getD (k : Int).toNat 0))))⟩], fun j => (litsA C a ((persL C a).getD (k : Int).toNat 0)).length - j,
        ⟨0, [], Nat.zero_le _, rfl, rfl, rfl, rfl, rfl, ⟨⟨rfl, rfl⟩, rfl⟩, ?_⟩, ?_⟩
      · have ao : AOEq (.row 25 2 ((clausesL C P ++ apartC C ((persL C a).take k) a b) ++ apartL ((litsA C a ((persL C a).getD (k : Int).toNat 0)).take 0) (litsA C b ((persL C a).getD (k : Int).toNat 0))).length (rowsC ((clausesL C P ++ apartC C ((persL C a).take k) a b) ++ apartL ((litsA C a ((persL C a).getD (k : Int).toNat 0)).take 0) (litsA C b ((persL C a).getD (k : Int).toNat 0))))) (.row 25 2 (clausesL C P ++ apartC C ((persL C a).take k) a b).length (rowsC (clausesL C P ++ apartC C ((persL C a).take k) a b))) := by
          rw [show apartL ((litsA C a ((persL C a).getD (k : Int).toNat 0)).take 0) (litsA C b ((persL C a).getD (k : Int).toNat 0)) = [] by simp [apartL], List.append_nil]
          exact AOEq.refl _
        exact ao
      intro j hj
      have hj : j ≤ (litsA C a ((persL C a).getD (k : Int).toNat 0)).length := hj
      have hapj := hap j
      refine .inl ⟨fun hc2 => ?_, fun hc2 => ?_⟩
      · have hc2 := dlt hc2
        have hc2 : (j : Int) < (litsA C a ((persL C a).getD (k : Int).toNat 0)).length := hc2
        have ej : (j : Int).toNat = j := Int.toNat_natCast j
        have hx := okA _ (getD_memX (l := litsA C a ((persL C a).getD (k : Int).toNat 0)) (k := (j : Int).toNat) (by omega))
        have wx : IntKind.i64.wrap ((litsA C a ((persL C a).getD (k : Int).toNat 0)).getD (j : Int).toNat 0 + 1) = (litsA C a ((persL C a).getD (k : Int).toNat 0)).getD (j : Int).toNat 0 + 1 := wr (by omega) (by omega)
        have at2 := apartL_take (litsA C a ((persL C a).getD (k : Int).toNat 0)) (litsA C b ((persL C a).getD (k : Int).toNat 0)) (k := j) (by omega)
        repeat refine Or.inl ?_
        refine ⟨⟨by omega, by omega⟩, by omega, ?_⟩
        repeat refine Or.inl ?_
        refine ⟨_, _, literals_fn C (by omega) b ((persL C a).getD (k : Int).toNat 0), ?_⟩
        repeat refine Or.inl ?_
        have base := ((clausesL C P ++ apartC C ((persL C a).take k) a b) ++ apartL ((litsA C a ((persL C a).getD (k : Int).toNat 0)).take j) (litsA C b ((persL C a).getD (k : Int).toNat 0)))
        refine ⟨[], Nat, fun q => q ≤ (litsA C b ((persL C a).getD (k : Int).toNat 0)).length, fun q => [⟨50, [], .i .i64 q⟩, ⟨9, [], .so 0⟩], fun q => [⟨0, [], .row 25 2 (((clausesL C P ++ apartC C ((persL C a).take k) a b) ++ apartL ((litsA C a ((persL C a).getD (k : Int).toNat 0)).take j) (litsA C b ((persL C a).getD (k : Int).toNat 0))) ++ ((litsA C b ((persL C a).getD (k : Int).toNat 0)).take q).map fun y => (⟨(litsA C a ((persL C a).getD (k : Int).toNat 0)).getD (j : Int).toNat 0 + 1, y + 1⟩ : Cl)).length (rowsC (((clausesL C P ++ apartC C ((persL C a).take k) a b) ++ apartL ((litsA C a ((persL C a).getD (k : Int).toNat 0)).take j) (litsA C b ((persL C a).getD (k : Int).toNat 0))) ++ ((litsA C b ((persL C a).getD (k : Int).toNat 0)).take q).map fun y => (⟨(litsA C a ((persL C a).getD (k : Int).toNat 0)).getD (j : Int).toNat 0 + 1, y + 1⟩ : Cl)))⟩], fun q => (litsA C b ((persL C a).getD (k : Int).toNat 0)).length - q,
          ⟨0, [], Nat.zero_le _, rfl, rfl, rfl, rfl, rfl, ⟨⟨rfl, rfl⟩, rfl⟩, ?_⟩, ?_⟩
        · have ao : ∀ B : List Cl, AOEq (.row 25 2 (B ++ ((litsA C b ((persL C a).getD (k : Int).toNat 0)).take 0).map fun y => (⟨(litsA C a ((persL C a).getD (k : Int).toNat 0)).getD (j : Int).toNat 0 + 1, y + 1⟩ : Cl)).length (rowsC (B ++ ((litsA C b ((persL C a).getD (k : Int).toNat 0)).take 0).map fun y => (⟨(litsA C a ((persL C a).getD (k : Int).toNat 0)).getD (j : Int).toNat 0 + 1, y + 1⟩ : Cl)))) (.row 25 2 B.length (rowsC B)) := fun B => by
            rw [List.take_zero, List.map_nil, List.append_nil]
            exact AOEq.refl _
          exact ao _
        intro q hq
        have hq : q ≤ (litsA C b ((persL C a).getD (k : Int).toNat 0)).length := hq
        refine .inl ⟨fun hc3 => ?_, fun hc3 => ?_⟩
        · have hc3 := dlt hc3
          have hc3 : (q : Int) < (litsA C b ((persL C a).getD (k : Int).toNat 0)).length := hc3
          have eq : (q : Int).toNat = q := Int.toNat_natCast q
          have hy := okB _ (getD_memX (l := litsA C b ((persL C a).getD (k : Int).toNat 0)) (k := (q : Int).toNat) (by omega))
          have wy : IntKind.i64.wrap ((litsA C b ((persL C a).getD (k : Int).toNat 0)).getD (q : Int).toNat 0 + 1) = (litsA C b ((persL C a).getD (k : Int).toNat 0)).getD (q : Int).toNat 0 + 1 := wr (by omega) (by omega)
          have at3 := mapCl_take ((litsA C a ((persL C a).getD (k : Int).toNat 0)).getD (j : Int).toNat 0 + 1) (litsA C b ((persL C a).getD (k : Int).toNat 0)) (k := q) (by omega)
          repeat refine Or.inl ?_
          refine ⟨⟨by omega, by omega⟩, by omega, ?_⟩
          repeat refine Or.inl ?_
          refine ⟨fits (by simp only [List.length_append, List.length_map, List.length_take]; omega), ?_⟩
          refine ⟨q + 1, [(0, 5)], by dsimp only; omega, by dsimp only; omega, rfl, rfl, rfl, rfl, rfl, ⟨⟨rfl, wr (by omega) (by omega)⟩, rfl⟩, ?_⟩
          rw [wx, wy]
          refine snocC_row _ ⟨(litsA C a ((persL C a).getD (k : Int).toNat 0)).getD (j : Int).toNat 0 + 1, (litsA C b ((persL C a).getD (k : Int).toNat 0)).getD (q : Int).toNat 0 + 1⟩ ?_
          rw [at3, eq]
          simp only [List.append_assoc]
        · have hc3 := dnlt hc3
          have hc3 : ((litsA C b ((persL C a).getD (k : Int).toNat 0)).length : Int) ≤ q := hc3
          have et : (litsA C b ((persL C a).getD (k : Int).toNat 0)).take q = litsA C b ((persL C a).getD (k : Int).toNat 0) := List.take_of_length_le (by omega)
          rw [et]
          refine ⟨j + 1, [], by dsimp only; omega, by dsimp only; omega, rfl, rfl, rfl, rfl, rfl, ⟨⟨rfl, wr (by omega) (by omega)⟩, rfl⟩, ?_⟩
          have ao : ∀ A B D : List Cl, B = D → AOEq (.row 25 2 (A ++ B).length (rowsC (A ++ B))) (.row 25 2 (A ++ D).length (rowsC (A ++ D))) := fun A B D h => by rw [h]; exact AOEq.refl _
          rw [List.append_assoc]
          refine ao _ _ _ ?_
          rw [at2, ej]
      · have hc2 := dnlt hc2
        have hc2 : ((litsA C a ((persL C a).getD (k : Int).toNat 0)).length : Int) ≤ j := hc2
        have et : (litsA C a ((persL C a).getD (k : Int).toNat 0)).take j = litsA C a ((persL C a).getD (k : Int).toNat 0) := List.take_of_length_le (by omega)
        rw [et]
        refine ⟨k + 1, [], by dsimp only; omega, by dsimp only; omega, rfl, rfl, rfl, rfl, rfl, ⟨⟨rfl, wr (by omega) (by omega)⟩, rfl⟩, ?_⟩
        have ao : ∀ A B D : List Cl, B = D → AOEq (.row 25 2 (A ++ B).length (rowsC (A ++ B))) (.row 25 2 (A ++ D).length (rowsC (A ++ D))) := fun A B D h => by rw [h]; exact AOEq.refl _
        rw [List.append_assoc]
        refine ao _ _ _ ?_
        rw [at1, ek]
    · have hc := dnlt hc
      have hc : ((persL C a).length : Int) ≤ k := hc
      have et : (persL C a).take k = persL C a := List.take_of_length_le (by omega)
      have hap := hac (persL C a) (by omega)
      rw [et]
      have hRL : RightP (clausesL C P ++ apartC C (persL C a) a b) C.length := (clausesL_right hR hlen).append (fun c hc => mem_apartC hc) (by omega)
      refine .inr (.inr ⟨false, [], rfl, _, _, _, _, _, Solve_fn (clausesL C P ++ apartC C (persL C a) a b) (by rw [List.length_append]; omega) C.length, fun y hy => ?_⟩)
      unfold sameB
      rw [hw, Bool.true_and]
      cases e2 : firstL (clausesL C P ++ apartC C (persL C a) a b) C.length [] with
      | some vs =>
        obtain rfl := SolvK.of_sat hy (rightB_iff.2 hRL) e2
        exact RetIs.b rfl
      | none =>
        obtain ⟨c, rfl, _⟩ := SolvK.of_uns hy (rightB_iff.2 hRL) e2
        exact RetIs.b rfl
end Go.Proofs.Ytilhaifmfiobhaa
end

section
/-
  ClaimWorlds.
-/
namespace Go.Proofs.Ytilhaifmfiobhaa
open Go.Eng

/-- The assignment of n claims with a number: the first claim has the least weight. -/
def bitL (n k : Nat) : List Bool := (List.range n).map fun i => decide (k / 2 ^ i % 2 = 1)
theorem bitL_len (n k : Nat) : (bitL n k).length = n := by simp [bitL]
theorem bitL_succ (n k : Nat) : bitL (n + 1) k = bitL n k ++ [decide (k / 2 ^ n % 2 = 1)] := by
  unfold bitL
  rw [List.range_succ, List.map_append]
  rfl
/-- Each assignment has a number. -/
theorem bitL_all : ∀ (n : Nat) (vs : List Bool), vs.length = n → ∃ k, k < 2 ^ n ∧ bitL n k = vs
  | 0, vs, h => ⟨0, by decide, by rw [List.eq_nil_of_length_eq_zero h]; rfl⟩
  | n + 1, vs, h => by
    obtain ⟨us, b, rfl, hu⟩ := snoc_of h
    obtain ⟨k, hk, e⟩ := bitL_all n us hu
    have hp : 2 ^ (n + 1) = 2 ^ n + 2 ^ n := by rw [Nat.pow_succ]; omega
    have low : ∀ j, bitL n (k + 2 ^ n * j) = bitL n k := fun j => by
      unfold bitL
      refine List.map_congr_left fun i hi => ?_
      have hi := List.mem_range.1 hi
      have e2 : 2 ^ n * j = 2 ^ i * (2 * (2 ^ (n - i - 1) * j)) := by
        have : 2 ^ n = 2 ^ i * (2 * 2 ^ (n - i - 1)) := by
          rw [← Nat.pow_succ', ← Nat.pow_add]
          congr 1
          omega
        rw [this, Nat.mul_assoc, Nat.mul_assoc]
      rw [e2, Nat.add_mul_div_left _ _ (Nat.pow_pos (by decide)), Nat.add_mul_mod_self_left]
    cases b with
    | false =>
      refine ⟨k, by omega, ?_⟩
      rw [bitL_succ, e, Nat.div_eq_of_lt hk]
      rfl
    | true =>
      refine ⟨k + 2 ^ n * 1, by omega, ?_⟩
      rw [bitL_succ, low, e, Nat.add_mul_div_left _ _ (Nat.pow_pos (by decide)), Nat.div_eq_of_lt hk]
      rfl
theorem shr_nat {k i : Nat} (hi : i ≤ 60) : (k : Int).fdiv (2 ^ (min (i : Int).toNat IntKind.i64.bits)) = ((k / 2 ^ i : Nat) : Int) := by
  have h1 : min (i : Int).toNat IntKind.i64.bits = i := by
    rw [Int.toNat_natCast]
    exact Nat.min_eq_left (by show i ≤ 64; omega)
  rw [h1, show (2 : Int) ^ i = ((2 ^ i : Nat) : Int) by simp, Int.fdiv_eq_ediv_of_nonneg _ (Int.natCast_nonneg _)]
  exact (Int.natCast_ediv k (2 ^ i)).symm
theorem snocB (o : List Bool) (c : Bool) : ∀ q, q < (o ++ [c]).length → catG o.length (rowsB o) (rowOf 1 [.b c]) q = rowsB (o ++ [c]) q := by
  intro q hq
  unfold catG rowsB
  rw [getD_snoc']
  by_cases h : q < o.length
  · rw [if_pos h, if_pos h]
  · rw [if_neg h, if_neg h]
    have : q = o.length := by simp at hq; omega
    subst this
    rw [Nat.sub_self, if_pos rfl]
    rfl
theorem snocB_row (o : List Bool) (c : Bool) {l : List Bool} (hl : l = o ++ [c]) : AOEq (.row 4 1 l.length (rowsB l)) (.row 4 1 (o.length + 1) (catG o.length (rowsB o) (rowOf 1 [.b c]))) := by
  subst hl
  exact ⟨rfl, rfl, by simp, snocB o c⟩

set_option maxRecDepth 20000 in
set_option maxHeartbeats 1000000 in
theorem Bits_fn (n k : Nat) (hn : n ≤ 60) (hk : k < 2 ^ 61) : Ctr Try.prog 47 [.i .i64 n, .i .i64 k] [.row 4 1 (bitL n k).length (rowsB (bitL n k))] (.so 0) := by
  refine fn_of_exec tabOk Try.func47 (by kernel_rfl) rfl (N := Try.f47.ntmps) rfl (res := [.tmp 4]) rfl rfl [] ?_
  repeat refine Or.inl ?_
  refine ⟨[(5, 4, 1)], Nat, fun i => i ≤ n, fun i => [⟨6, [], .i .i64 i⟩, ⟨5, [], .so 0⟩], fun i => [⟨0, [], .row 4 1 (bitL i k).length (rowsB (bitL i k))⟩], fun i => n - i,
    ⟨0, [], Nat.zero_le _, rfl, rfl, rfl, rfl, rfl, ⟨⟨rfl, rfl⟩, rfl⟩, ⟨rfl, rfl, rfl, fun j hj => absurd hj (Nat.not_lt_zero j)⟩⟩, ?_⟩
  intro i hi
  have hi : i ≤ n := hi
  have hbl := bitL_len i k
  refine .inl ⟨fun hc => ?_, fun hc => ?_⟩
  · have hc := dlt hc
    have hc : (i : Int) < n := hc
    have sh := shr_nat (k := k) (i := i) (by omega)
    have hq : k / 2 ^ i < 2 ^ 61 := Nat.lt_of_le_of_lt (Nat.div_le_self _ _) hk
    repeat refine Or.inl ?_
    refine ⟨by omega, fits (by omega), ?_⟩
    refine ⟨i + 1, [(0, 2)], by dsimp only; omega, by dsimp only; omega, rfl, rfl, rfl, rfl, rfl, ⟨⟨rfl, wr (by omega) (by omega)⟩, rfl⟩, ?_⟩
    rw [sh]
    refine snocB_row _ (bitsI .and .i64 ((k / 2 ^ i : Nat) : Int) 1 == 1) ?_
    rw [bitL_succ]
    congr 2
    generalize k / 2 ^ i = w at hq ⊢
    rw [Bool.eq_iff_iff, decide_eq_true_eq, beq_iff_eq, bits_even (by omega) (by omega)]
    omega
  · have hc := dnlt hc
    have hc : (n : Int) ≤ i := hc
    obtain rfl : i = n := by omega
    exact RetIs.so rfl rfl (fun _ _ => rfl) (fun _ _ => rfl)

theorem holdsP0 {vals : List Bool} {p : Pf} (h : p.kind = 0) : holdsP vals p = isT vals p.a := if_pos h
theorem holdsP1 {vals : List Bool} {p : Pf} (h : p.kind = 1) : holdsP vals p = !isT vals p.a := by unfold holdsP; rw [if_neg (by omega), if_pos h]
theorem holdsP2 {vals : List Bool} {p : Pf} (h : p.kind = 2) : holdsP vals p = (isT vals p.a || isT vals p.b) := by unfold holdsP; rw [if_neg (by omega), if_neg (by omega), if_pos h]
theorem holdsP3 {vals : List Bool} {p : Pf} (h : p.kind = 3) : holdsP vals p = (!isT vals p.a || !isT vals p.b) := by unfold holdsP; rw [if_neg (by omega), if_neg (by omega), if_neg (by omega), if_pos h]
theorem holdsP4 {vals : List Bool} {p : Pf} (h0 : p.kind ≠ 0) (h1 : p.kind ≠ 1) (h2 : p.kind ≠ 2) (h3 : p.kind ≠ 3) : holdsP vals p = (!isT vals p.a || isT vals p.b) := by unfold holdsP; rw [if_neg h0, if_neg h1, if_neg h2, if_neg h3]
/-- Two claims about one account are both true. -/
def clashB (C : List Cm) (vals : List Bool) (k i : Nat) : Bool := decide ((C.getD i dCm).acc = (C.getD k dCm).acc) && (vals.getD i false && vals.getD k false)
theorem agreesB_bad {C : List Cm} {P : List Pf} {vals : List Bool} {k i : Nat} (hk : k < C.length) (hi : i < k) (h : clashB C vals k i = true) : agreesB C P vals = false := by
  rw [Bool.eq_false_iff]
  intro hf
  unfold agreesB at hf
  rw [Bool.and_eq_true] at hf
  have := List.all_eq_true.1 (List.all_eq_true.1 hf.1 k (List.mem_range.2 hk)) i (List.mem_range.2 hi)
  unfold clashB at h
  rw [h] at this
  cases this
theorem agreesB_rest {C : List Cm} {P : List Pf} {vals : List Bool} (h : ∀ k, k < C.length → ∀ i, i < k → clashB C vals k i = false) : agreesB C P vals = P.all (holdsP vals) := by
  unfold agreesB
  rw [show ((List.range C.length).all fun k => (List.range k).all fun i => !(decide ((C.getD i dCm).acc = (C.getD k dCm).acc) && (vals.getD i false && vals.getD k false))) = true from
    List.all_eq_true.2 fun k hk => List.all_eq_true.2 fun i hi => by
      have := h k (List.mem_range.1 hk) i (List.mem_range.1 hi)
      unfold clashB at this
      rw [this]
      rfl]
  rfl

set_option maxRecDepth 20000 in
set_option maxHeartbeats 4000000 in
theorem Agrees_fn (C : List Cm) (P : List Pf) (vals : List Bool) (hR : RightCP C P) (hv : vals.length = C.length) :
    Ctr Try.prog 48 [.rs 2 C.length (rowsM C), .rs 3 P.length (rowsP P), .rs 1 vals.length (rowsB vals)] [] (.b (agreesB C P vals)) := by
  refine fn_of_exec tabOk Try.func48 (by kernel_rfl) rfl (N := Try.f48.ntmps) rfl (res := [.tmp 6]) rfl rfl [] ?_
  have hlc := hR.lc
  have hlp := hR.lp
  repeat refine Or.inl ?_
  refine ⟨[], Nat, fun k => k ≤ C.length ∧ ∀ j, j < k → ∀ i, i < j → clashB C vals j i = false, fun k => [⟨7, [], .i .i64 k⟩], fun _ => [], fun k => C.length - k,
    ⟨0, [], ⟨Nat.zero_le _, fun j hj => absurd hj (Nat.not_lt_zero j)⟩, rfl, rfl, rfl, rfl, rfl, ⟨rfl, rfl⟩, trivial⟩, ?_⟩
  rintro k ⟨hk, hno⟩
  refine .inl ⟨fun hc => ?_, fun hc => ?_⟩
  · have hc := dlt hc
    have hc : (k : Int) < C.length := hc
    have ek : (k : Int).toNat = k := Int.toNat_natCast k
    repeat refine Or.inl ?_
    refine ⟨[], Nat, fun i => i ≤ k ∧ ∀ j, j < i → clashB C vals k j = false, fun i => [⟨8, [], .i .i64 i⟩], fun _ => [], fun i => k - i,
      ⟨0, [], ⟨Nat.zero_le _, fun j hj => absurd hj (Nat.not_lt_zero j)⟩, rfl, rfl, rfl, rfl, rfl, ⟨rfl, rfl⟩, trivial⟩, ?_⟩
    rintro i ⟨hi, hni⟩
    refine .inl ⟨fun hc2 => ?_, fun hc2 => ?_⟩
    · have hc2 := dlt hc2
      have hc2 : (i : Int) < k := hc2
      have ei : (i : Int).toNat = i := Int.toNat_natCast i
      have key : ((((C.getD (i : Int).toNat dCm).acc == (C.getD (k : Int).toNat dCm).acc) && vals.getD (i : Int).toNat false) && vals.getD (k : Int).toNat false) = clashB C vals k i := by
        rw [ei, ek]
        unfold clashB
        rw [Bool.and_assoc]
        congr 1
      repeat refine Or.inl ?_
      refine ⟨⟨by omega, by omega⟩, ⟨by omega, by omega⟩, fun _ => ⟨by omega, by omega⟩, fun _ => ⟨by omega, by omega⟩, ⟨fun h => RetIs.b ?_, fun h => ?_⟩⟩
      · have h := key.symm.trans h
        exact (agreesB_bad (by omega) (by omega) h).symm
      · have h := key.symm.trans h
        refine ⟨i + 1, [], ⟨by omega, fun j hj => ?_⟩, by dsimp only; omega, rfl, rfl, rfl, rfl, rfl, ⟨rfl, wr (by omega) (by omega)⟩, trivial⟩
        by_cases hji : j = i
        · rw [hji]; exact h
        · exact hni j (by omega)
    · have hc2 := dnlt hc2
      have hc2 : (k : Int) ≤ i := hc2
      obtain rfl : i = k := by omega
      refine ⟨i + 1, [], ⟨by omega, fun j hj => ?_⟩, by dsimp only; omega, rfl, rfl, rfl, rfl, rfl, ⟨rfl, wr (by omega) (by omega)⟩, trivial⟩
      by_cases hji : j = i
      · rw [hji]; exact hni
      · exact hno j (by omega)
  have hc := dnlt hc
  have hc : (C.length : Int) ≤ k := hc
  obtain rfl : k = C.length := by omega
  have hrest := agreesB_rest (P := P) hno
  repeat refine Or.inl ?_
  refine ⟨[], Nat, fun q => q ≤ P.length ∧ ∀ j, j < q → holdsP vals (P.getD j dPf) = true, fun q => [⟨9, [], .i .i64 q⟩], fun _ => [], fun q => P.length - q,
    ⟨0, [], ⟨Nat.zero_le _, fun j hj => absurd hj (Nat.not_lt_zero j)⟩, rfl, rfl, rfl, rfl, rfl, ⟨rfl, rfl⟩, trivial⟩, ?_⟩
  rintro q ⟨hq, hok⟩
  refine .inl ⟨fun hc => ?_, fun hc => ?_⟩
  · have hc := dlt hc
    have hc : (q : Int) < P.length := hc
    have eq : (q : Int).toNat = q := Int.toNat_natCast q
    have hp := hR.pf _ (getD_memA dPf (show (q : Int).toNat < P.length by omega))
    repeat refine Or.inl ?_
    refine ⟨⟨by omega, by omega⟩, ?_⟩
    refine .inr ⟨[], Unit, fun _ => True, fun _ => [⟨11, [], .b (holdsP vals (P.getD (q : Int).toNat dPf))⟩], fun _ => [], ?_, fun _ _ => ?_⟩
    · repeat refine Or.inl ?_
      refine ⟨fun h0 => ?_, fun h0 => ?_⟩
      · have h0 : ((P.getD (q : Int).toNat dPf).kind == 0) = true := h0
        repeat refine Or.inl ?_
        refine ⟨⟨by omega, by omega⟩, ?_⟩
        exact ⟨(), [], trivial, rfl, rfl, rfl, rfl, rfl, (holdsP0 (beq_iff_eq.1 h0)).symm, trivial⟩
      have h0 : ((P.getD (q : Int).toNat dPf).kind == 0) = false := h0
      repeat refine Or.inl ?_
      refine ⟨fun h1 => ?_, fun h1 => ?_⟩
      · have h1 : ((P.getD (q : Int).toNat dPf).kind == 1) = true := h1
        repeat refine Or.inl ?_
        refine ⟨⟨by omega, by omega⟩, ?_⟩
        exact ⟨(), [], trivial, rfl, rfl, rfl, rfl, rfl, (holdsP1 (beq_iff_eq.1 h1)).symm, trivial⟩
      have h1 : ((P.getD (q : Int).toNat dPf).kind == 1) = false := h1
      repeat refine Or.inl ?_
      refine ⟨fun h2 => ?_, fun h2 => ?_⟩
      · have h2 : ((P.getD (q : Int).toNat dPf).kind == 2) = true := h2
        repeat refine Or.inl ?_
        refine ⟨⟨by omega, by omega⟩, fun _ => ⟨by omega, by omega⟩, ?_⟩
        exact ⟨(), [], trivial, rfl, rfl, rfl, rfl, rfl, (holdsP2 (beq_iff_eq.1 h2)).symm, trivial⟩
      have h2 : ((P.getD (q : Int).toNat dPf).kind == 2) = false := h2
      repeat refine Or.inl ?_
      refine ⟨fun h3 => ?_, fun h3 => ?_⟩
      · have h3 : ((P.getD (q : Int).toNat dPf).kind == 3) = true := h3
        repeat refine Or.inl ?_
        refine ⟨⟨by omega, by omega⟩, fun _ => ⟨by omega, by omega⟩, ?_⟩
        exact ⟨(), [], trivial, rfl, rfl, rfl, rfl, rfl, (holdsP3 (beq_iff_eq.1 h3)).symm, trivial⟩
      have h3 : ((P.getD (q : Int).toNat dPf).kind == 3) = false := h3
      repeat refine Or.inl ?_
      refine ⟨⟨by omega, by omega⟩, fun _ => ⟨by omega, by omega⟩, ?_⟩
      exact ⟨(), [], trivial, rfl, rfl, rfl, rfl, rfl, (holdsP4 (beq_eq_false_iff_ne.1 h0) (beq_eq_false_iff_ne.1 h1) (beq_eq_false_iff_ne.1 h2) (beq_eq_false_iff_ne.1 h3)).symm, trivial⟩
    repeat refine Or.inl ?_
    refine ⟨fun h => RetIs.b ?_, fun h => ?_⟩
    · have h : (!holdsP vals (P.getD (q : Int).toNat dPf)) = true := h
      rw [hrest]
      exact (not_all dPf (j := (q : Int).toNat) (by omega) (by simpa using h)).symm
    · have h : (!holdsP vals (P.getD (q : Int).toNat dPf)) = false := h
      rw [eq, Bool.not_eq_false'] at h
      refine ⟨q + 1, [], ⟨by omega, fun j hj => ?_⟩, by dsimp only; omega, rfl, rfl, rfl, rfl, rfl, ⟨rfl, wr (by omega) (by omega)⟩, trivial⟩
      by_cases hji : j = q
      · rw [hji]; exact h
      · exact hok j (by omega)
  · have hc := dnlt hc
    have hc : (P.length : Int) ≤ q := hc
    obtain rfl : q = P.length := by omega
    refine RetIs.b ?_
    rw [hrest]
    exact (all_upto dPf hok).symm

set_option maxRecDepth 20000 in
set_option maxHeartbeats 4000000 in
theorem claimWorlds_fn (C : List Cm) (P : List Pf) : Ctr Try.prog 10 [.rs 2 C.length (rowsM C), .rs 3 P.length (rowsP P)] [] (.b true) := by
  refine fn_of_exec tabOk Try.func10 (by kernel_rfl) rfl (N := Try.f10.ntmps) rfl (res := [.tmp 4]) rfl rfl [] ?_
  repeat refine Or.inl ?_
  refine ⟨[], _, smallC_fn, ?_⟩
  repeat refine Or.inl ?_
  refine ⟨[], _, few_fn C P 7 14, ?_⟩
  repeat refine Or.inl ?_
  refine ⟨[], _, fun hg => rClaimRight_fn C P (by have := few_false hg.1; omega) (by have := few_false hg.1; omega), ?_⟩
  repeat refine Or.inl ?_
  refine ⟨fun _ => RetIs.b rfl, fun h => ?_⟩
  have h : (!(decide ((C.length : Int) ≤ 7) && decide ((P.length : Int) ≤ 14)) || !rightCP C P) = false := h
  rw [Bool.or_eq_false_iff, Bool.not_eq_false' (b := rightCP C P)] at h
  obtain ⟨hfew, hr⟩ := h
  obtain ⟨hC, hP⟩ := few_false hfew
  have hR := rightCP_iff.1 hr
  have hok := ok_small hR (by omega)
  have hlen := (okCP_iff.1 hok).2
  have hRL := clausesL_right hR hlen
  have cl := Clauses_fn C P (by omega) (by omega)
  rw [okCP_cl hok] at cl
  have cl : Ctr Try.prog 38 [.rs 2 C.length (rowsM C), .rs 3 P.length (rowsP P)] [.row 25 2 (clausesL C P).length (rowsC (clausesL C P))] (.tup [.so 0, .i .i64 0]) := cl
  have hs := shl_one (n := C.length) (by omega)
  have h2p : (2 : Nat) ^ C.length ≤ 2 ^ 20 := Nat.pow_le_pow_right (by decide) (by omega)
  repeat refine Or.inl ?_
  refine ⟨_, _, cl, ?_⟩
  repeat refine Or.inl ?_
  refine ⟨fun h => (by cases h), fun _ => ?_⟩
  repeat refine Or.inl ?_
  refine ⟨[], Nat, fun k => k ≤ 2 ^ C.length, fun k => [⟨9, [], .i .i64 k⟩, ⟨8, [], .b ((List.range k).any fun j => agreesB C P (bitL C.length j))⟩], fun _ => [], fun k => 2 ^ C.length - k,
    ⟨0, [], Nat.zero_le _, rfl, rfl, rfl, rfl, rfl, ⟨⟨rfl, rfl⟩, rfl⟩, trivial⟩, ?_⟩
  intro k hk
  have hk : k ≤ 2 ^ C.length := hk
  refine .inl ⟨by omega, ⟨fun hc => ?_, fun hc => ?_⟩⟩
  · have hc := dlt hc
    rw [hs] at hc
    have hc : (k : Int) < ((2 ^ C.length : Nat) : Int) := hc
    have hbl := bitL_len C.length k
    repeat refine Or.inl ?_
    refine ⟨_, _, Bits_fn C.length k (by omega) (by omega), ?_⟩
    repeat refine Or.inl ?_
    refine ⟨[], _, Agrees_fn C P (bitL C.length k) hR hbl, ?_⟩
    repeat refine Or.inl ?_
    refine ⟨[], _, Check_fn (clausesL C P) (by omega) C.length (bitL C.length k) (by omega), ?_⟩
    repeat refine Or.inl ?_
    refine ⟨fun h => ?_, fun _ => ?_⟩
    · have h : (agreesB C P (bitL C.length k) != checkB (clausesL C P) C.length (bitL C.length k)) = true := h
      rw [agrees_check hR hlen hbl, bne_self_eq_false] at h
      cases h
    refine ⟨k + 1, [], by dsimp only; omega, by dsimp only; omega, rfl, rfl, rfl, rfl, rfl, ⟨⟨rfl, wr (by omega) (by omega)⟩, ?_⟩, trivial⟩
    show (((List.range k).any fun j => agreesB C P (bitL C.length j)) || agreesB C P (bitL C.length k)) = (List.range (k + 1)).any fun j => agreesB C P (bitL C.length j)
    rw [List.range_succ, List.any_append]
    simp
  have hc := dnlt hc
  rw [hs] at hc
  have hc : ((2 ^ C.length : Nat) : Int) ≤ (k : Int) := hc
  obtain rfl : k = 2 ^ C.length := by omega
  have hany : ((List.range (2 ^ C.length)).any fun j => agreesB C P (bitL C.length j)) = (firstL (clausesL C P) C.length []).isSome := by
    rw [Bool.eq_iff_iff, firstL_isSome, List.any_eq_true]
    constructor
    · rintro ⟨j, _, h⟩
      rw [← agrees_check hR hlen (bitL_len _ _)] at h
      have := (checkB_iff.1 h).2
      rw [Int.toNat_natCast] at this
      exact ⟨_, this⟩
    · rintro ⟨vals, g⟩
      obtain ⟨j, hj, e⟩ := bitL_all C.length vals g.len
      refine ⟨j, List.mem_range.2 hj, ?_⟩
      rw [← agrees_check hR hlen (bitL_len _ _), e, checkB_iff]
      exact ⟨hRL, by rw [Int.toNat_natCast]; exact g⟩
  rw [hany]
  have f := Conflict_fn C P (by omega) (by omega)
  refine .inr (.inr ⟨false, [], rfl, _, _, _, _, _, Solve_fn (clausesL C P) (by omega) C.length, fun y hy => ?_⟩)
  cases e : firstL (clausesL C P) C.length [] with
  | some vs =>
    obtain rfl := SolvK.of_sat hy (rightB_iff.2 hRL) e
    have en : conflictY C P = none := (conY_none hok).2 (by unfold hasW; rw [hok, e]; rfl)
    rw [en] at f
    repeat refine Or.inl ?_
    refine ⟨_, _, fun _ => f, ?_⟩
    exact RetIs.b rfl
  | none =>
    obtain ⟨c, rfl, _⟩ := SolvK.of_uns hy (rightB_iff.2 hRL) e
    cases ec : conflictY C P with
    | none =>
      have := (conY_none hok).1 ec
      unfold hasW at this
      rw [e, Bool.and_comm] at this
      cases this
    | some l =>
      obtain ⟨_, hS, _⟩ := conY_some hok ec
      have hne : 0 < l.length := List.length_pos_iff.2 (confS_ne hS)
      have hz : ((l.length : Int) == 0) = false := by rw [beq_eq_false_iff_ne]; omega
      rw [ec] at f
      repeat refine Or.inl ?_
      refine ⟨_, _, fun _ => f, ?_⟩
      refine RetIs.b ?_
      show ((true && (false == ((17 : Int) == 0))) && (false == ((l.length : Int) == 0))) = true
      rw [hz]
      rfl
end Go.Proofs.Ytilhaifmfiobhaa
end

section
/-
  Persons: Worlds.
-/
namespace Go.Proofs.Ytilhaifmfiobhaa
open Go.Eng

section
variable {P : Program}
/-- Of a row that is returned with a number only its length is kept. -/
theorem CtrM.forgetRow {f : FuncId} {args : List AV} {e : TypeId} {m : Nat} {get : Nat → List AV} {c : Int} (hg : ∀ k, k < m → (get k).length = 1)
    (h : CtrM P f true [] args (fun _ : Unit => True) (fun _ => []) (fun _ => [.row e 1 m get]) (fun _ => .tup [.so 0, .i .i64 c])) : Ctr P f args [.row e 1 m fun _ => [.u]] (.tup [.so 0, .i .i64 c]) := by
  refine ⟨h.1, fun w vs hl hr => ?_⟩
  refine (h.2 (fun _ => False) w ⟨fun _ => 0, fun _ => undef⟩ vs (fun g ⟨j, o, hj, _⟩ => by simp at hj) (fun _ h => h.elim) (fun h => by cases h) (fun j o hj => by simp at hj) (fun j j' o o' g hj => by simp at hj) hl
    (fun j h1 h2 => .pure _ _ (hr j h1 h2))).mono ?_
  rintro e' w' ⟨v, β, y, rfl, _, g⟩
  have ho := g.obj 0 (.row e 1 m get) rfl
  obtain ⟨xs, hra, h2, h3⟩ := ho
  refine ⟨v, β, rfl, g.fr.below (fun k ⟨j, o, hj, _⟩ => by simp at hj), ⟨fun j o hj => ?_, fun j o b hj hb => ?_, fun j j' o o' b hj hj' _ _ => ?_⟩, ?_⟩
  · match j, hj with
    | 0, hj =>
      obtain rfl : AO.row e 1 m (fun _ => [.u]) = o := by simpa using hj
      refine ⟨xs, hra, fun _ _ => rfl, fun k j hk hj1 hj2 => ?_⟩
      have hj0 : j = 0 := by
        have : j < 1 := hj1
        omega
      subst hj0
      exact ⟨.u _, (h3 k 0 hk (by rw [hg k hk]; exact Nat.one_pos) hj2).2⟩
  · match j, hj with
    | 0, hj =>
      obtain rfl : AO.row e 1 m (fun _ => [.u]) = o := by simpa using hj
      have := g.own b ⟨0, .row e 1 m get, rfl, hb⟩
      exact this.elim (fun ⟨j, o, hj, _⟩ => by simp at hj) id
  · match j, j', hj, hj' with
    | 0, 0, _, _ => rfl
  · obtain ⟨us, rfl, hul, hu⟩ := g.res.tup_inv
    refine .tup _ us hul fun j h1 h2 => ?_
    match j, h1 with
    | 0, _ =>
      have h3 := (hu 0 (by simp) h2).so_inv
      simp only [List.getElem_cons_zero]
      rw [h3.2]
      exact .so 0 Nat.one_pos hra.one
    | 1, _ =>
      have h3 := hu 1 (by simp) h2
      simp only [List.getElem_cons_succ, List.getElem_cons_zero] at h3 ⊢
      rw [h3.i_inv]
      exact .pure _ _ (.i _ _)
end

/-- The first values of an assignment, and no others. -/
def preB (n k i : Nat) : List Bool := (after n k).take i ++ List.replicate (n - i) false
theorem preB_len {n k i : Nat} (h : i ≤ n) : (preB n k i).length = n := by
  unfold preB
  rw [List.length_append, List.length_take, List.length_replicate, after_len]
  omega
theorem preB_all (n k : Nat) : preB n k n = after n k := by
  unfold preB
  rw [List.take_of_length_le (by rw [after_len]; exact Nat.le_refl _), Nat.sub_self]
  simp
theorem preB_at {n k i q : Nat} : (preB n k i).getD q false = (decide (q < i) && (after n k).getD q false) := by
  unfold preB
  have hl := after_len n k
  simp only [List.getD]
  by_cases hq : q < ((after n k).take i).length
  · rw [List.getElem?_append_left hq]
    rw [List.length_take] at hq
    rw [List.getElem?_take_of_lt (by omega), decide_eq_true (by omega), Bool.true_and]
  · rw [List.getElem?_append_right (by omega), List.getElem?_replicate]
    rw [List.length_take] at hq
    by_cases hqi : q < i
    · rw [decide_eq_true hqi, Bool.true_and, List.getElem?_eq_none (by omega)]
      split <;> rfl
    · rw [decide_eq_false hqi, Bool.false_and]
      split <;> rfl
def rowsW (L : List (List Bool)) (k : Nat) : List AV := [.rs 1 (L.getD k []).length (rowsB (L.getD k []))]
theorem getD_snocW (o : List (List Bool)) (c : List Bool) (q : Nat) : (o ++ [c]).getD q [] = if q < o.length then o.getD q [] else if q = o.length then c else [] := by
  simp only [List.getD]
  by_cases h : q < o.length
  · rw [if_pos h, List.getElem?_append_left h]
  · rw [if_neg h, List.getElem?_append_right (by omega)]
    by_cases h2 : q = o.length
    · rw [if_pos h2, h2]; simp
    · rw [if_neg h2, List.getElem?_eq_none (by simp; omega)]; rfl
theorem snocW_row (o : List (List Bool)) (c : List Bool) {l : List (List Bool)} (hl : l = o ++ [c]) : AOEq (.row 29 1 l.length (rowsW l)) (.row 29 1 (o.length + 1) (catG o.length (rowsW o) (rowOf 1 [.rs 1 c.length (rowsB c)]))) := by
  subst hl
  refine ⟨rfl, rfl, by simp, fun q hq => ?_⟩
  unfold catG rowsW
  rw [getD_snocW]
  by_cases h : q < o.length
  · rw [if_pos h, if_pos h]
  · rw [if_neg h, if_neg h]
    have : q = o.length := by simp at hq; omega
    subst this
    rw [Nat.sub_self, if_pos rfl]
    rfl
/-- The worlds with the first numbers. -/
def wldT (C : List Cm) (P : List Pf) (k : Nat) : List (List Bool) := ((List.range k).map (after C.length)).filter fun w => checkB (clausesL C P) C.length w
def wldL (C : List Cm) (P : List Pf) : List (List Bool) := wldT C P (2 ^ C.length)
theorem wldT_succ (C : List Cm) (P : List Pf) (k : Nat) : wldT C P (k + 1) = if checkB (clausesL C P) C.length (after C.length k) = true then wldT C P k ++ [after C.length k] else wldT C P k := by
  unfold wldT
  rw [List.range_succ, List.map_append, List.filter_append]
  by_cases h : checkB (clausesL C P) C.length (after C.length k) = true
  · rw [if_pos h, List.map_cons, List.map_nil, List.filter_cons_of_pos h]; rfl
  · rw [if_neg h, List.map_cons, List.map_nil, List.filter_cons_of_neg h]; simp
theorem wldT_len (C : List Cm) (P : List Pf) (k : Nat) : (wldT C P k).length ≤ k := by
  refine Nat.le_trans (List.length_filter_le _ _) ?_
  simp

set_option maxRecDepth 20000 in
set_option maxHeartbeats 4000000 in
theorem Worlds_yes (C : List Cm) (P : List Pf) (hC : C.length ≤ 12) (hP : P.length < 2 ^ 62) (most : Int) (hm : ((2 ^ C.length : Nat) : Int) ≤ most) (hok : okCP C P = true) :
    CtrM Try.prog 51 true [] [.rs 2 C.length (rowsM C), .rs 3 P.length (rowsP P), .i .i64 most] (fun _ : Unit => True) (fun _ => []) (fun _ => [.row 29 1 (wldL C P).length (rowsW (wldL C P))]) (fun _ => .tup [.so 0, .i .i64 0]) := by
  refine fn_of_execM tabOk Try.func51 (by kernel_rfl) rfl (N := Try.f51.ntmps) rfl (res := [.tmp 6, .tmp 7]) rfl true true [] _ _ _ _ rfl (fun _ => rfl) [(18, [.frz 13 [2]])] ?_
  have cl := cl_ctr (C := C) (P := P) (by omega) hP hok
  have hlen := (okCP_iff.1 hok).2
  have hs := shl_one (n := C.length) (by omega)
  have h2p : (2 : Nat) ^ C.length ≤ 2 ^ 12 := Nat.pow_le_pow_right (by decide) hC
  repeat refine Or.inl ?_
  refine ⟨_, _, cl, ?_⟩
  repeat refine Or.inl ?_
  refine ⟨fun h => (by cases h), fun _ => ?_⟩
  repeat refine Or.inl ?_
  refine ⟨fun h => ?_, fun _ => ?_⟩
  · have h : decide ((C.length : Int) > 12) = true := h
    rw [decide_eq_true_eq] at h
    omega
  repeat refine Or.inl ?_
  refine ⟨by omega, ?_⟩
  repeat refine Or.inl ?_
  refine ⟨[(11, 29, 1)], Nat, fun k => k ≤ 2 ^ C.length, fun k => [⟨33, [], .i .i64 k⟩, ⟨11, [], .so 1⟩], fun k => [⟨1, [], .row 29 1 (wldT C P k).length (rowsW (wldT C P k))⟩], fun k => 2 ^ C.length - k,
    ⟨0, [], Nat.zero_le _, rfl, rfl, rfl, rfl, rfl, ⟨⟨rfl, rfl⟩, rfl⟩, ⟨rfl, rfl, rfl, fun j hj => absurd hj (Nat.not_lt_zero j)⟩⟩, ?_⟩
  intro k hk
  have hk : k ≤ 2 ^ C.length := hk
  have hwl := wldT_len C P k
  refine .inl ⟨fun hc => ?_, fun hc => ?_⟩
  · have hc := dlt hc
    rw [hs] at hc
    have hc : (k : Int) < ((2 ^ C.length : Nat) : Int) := hc
    repeat refine Or.inl ?_
    refine ⟨⟨rfl, by omega, by rw [Int.toNat_natCast]; show 1 * C.length ≤ _; omega⟩, ?_⟩
    repeat refine Or.inl ?_
    refine ⟨[], Nat, fun i => i ≤ C.length, fun i => [⟨40, [], .i .i64 i⟩], fun i => [⟨2, [], .row 4 1 (preB C.length k i).length (rowsB (preB C.length k i))⟩], fun i => C.length - i,
      ⟨0, [], Nat.zero_le _, rfl, rfl, rfl, rfl, rfl, ⟨rfl, rfl⟩, ⟨rfl, rfl, ?_, fun q hq => ?_⟩⟩, ?_⟩
    · rw [preB_len (Nat.zero_le _)]
      rfl
    · show [AV.b false] = [AV.b ((preB C.length k 0).getD q false)]
      rw [preB_at, decide_eq_false (Nat.not_lt_zero q)]
      rfl
    intro i hi
    have hi : i ≤ C.length := hi
    have hpl := preB_len (k := k) hi
    refine .inl ⟨fun hc2 => ?_, fun hc2 => ?_⟩
    · have hc2 := dlt hc2
      have hc2 : (i : Int) < (((C.length : Int)).toNat : Int) := hc2
      have hi2 : i < C.length := by omega
      have w1 : IntKind.i64.wrap ((C.length : Int) - 1) = C.length - 1 := wr (by omega) (by omega)
      have w2 : IntKind.i64.wrap (IntKind.i64.wrap ((C.length : Int) - 1) - i) = ((C.length - 1 - i : Nat) : Int) := by rw [w1, wr (by omega) (by omega)]; omega
      have sh := shr_nat (k := k) (i := C.length - 1 - i) (by omega)
      have hq2 : k / 2 ^ (C.length - 1 - i) < 2 ^ 61 := Nat.lt_of_le_of_lt (Nat.div_le_self _ _) (by omega)
      have hb := after_bit C.length k i hi2
      repeat refine Or.inl ?_
      refine ⟨by rw [w2]; omega, ⟨by omega, by omega⟩, by omega, ?_⟩
      refine ⟨i + 1, [], by dsimp only; omega, by dsimp only; omega, rfl, rfl, rfl, rfl, rfl, ⟨rfl, wr (by omega) (by omega)⟩, ⟨rfl, rfl, ?_, fun q hq => ?_⟩⟩
      · rw [hpl, preB_len hi2]
      · show (if q = (i : Int).toNat then Go.Eng.over 0 [AV.b (bitsI .and .i64 ((k : Int).fdiv (2 ^ (min (IntKind.i64.wrap (IntKind.i64.wrap ((C.length : Int) - 1) - i)).toNat IntKind.i64.bits))) 1 == 1)] [AV.b ((preB C.length k i).getD q false)] else [AV.b ((preB C.length k i).getD q false)]) = [AV.b ((preB C.length k (i + 1)).getD q false)]
        rw [Int.toNat_natCast, w2, sh, preB_at, preB_at]
        by_cases h : q = i
        · rw [if_pos h, h, hb, decide_eq_true (show i < i + 1 by omega), Bool.true_and]
          generalize k / 2 ^ (C.length - 1 - i) = z at hq2
          have : (bitsI .and .i64 (z : Int) 1 == 1) = decide (z % 2 = 1) := by
            rw [Bool.eq_iff_iff, decide_eq_true_eq, beq_iff_eq, bits_even (by omega) (by omega)]
            omega
          rw [this]
          rfl
        · rw [if_neg h]
          have : decide (q < i + 1) = decide (q < i) := by rw [Bool.eq_iff_iff, decide_eq_true_eq, decide_eq_true_eq]; omega
          rw [this]
    · have hc2 := dnlt hc2
      have hc2 : (((C.length : Int)).toNat : Int) ≤ i := hc2
      obtain rfl : i = C.length := by omega
      rw [preB_all]
      have hal := after_len C.length k
      have hws := wldT_succ C P k
      repeat refine Or.inl ?_
      refine ⟨[], _, Check_fn (clausesL C P) (by omega) C.length (after C.length k) (by omega), ?_⟩
      repeat refine Or.inl ?_
      refine ⟨fun h => ?_, fun h => ?_⟩
      · have h : checkB (clausesL C P) C.length (after C.length k) = true := h
        rw [if_pos h] at hws
        refine ⟨fits (by omega), ?_⟩
        repeat refine Or.inl ?_
        refine ⟨fun h2 => ?_, fun _ => ?_⟩
        · have h2 : decide ((((wldT C P k).length + 1 : Nat) : Int) > max most 0) = true := h2
          rw [decide_eq_true_eq] at h2
          omega
        refine ⟨k + 1, [(1, 4)], by dsimp only; omega, by dsimp only; omega, rfl, rfl, rfl, rfl, rfl, ⟨⟨rfl, wr (by omega) (by omega)⟩, rfl⟩, snocW_row _ (after C.length k) hws⟩
      · have h : checkB (clausesL C P) C.length (after C.length k) = false := h
        rw [if_neg (by rw [h]; decide)] at hws
        repeat refine Or.inl ?_
        refine ⟨fun h2 => ?_, fun _ => ?_⟩
        · have h2 : decide (((wldT C P k).length : Int) > max most 0) = true := h2
          rw [decide_eq_true_eq] at h2
          omega
        refine ⟨k + 1, [], by dsimp only; omega, by dsimp only; omega, rfl, rfl, rfl, rfl, rfl, ⟨⟨rfl, wr (by omega) (by omega)⟩, rfl⟩, ?_⟩
        have ao : AOEq (.row 29 1 (wldT C P (k + 1)).length (rowsW (wldT C P (k + 1)))) (.row 29 1 (wldT C P k).length (rowsW (wldT C P k))) := by
          rw [hws]
          exact AOEq.refl _
        exact ao
  · have hc := dnlt hc
    rw [hs] at hc
    have hc : ((2 ^ C.length : Nat) : Int) ≤ (k : Int) := hc
    obtain rfl : k = 2 ^ C.length := by omega
    exact ⟨⟨(), [(0, 1)], trivial, ⟨⟨⟨rfl, rfl, AVEq.refl _⟩, trivial⟩, ⟨⟨rfl, rfl, trivial, ⟨rfl, rfl, rfl, fun _ _ => rfl⟩⟩, trivial⟩, rfl⟩, rfl, fun h => by cases h⟩⟩

set_option maxRecDepth 20000 in
set_option maxHeartbeats 4000000 in
theorem Worlds_no (C : List Cm) (P : List Pf) (hC : C.length < 2 ^ 62) (hP : P.length < 2 ^ 62) (most : Int) (hok : okCP C P = false) :
    Ctr Try.prog 51 [.rs 2 C.length (rowsM C), .rs 3 P.length (rowsP P), .i .i64 most] [] (.tup [.val (.slice none 0 0), .i .i64 (clausesY C P).2]) := by
  refine fn_of_exec tabOk Try.func51 (by kernel_rfl) rfl (N := Try.f51.ntmps) rfl (res := [.tmp 6, .tmp 7]) rfl rfl [] ?_
  have cl := Clauses_fn C P hC hP
  rcases Clauses_or (C := C) (P := P) with ⟨hok2, _⟩ | ⟨_, k, hk, e⟩
  · rw [hok] at hok2
    cases hok2
  rw [e, (okC_no hk).1, (okC_no hk).2] at cl
  rw [e]
  repeat refine Or.inl ?_
  refine ⟨_, _, cl, ?_⟩
  repeat refine Or.inl ?_
  refine ⟨fun _ => ?_, fun h => ?_⟩
  · exact ⟨⟨[], ⟨⟨⟨rfl, rfl, AVEq.refl _⟩, trivial⟩, trivial, rfl⟩, rfl, trivial⟩⟩
  · have h : (k != 0) = false := h
    rw [bne_eq_false_iff_eq] at h
    exact absurd h hk
end Go.Proofs.Ytilhaifmfiobhaa
end

section
/-
  Persons: the law's own small functions, and the small examples.
-/
namespace Go.Proofs.Ytilhaifmfiobhaa
open Go.Eng

set_option maxRecDepth 20000 in
theorem few26_fn (C : List Cm) (P : List Pf) (n : Int) : Ctr Try.prog 50 [.rs 2 C.length (rowsM C), .rs 3 P.length (rowsP P), .i .i64 n] [] (.b (decide ((C.length : Int) ≤ n) && decide ((P.length : Int) ≤ 12))) := by
  refine fn_of_exec tabOk Try.func50 (by kernel_rfl) rfl (N := Try.f50.ntmps) rfl (res := [.tmp 6]) rfl rfl [] ?_
  exact RetIs.b rfl
theorem ints57_same (a : List Int) (ha : a.length < 2^62) : Ctr Try.prog 57 [.rs 1 a.length (rowsI a), .rs 1 a.length (rowsI a)] [] (.b true) := by
  have := ints57_fn a a ha ha
  rw [decide_eq_true rfl] at this
  exact this
/-- To whom an account belongs in a world, or -1. -/
def inQ (C : List Cm) (vals : List Bool) (a : Int) (i : Nat) : Bool := vals.getD i false && ((C.getD i dCm).acc == a)
def inW (C : List Cm) (vals : List Bool) (a : Int) : Int := match (List.range C.length).find? (inQ C vals a) with
  | some i => (C.getD i dCm).per
  | none => -1
theorem findR_none {p : Nat → Bool} {n : Nat} (h : ∀ j, j < n → p j = false) : (List.range n).find? p = none := by
  rw [List.find?_eq_none]
  intro x hx
  rw [h x (List.mem_range.1 hx)]
  simp
theorem findR_at {p : Nat → Bool} {n k : Nat} (hk : k < n) (h : ∀ j, j < k → p j = false) (hp : p k = true) : (List.range n).find? p = some k := by
  rw [List.find?_eq_some_iff_getElem]
  refine ⟨hp, k, by simpa using hk, by simp, fun j hj => ?_⟩
  rw [List.getElem_range, h j hj]
  rfl

set_option maxRecDepth 20000 in
set_option maxHeartbeats 1000000 in
theorem in_fn (C : List Cm) (vals : List Bool) (hC : C.length < 2 ^ 62) (hv : vals.length = C.length) (a : Int) : Ctr Try.prog 55 [.rs 2 C.length (rowsM C), .rs 1 vals.length (rowsB vals), .i .i64 a] [] (.i .i64 (inW C vals a)) := by
  refine fn_of_exec tabOk Try.func55 (by kernel_rfl) rfl (N := Try.f55.ntmps) rfl (res := [.tmp 6]) rfl rfl [] ?_
  repeat refine Or.inl ?_
  refine ⟨[], Nat, fun k => k ≤ C.length ∧ ∀ j, j < k → inQ C vals a j = false, fun k => [⟨7, [], .i .i64 k⟩], fun _ => [], fun k => C.length - k,
    ⟨0, [], ⟨Nat.zero_le _, fun j hj => absurd hj (Nat.not_lt_zero j)⟩, rfl, rfl, rfl, rfl, rfl, ⟨rfl, rfl⟩, trivial⟩, ?_⟩
  rintro k ⟨hk, hno⟩
  refine .inl ⟨fun hc => ?_, fun hc => ?_⟩
  · have hc : (decide ((k : Int) < C.length) && decide ((k : Int) < vals.length)) = true := hc
    rw [Bool.and_eq_true, decide_eq_true_eq, decide_eq_true_eq] at hc
    have ek : (k : Int).toNat = k := Int.toNat_natCast k
    repeat refine Or.inl ?_
    refine ⟨⟨by omega, by omega⟩, fun _ => ⟨by omega, by omega⟩, ⟨fun h => ?_, fun h => ?_⟩⟩
    · have h : (vals.getD (k : Int).toNat false && ((C.getD (k : Int).toNat dCm).acc == a)) = true := h
      rw [ek] at h
      refine ⟨⟨by omega, by omega⟩, RetIs.i ?_⟩
      unfold inW
      rw [findR_at (by omega) hno h, ek]
    · have h : (vals.getD (k : Int).toNat false && ((C.getD (k : Int).toNat dCm).acc == a)) = false := h
      rw [ek] at h
      refine ⟨k + 1, [], ⟨by omega, fun j hj => ?_⟩, by dsimp only; omega, rfl, rfl, rfl, rfl, rfl, ⟨rfl, wr (by omega) (by omega)⟩, trivial⟩
      by_cases hjk : j = k
      · rw [hjk]; exact h
      · exact hno j (by omega)
  · have hc : (decide ((k : Int) < C.length) && decide ((k : Int) < vals.length)) = false := hc
    rw [Bool.and_eq_false_iff, decide_eq_false_iff_not, decide_eq_false_iff_not] at hc
    obtain rfl : k = C.length := by omega
    refine RetIs.i ?_
    unfold inW
    rw [findR_none hno]

/-- Whether a world comes before another one. -/
def lessB (x y : List Bool) : Bool := match (List.range x.length).find? (fun i => x.getD i false != y.getD i false) with
  | some i => y.getD i false
  | none => false
set_option maxRecDepth 20000 in
set_option maxHeartbeats 1000000 in
theorem less_fn (x y : List Bool) (hx : x.length < 2 ^ 62) (hxy : y.length = x.length) : Ctr Try.prog 54 [.rs 1 x.length (rowsB x), .rs 1 y.length (rowsB y)] [] (.b (lessB x y)) := by
  refine fn_of_exec tabOk Try.func54 (by kernel_rfl) rfl (N := Try.f54.ntmps) rfl (res := [.tmp 4]) rfl rfl [] ?_
  repeat refine Or.inl ?_
  refine ⟨[], Nat, fun k => k ≤ x.length ∧ ∀ j, j < k → (x.getD j false != y.getD j false) = false, fun k => [⟨5, [], .i .i64 k⟩], fun _ => [], fun k => x.length - k,
    ⟨0, [], ⟨Nat.zero_le _, fun j hj => absurd hj (Nat.not_lt_zero j)⟩, rfl, rfl, rfl, rfl, rfl, ⟨rfl, rfl⟩, trivial⟩, ?_⟩
  rintro k ⟨hk, hno⟩
  refine .inl ⟨fun hc => ?_, fun hc => ?_⟩
  · have hc : (decide ((k : Int) < x.length) && decide ((k : Int) < y.length)) = true := hc
    rw [Bool.and_eq_true, decide_eq_true_eq, decide_eq_true_eq] at hc
    have ek : (k : Int).toNat = k := Int.toNat_natCast k
    repeat refine Or.inl ?_
    refine ⟨⟨by omega, by omega⟩, ⟨by omega, by omega⟩, ⟨fun h => ?_, fun h => ?_⟩⟩
    · have h : (x.getD (k : Int).toNat false != y.getD (k : Int).toNat false) = true := h
      rw [ek] at h
      refine ⟨⟨by omega, by omega⟩, RetIs.b ?_⟩
      unfold lessB
      rw [findR_at (by omega) hno h, ek]
    · have h : (x.getD (k : Int).toNat false != y.getD (k : Int).toNat false) = false := h
      rw [ek] at h
      refine ⟨k + 1, [], ⟨by omega, fun j hj => ?_⟩, by dsimp only; omega, rfl, rfl, rfl, rfl, rfl, ⟨rfl, wr (by omega) (by omega)⟩, trivial⟩
      by_cases hjk : j = k
      · rw [hjk]; exact h
      · exact hno j (by omega)
  · have hc : (decide ((k : Int) < x.length) && decide ((k : Int) < y.length)) = false := hc
    rw [Bool.and_eq_false_iff, decide_eq_false_iff_not, decide_eq_false_iff_not] at hc
    obtain rfl : k = x.length := by omega
    refine RetIs.b ?_
    unfold lessB
    rw [findR_none hno]

def exQ : List Cm := [⟨1, 5⟩, ⟨1, 6⟩, ⟨12, 5⟩]
set_option maxRecDepth 20000 in
theorem claims_fn : Ctr Try.prog 95 [] [.row 73 2 exQ.length (rowsM exQ)] (.so 0) := by
  refine fn_of_exec tabOk Try.func95 (by kernel_rfl) rfl (N := Try.f95.ntmps) rfl (res := [.tmp 0]) rfl rfl [] ?_
  exact RetIs.so rfl rfl (three3 rfl rfl rfl) (fun _ _ => rfl)
theorem asc_unique : ∀ {L M : List Int}, L.Pairwise (· < ·) → M.Pairwise (· < ·) → (∀ x, x ∈ L ↔ x ∈ M) → L = M
  | [], [], _, _, _ => rfl
  | [], m :: M, _, _, h => absurd ((h m).2 (by simp)) (by simp)
  | l :: L, [], _, _, h => absurd ((h l).1 (by simp)) (by simp)
  | l :: L, m :: M, hL, hM, h => by
    rw [List.pairwise_cons] at hL hM
    have e : l = m := by
      have h1 := (h l).1 (by simp)
      have h2 := (h m).2 (by simp)
      rcases List.mem_cons.1 h1 with h1 | h1
      · exact h1
      · rcases List.mem_cons.1 h2 with h2 | h2
        · exact h2.symm
        · have := hM.1 _ h1
          have := hL.1 _ h2
          omega
    subst e
    congr 1
    refine asc_unique hL.2 hM.2 fun x => ?_
    have hx := h x
    rw [List.mem_cons, List.mem_cons] at hx
    constructor
    · intro hm
      have := hL.1 _ hm
      exact (hx.1 (.inr hm)).resolve_left (by omega)
    · intro hm
      have := hM.1 _ hm
      exact (hx.2 (.inr hm)).resolve_left (by omega)
theorem pers_exQ : persL exQ 1 = [5, 6] := by
  have h1 := pers_is exQ 1
  refine asc_unique h1.asc (by decide) fun p => ?_
  rw [h1.mem]
  constructor
  · rintro ⟨i, hi, ha, hp⟩
    have hi : i < 3 := hi
    match i, hi with
    | 0, _ => rw [← hp]; decide
    | 1, _ => rw [← hp]; decide
    | 2, _ => exact absurd ha (by decide)
  · intro hp
    rcases List.mem_cons.1 hp with rfl | hp
    · exact ⟨0, by decide, by decide, by decide⟩
    · rw [List.mem_singleton] at hp
      subst hp
      exact ⟨1, by decide, by decide, by decide⟩
def saysB (L : List Int) (P : List Pf) (of : Int) (may : List Int) (same : Bool) : Bool :=
  ((((ofY exQ P L 1).2 == decide (of ≥ 0)) && ((ofY exQ P L 1).1 == max of 0)) && decide (mayL exQ P L 1 = may)) && (sameB exQ P L 1 12 == same)
set_option maxRecDepth 20000 in
set_option maxHeartbeats 1000000 in
theorem says_fn (P : List Pf) (hP : P.length ≤ 12) (of : Int) (may : List Int) (hm : may.length ≤ 100) (same : Bool) :
    Ctr Try.prog 96 [.rs 3 P.length (rowsP P), .i .i64 of, .rs 1 may.length (rowsI may), .b same] [] (.b (saysB [5, 6] P of may same)) := by
  refine fn_of_exec tabOk Try.func96 (by kernel_rfl) rfl (N := Try.f96.ntmps) rfl (res := [.tmp 8]) rfl rfl [] ?_
  have o := Of_fn exQ P (by decide) (by omega) 1
  have m := May_fn exQ P (by decide) (by omega) 1
  have s := Same_fn exQ P (by decide) (by omega) 1 12
  rw [pers_exQ] at o m s
  have ml := mayL_len exQ P [5, 6] 1
  have ml : (mayL exQ P [5, 6] 1).length ≤ 2 := ml
  repeat refine Or.inl ?_
  refine ⟨_, _, claims_fn, ?_⟩
  repeat refine Or.inl ?_
  refine ⟨[], _, o, ?_⟩
  repeat refine Or.inl ?_
  refine ⟨_, _, fun _ => claims_fn, ?_⟩
  repeat refine Or.inl ?_
  refine ⟨_, _, fun _ => m, ?_⟩
  repeat refine Or.inl ?_
  refine ⟨[], _, fun _ => ints57_fn _ may (by omega) (by omega), ?_⟩
  repeat refine Or.inl ?_
  refine ⟨_, _, fun _ => claims_fn, ?_⟩
  repeat refine Or.inl ?_
  refine ⟨[], _, fun _ => s, ?_⟩
  exact RetIs.b rfl
theorem ex_s1 : saysB [5, 6] [] (-1) [5, 6] false = true := by decide +kernel
theorem ex_s2 : saysB [5, 6] [⟨0, 0, 0⟩] 5 [5] false = true := by decide +kernel
theorem ex_s3 : saysB [5, 6] [⟨0, 0, 0⟩, ⟨4, 0, 2⟩] 5 [5] true = true := by decide +kernel
theorem ex_s4 : saysB [5, 6] [⟨2, 0, 1⟩, ⟨1, 0, 0⟩] 6 [6] false = true := by decide +kernel
theorem ex_s5 : saysB [5, 6] [⟨0, 0, 0⟩, ⟨0, 1, 0⟩] (-1) [] false = true := by decide +kernel
theorem ex_w : (wldL exQ [⟨0, 0, 0⟩]).length = 2 := by decide +kernel
theorem ex_ok : okCP exQ [⟨0, 0, 0⟩] = true := by decide +kernel

set_option maxRecDepth 20000 in
set_option maxHeartbeats 4000000 in
theorem smallP_fn : Ctr Try.prog 49 [] [] (.b true) := by
  refine fn_of_exec tabOk Try.func49 (by kernel_rfl) rfl (N := Try.f49.ntmps) rfl (res := [.tmp 0]) rfl rfl [] ?_
  have w0 := CtrM.forgetRow (fun _ _ => rfl) (Worlds_yes exQ [⟨0, 0, 0⟩] (by decide) (by decide) 9 (by decide) ex_ok)
  rw [ex_w] at w0
  have w : Ctr Try.prog 51 [.rs 2 exQ.length (rowsM exQ), .rs 3 1 (rowOf 3 [.i .i64 0, .i .i64 0, .i .i64 0]), .i .i64 9] [.row 29 1 2 fun _ => [.u]] (.tup [.so 0, .i .i64 0]) :=
    Ctr.of_eq (args := [.rs 2 exQ.length (rowsM exQ), .rs 3 1 (rowsP [⟨0, 0, 0⟩]), .i .i64 9]) ⟨AVEq.refl _, ⟨rfl, rfl, one rfl⟩, AVEq.refl _⟩ w0
  have s1 : Ctr Try.prog 96 [.val (.slice none 0 0), .i .i64 (-1), .rs 1 2 (rowOf 1 [.i .i64 5, .i .i64 6]), .b false] [] (.b true) := by
    have := says_fn [] (by decide) (-1) [5, 6] (by decide) false
    rw [ex_s1] at this
    exact Ctr.of_eq (args := [.rs 3 0 (rowsP []), .i .i64 (-1), .rs 1 2 (rowsI [5, 6]), .b false]) ⟨⟨rfl, rfl⟩, AVEq.refl _, ⟨rfl, rfl, two rfl rfl⟩, AVEq.refl _⟩ this
  have s2 : Ctr Try.prog 96 [.rs 3 1 (rowOf 3 [.i .i64 0, .i .i64 0, .i .i64 0]), .i .i64 5, .rs 1 1 (rowOf 1 [.i .i64 5]), .b false] [] (.b true) := by
    have := says_fn [⟨0, 0, 0⟩] (by decide) 5 [5] (by decide) false
    rw [ex_s2] at this
    exact Ctr.of_eq (args := [.rs 3 1 (rowsP [⟨0, 0, 0⟩]), .i .i64 5, .rs 1 1 (rowsI [5]), .b false]) ⟨⟨rfl, rfl, one rfl⟩, AVEq.refl _, ⟨rfl, rfl, one rfl⟩, AVEq.refl _⟩ this
  have s3 : Ctr Try.prog 96 [.rs 3 2 (rowOf 3 [.i .i64 0, .i .i64 0, .i .i64 0, .i .i64 4, .i .i64 0, .i .i64 2]), .i .i64 5, .rs 1 1 (rowOf 1 [.i .i64 5]), .b true] [] (.b true) := by
    have := says_fn [⟨0, 0, 0⟩, ⟨4, 0, 2⟩] (by decide) 5 [5] (by decide) true
    rw [ex_s3] at this
    exact Ctr.of_eq (args := [.rs 3 2 (rowsP [⟨0, 0, 0⟩, ⟨4, 0, 2⟩]), .i .i64 5, .rs 1 1 (rowsI [5]), .b true]) ⟨⟨rfl, rfl, two rfl rfl⟩, AVEq.refl _, ⟨rfl, rfl, one rfl⟩, AVEq.refl _⟩ this
  have s4 : Ctr Try.prog 96 [.rs 3 2 (rowOf 3 [.i .i64 2, .i .i64 0, .i .i64 1, .i .i64 1, .i .i64 0, .i .i64 0]), .i .i64 6, .rs 1 1 (rowOf 1 [.i .i64 6]), .b false] [] (.b true) := by
    have := says_fn [⟨2, 0, 1⟩, ⟨1, 0, 0⟩] (by decide) 6 [6] (by decide) false
    rw [ex_s4] at this
    exact Ctr.of_eq (args := [.rs 3 2 (rowsP [⟨2, 0, 1⟩, ⟨1, 0, 0⟩]), .i .i64 6, .rs 1 1 (rowsI [6]), .b false]) ⟨⟨rfl, rfl, two rfl rfl⟩, AVEq.refl _, ⟨rfl, rfl, one rfl⟩, AVEq.refl _⟩ this
  have s5 : Ctr Try.prog 96 [.rs 3 2 (rowOf 3 [.i .i64 0, .i .i64 0, .i .i64 0, .i .i64 0, .i .i64 1, .i .i64 0]), .i .i64 (-1), .val (.slice none 0 0), .b false] [] (.b true) := by
    have := says_fn [⟨0, 0, 0⟩, ⟨0, 1, 0⟩] (by decide) (-1) [] (by decide) false
    rw [ex_s5] at this
    exact Ctr.of_eq (args := [.rs 3 2 (rowsP [⟨0, 0, 0⟩, ⟨0, 1, 0⟩]), .i .i64 (-1), .rs 1 0 (rowsI []), .b false]) ⟨⟨rfl, rfl, two rfl rfl⟩, AVEq.refl _, ⟨rfl, rfl⟩, AVEq.refl _⟩ this
  repeat refine Or.inl ?_
  refine ⟨_, _, claims_fn, ?_⟩
  repeat refine Or.inl ?_
  refine ⟨_, _, w, ?_⟩
  repeat refine Or.inl ?_
  refine ⟨[], _, s1, ?_⟩
  repeat refine Or.inl ?_
  refine ⟨[], _, fun _ => s2, ?_⟩
  repeat refine Or.inl ?_
  refine ⟨[], _, fun _ => s3, ?_⟩
  repeat refine Or.inl ?_
  refine ⟨[], _, fun _ => s4, ?_⟩
  repeat refine Or.inl ?_
  refine ⟨[], _, fun _ => s5, ?_⟩
  exact RetIs.b rfl
end Go.Proofs.Ytilhaifmfiobhaa
end

section
/-
  Rights: a question is posed.
-/
namespace Go.Proofs.Ytilhaifmfiobhaa
open Go.Eng

/-! ### what a question is -/
def badQ (G : List Gt) (r : Int) : Bool := (decide (r < 1) || decide (r > 15)) || !validG G
def poseE (C : List Cm) (P : List Pf) (G : List Gt) (r : Int) : Int :=
  if badQ G r = true then 1 else if (clausesY C P).2 = 0 then (if followsB (clausesL C P) C.length [] = true then 17 else 0) else (clausesY C P).2
def dIB : Int × Bool := (0, false)
def dII : Int × Int := (0, 0)
def hasR (y : List (Int × Bool)) : AV := .rm y.length (fun i => .i .i64 (y.getD i dIB).1) (fun i => .b (y.getD i dIB).2)
def probA (C : List Cm) (P : List Pf) (y : List (Int × Bool)) : AV := .rp [.rs 2 C.length (rowsM C), .rs 2 (clausesL C P).length (rowsC (clausesL C P)), hasR y]
def IsHas (G : List Gt) (grp r : Int) (y : List (Int × Bool)) : Prop := ∀ p, (mget y p).getD false = hasG G grp p r

theorem Follows_nil (l : List Cl) (hl : l.length < 2^62) (n : Int) : Ctr Try.prog 23 [.rs 2 l.length (rowsC l), .i .i64 n, .val (.slice none 0 0)] [] (.b (followsB l n [])) :=
  Ctr.of_eq (args := [.rs 2 l.length (rowsC l), .i .i64 n, .rs 1 0 (rowsI [])]) ⟨AVEq.refl _, AVEq.refl _, ⟨rfl, rfl⟩⟩ (Follows_fn l hl n [] (by decide))

/-- The map of who has the right, while the sums are gone through. -/
structure HasJ (L : List (Int × Int)) (r : Int) (seen : List Nat) (y : List (Int × Bool)) : Prop where
  nd : seen.Nodup
  rg : ∀ i ∈ seen, i < L.length
  at' : ∀ i ∈ seen, mget y (L.getD i dII).1 = some (saidB (L.getD i dII).2 r)
  of : ∀ p, (mget y p).isSome = true → ∃ i ∈ seen, (L.getD i dII).1 = p
theorem HasJ.init (L : List (Int × Int)) (r : Int) : HasJ L r [] [] := ⟨by simp, by simp, by simp, fun p h => by cases h⟩
theorem keys_inj {L : List (Int × Int)} (h : (mkeys L).Nodup) {i j : Nat} (hi : i < L.length) (hj : j < L.length) (e : (L.getD i dII).1 = (L.getD j dII).1) : i = j := by
  have hm : ∀ k, k < L.length → (mkeys L).getD k 0 = (L.getD k dII).1 := fun k hk => by
    simp [mkeys, List.getD, hk]
  have hl : (mkeys L).length = L.length := by simp [mkeys]
  exact getD_injX h (by rw [hl]; exact hi) (by rw [hl]; exact hj) (by rw [hm i hi, hm j hj]; exact e)
theorem HasJ.step {L : List (Int × Int)} {r : Int} {seen : List Nat} {y : List (Int × Bool)} (h : HasJ L r seen y) (hn : (mkeys L).Nodup) {i : Nat} (hi : i < L.length) (hns : i ∉ seen) :
    HasJ L r (seen ++ [i]) (mset y (L.getD i dII).1 (saidB (L.getD i dII).2 r)) := by
  refine ⟨?_, fun j hj => ?_, fun j hj => ?_, fun p hp => ?_⟩
  · rw [List.nodup_append]
    refine ⟨h.nd, by simp, fun a ha b hb => ?_⟩
    rw [List.mem_singleton.1 hb]
    rintro rfl
    exact hns ha
  · rcases List.mem_append.1 hj with hj | hj
    · exact h.rg j hj
    · rw [List.mem_singleton.1 hj]; exact hi
  · rw [mget_mset]
    rcases List.mem_append.1 hj with hj | hj
    · rw [if_neg ?_]
      · exact h.at' j hj
      · intro e
        have := keys_inj hn (h.rg j hj) hi e
        rw [this] at hj
        exact hns hj
    · rw [List.mem_singleton.1 hj, if_pos rfl]
  · rw [mget_mset] at hp
    by_cases e : p = (L.getD i dII).1
    · exact ⟨i, by simp, e.symm⟩
    · rw [if_neg e] at hp
      obtain ⟨j, hj, h2⟩ := h.of p hp
      exact ⟨j, List.mem_append_left _ hj, h2⟩
theorem HasJ.fin {G : List Gt} (hv : validG G = true) {grp r : Int} (h1 : 1 ≤ r) (h2 : r ≤ 15) {seen : List Nat} {y : List (Int × Bool)} (h : HasJ (sumsL G grp) r seen y) (hall : ∀ i, i < (sumsL G grp).length → i ∈ seen) : IsHas G grp r y := by
  intro p
  rw [← said_has hv h1 h2]
  cases hm : mget (sumsL G grp) p with
  | none =>
    cases hy : mget y p with
    | none => rfl
    | some b =>
      obtain ⟨i, hi, e⟩ := h.of p (by rw [hy]; rfl)
      exact absurd e (mget_none hm dII i (h.rg i hi))
  | some s =>
    obtain ⟨i, hi, e1, e2⟩ := mget_some hm dII
    have := h.at' i (hall i hi)
    rw [e1] at this
    rw [this, e2]
    rfl
theorem seen_len {L : List (Int × Int)} {seen : List Nat} (hn : seen.Nodup) (hr : ∀ i ∈ seen, i < L.length) {i : Nat} (hi : i < L.length) (hns : i ∉ seen) : L.length - (seen ++ [i]).length < L.length - seen.length := by
  have h1 : (seen ++ [i]).Nodup := by
    rw [List.nodup_append]
    refine ⟨hn, by simp, fun a ha b hb => ?_⟩
    rw [List.mem_singleton.1 hb]
    rintro rfl
    exact hns ha
  have h2 : (seen ++ [i]).length ≤ L.length := by
    have h3 : ((seen ++ [i]).map fun k : Nat => (k : Int)).Nodup := by
      rw [List.Nodup, List.pairwise_map]
      exact h1.imp fun h e => h (by omega)
    have := nodup_lenX (m := L.length) h3 (fun x hx => by
      obtain ⟨k, hk, rfl⟩ := List.mem_map.1 hx
      have : k < L.length := by
        rcases List.mem_append.1 hk with hk | hk
        · exact hr k hk
        · rw [List.mem_singleton.1 hk]; exact hi
      omega)
    simpa using this
  rw [List.length_append] at h2 ⊢
  simp at h2 ⊢
  omega

set_option maxRecDepth 20000 in
set_option maxHeartbeats 4000000 in
theorem pose_no (C : List Cm) (P : List Pf) (G : List Gt) (hC : C.length < 2 ^ 62) (hP : P.length < 2 ^ 62) (hG : G.length < 2 ^ 62) (grp r : Int) (he : poseE C P G r ≠ 0) :
    Ctr Try.prog 104 [.rs 2 C.length (rowsM C), .rs 3 P.length (rowsP P), .rs 3 G.length (rowsG G), .i .i64 grp, .i .i64 r] [] (.tup [.val (.pointer none), .i .i64 (poseE C P G r)]) := by
  refine fn_of_exec tabOk Try.func104 (by kernel_rfl) rfl (N := Try.f104.ntmps) rfl (res := [.tmp 10, .tmp 11]) rfl rfl [] ?_
  repeat refine Or.inl ?_
  refine ⟨[], .b (validG G), fun _ => valid_fn G hG, ?_⟩
  repeat refine Or.inl ?_
  refine ⟨fun h => ?_, fun h => ?_⟩
  · have h : badQ G r = true := h
    have e : poseE C P G r = 1 := if_pos h
    rw [e]
    exact ⟨⟨[], ⟨⟨⟨rfl, rfl, AVEq.refl _⟩, trivial⟩, trivial, rfl⟩, rfl, trivial⟩⟩
  have h : badQ G r = false := h
  unfold poseE at he ⊢
  rw [if_neg (by rw [h]; decide)] at he ⊢
  rcases Clauses_or (C := C) (P := P) with ⟨hok, e⟩ | ⟨_, k, hk, e⟩
  · rw [e, if_pos rfl] at he ⊢
    have hf : followsB (clausesL C P) C.length [] = true := by
      cases hf : followsB (clausesL C P) C.length [] with
      | true => rfl
      | false => rw [hf] at he; exact absurd rfl he
    have cl := cl_ctr (C := C) (P := P) hC hP hok
    have hlen := (okCP_iff.1 hok).2
    repeat refine Or.inl ?_
    refine ⟨_, _, cl, ?_⟩
    repeat refine Or.inl ?_
    refine ⟨fun h => (by cases h), fun _ => ?_⟩
    repeat refine Or.inl ?_
    refine ⟨[], _, Follows_nil (clausesL C P) (by omega) C.length, ?_⟩
    repeat refine Or.inl ?_
    refine ⟨fun _ => ?_, fun h2 => ?_⟩
    · rw [if_pos hf]
      exact ⟨⟨[], ⟨⟨⟨rfl, rfl, AVEq.refl _⟩, trivial⟩, trivial, rfl⟩, rfl, trivial⟩⟩
    · have h2 : followsB (clausesL C P) C.length [] = false := h2
      rw [hf] at h2
      cases h2
  · have cl := Clauses_fn C P hC hP
    rw [e, (okC_no hk).1, (okC_no hk).2] at cl
    rw [e, if_neg hk]
    repeat refine Or.inl ?_
    refine ⟨_, _, cl, ?_⟩
    repeat refine Or.inl ?_
    refine ⟨fun _ => ?_, fun h => ?_⟩
    · exact ⟨⟨[], ⟨⟨⟨rfl, rfl, AVEq.refl _⟩, trivial⟩, trivial, rfl⟩, rfl, trivial⟩⟩
    · have h : (k != 0) = false := h
      rw [bne_eq_false_iff_eq] at h
      exact absurd h hk

theorem pose_ok {C : List Cm} {P : List Pf} {G : List Gt} {r : Int} (h : poseE C P G r = 0) : badQ G r = false ∧ okCP C P = true ∧ followsB (clausesL C P) C.length [] = false := by
  unfold poseE at h
  split at h
  · cases h
  · rename_i hb
    split at h
    · rename_i h0
      split at h
      · cases h
      · rename_i hf
        exact ⟨by simpa using hb, decide_eq_true h0, by simpa using hf⟩
    · rename_i h0
      exact absurd h h0
theorem badQ_no {G : List Gt} {r : Int} (h : badQ G r = false) : 1 ≤ r ∧ r ≤ 15 ∧ validG G = true := by
  unfold badQ at h
  rw [Bool.or_eq_false_iff, Bool.or_eq_false_iff, decide_eq_false_iff_not, decide_eq_false_iff_not, Bool.not_eq_false'] at h
  exact ⟨by omega, by omega, h.2⟩

set_option maxRecDepth 20000 in
set_option maxHeartbeats 4000000 in
theorem pose_yes (C : List Cm) (P : List Pf) (G : List Gt) (hC : C.length < 2 ^ 62) (hP : P.length < 2 ^ 62) (hG : G.length < 2 ^ 62) (grp r : Int) (he : poseE C P G r = 0) :
    CtrM Try.prog 104 true [] [.rs 2 C.length (rowsM C), .rs 3 P.length (rowsP P), .rs 3 G.length (rowsG G), .i .i64 grp, .i .i64 r] (IsHas G grp r) (fun _ => []) (fun _ => []) (fun y => .tup [probA C P y, .i .i64 0]) := by
  refine fn_of_execM tabOk Try.func104 (by kernel_rfl) rfl (N := Try.f104.ntmps) rfl (res := [.tmp 10, .tmp 11]) rfl true true [] _ _ _ _ rfl (fun _ => rfl) [(1000020, [.frz 10 [0, 2, 4]])] ?_
  obtain ⟨hq, hok, hf⟩ := pose_ok he
  obtain ⟨hr1, hr2, hv⟩ := badQ_no hq
  have cl := cl_ctr (C := C) (P := P) hC hP hok
  have hlen := (okCP_iff.1 hok).2
  repeat refine Or.inl ?_
  refine ⟨[], .b (validG G), fun _ => valid_fn G hG, ?_⟩
  repeat refine Or.inl ?_
  refine ⟨fun h => ?_, fun _ => ?_⟩
  · have h : badQ G r = true := h
    rw [hq] at h
    cases h
  repeat refine Or.inl ?_
  refine ⟨_, _, cl, ?_⟩
  repeat refine Or.inl ?_
  refine ⟨fun h => (by cases h), fun _ => ?_⟩
  repeat refine Or.inl ?_
  refine ⟨[], _, Follows_nil (clausesL C P) (by omega) C.length, ?_⟩
  repeat refine Or.inl ?_
  refine ⟨fun h => ?_, fun _ => ?_⟩
  · have h : followsB (clausesL C P) C.length [] = true := h
    rw [hf] at h
    cases h
  repeat refine Or.inl ?_
  refine ⟨[], Nat, fun k => k ≤ G.length, fun k => [⟨47, [], .i .i64 k⟩], fun k => [⟨1, [], mpL (.i .i64) (.i .i64) dII (sumsL (G.take k) grp)⟩], fun k => G.length - k,
    ⟨0, [], Nat.zero_le _, rfl, rfl, rfl, rfl, rfl, ⟨rfl, rfl⟩, ⟨rfl, rfl, fun k hk => absurd hk (Nat.not_lt_zero k)⟩⟩, ?_⟩
  intro k hk
  have hk : k ≤ G.length := hk
  refine .inl ⟨fun hc => ?_, fun hc => ?_⟩
  · have hc := dlt hc
    have ek : (k : Int).toNat = k := Int.toNat_natCast k
    have hst := sumsL_take G grp (k := k) (by omega)
    repeat refine Or.inl ?_
    refine ⟨⟨by omega, by omega⟩, ?_⟩
    repeat refine Or.inl ?_
    refine ⟨fun h => ?_, fun h => ?_⟩
    · have h : ((G.getD (k : Int).toNat dGt).grp == grp) = true := h
      rw [ek, beq_iff_eq] at h
      unfold sumStep at hst
      rw [if_pos h] at hst
      have gg : G.getD (k : Int).toNat dGt = G.getD k dGt := by rw [ek]
      repeat refine Or.inl ?_
      refine ⟨_, _, ⟨fun _ _ => rfl, rfl, lookOk_mget i64_inj _ 0⟩, ?_⟩
      refine ⟨_, _, _, _, _, ⟨fun _ _ => rfl, rfl, updOk_mset (d := dII) i64_inj _ _⟩, ?_⟩
      refine ⟨k + 1, [], by dsimp only; omega, by dsimp only; omega, rfl, rfl, rfl, rfl, rfl, ⟨rfl, wr (by omega) (by omega)⟩, ?_⟩
      have ao : AOEq (mpL (.i .i64) (.i .i64) dII (sumsL (G.take (k + 1)) grp)) (mpL (.i .i64) (.i .i64) dII (mset (sumsL (G.take k) grp) (G.getD (k : Int).toNat dGt).per (bitsI .or .i64 ((mget (sumsL (G.take k) grp) (G.getD (k : Int).toNat dGt).per).getD 0) (G.getD (k : Int).toNat dGt).rig))) := by
        rw [hst, gg]
        exact AOEq.refl _
      exact ao
    · have h : ((G.getD (k : Int).toNat dGt).grp == grp) = false := h
      rw [ek, beq_eq_false_iff_ne] at h
      unfold sumStep at hst
      rw [if_neg h] at hst
      refine ⟨k + 1, [], by dsimp only; omega, by dsimp only; omega, rfl, rfl, rfl, rfl, rfl, ⟨rfl, wr (by omega) (by omega)⟩, ?_⟩
      have ao : AOEq (mpL (.i .i64) (.i .i64) dII (sumsL (G.take (k + 1)) grp)) (mpL (.i .i64) (.i .i64) dII (sumsL (G.take k) grp)) := by
        rw [hst]
        exact AOEq.refl _
      exact ao
  · have hc := dnlt hc
    obtain rfl : k = G.length := by omega
    rw [List.take_length]
    have S := sumP grp _ G rfl hv
    repeat refine Or.inl ?_
    refine ⟨[], List Nat × List (Int × Bool), fun x => HasJ (sumsL G grp) r x.1 x.2, fun _ => [], fun x => [⟨2, [], mpL (.i .i64) .b dIB x.2⟩, ⟨3, [], .it 1 (sumsL G grp).length x.1⟩], fun x => (sumsL G grp).length - x.1.length,
      ⟨([], []), [], HasJ.init _ _, rfl, rfl, rfl, rfl, rfl, trivial, ⟨⟨rfl, rfl, fun k hk => absurd hk (Nat.not_lt_zero k)⟩, ⟨rfl, rfl, rfl⟩⟩⟩, ?_⟩
    rintro ⟨seen, y⟩ hJ
    have hJ : HasJ (sumsL G grp) r seen y := hJ
    refine ⟨rfl, fun i hi hns => ?_, fun hall => ?_⟩
    · repeat refine Or.inl ?_
      refine ⟨fun _ => ?_, fun h => by cases h⟩
      repeat refine Or.inl ?_
      refine ⟨i, ⟨hi, by simp, rfl⟩, ?_⟩
      repeat refine Or.inl ?_
      refine ⟨_, _, _, _, _, ⟨fun _ _ => rfl, rfl, updOk_mset (d := dIB) i64_inj _ _⟩, ?_⟩
      exact ⟨(seen ++ [i], mset y ((sumsL G grp).getD i dII).1 (saidB ((sumsL G grp).getD i dII).2 r)), [], hJ.step S.nd hi (by simpa using hns), seen_len hJ.nd hJ.rg hi (by simpa using hns), rfl, rfl, rfl, rfl, rfl, trivial, ⟨⟨rfl, rfl, fun _ _ => ⟨rfl, rfl, rfl⟩⟩, ⟨rfl, rfl, rfl⟩⟩⟩
    · repeat refine Or.inl ?_
      refine ⟨fun h => (by cases h), fun _ => ?_⟩
      exact ⟨⟨y, [], hJ.fin hv hr1 hr2 hall, ⟨⟨⟨rfl, rfl, AVEq.refl _⟩, trivial⟩, trivial, rfl⟩, rfl, fun h => by cases h⟩⟩
end Go.Proofs.Ytilhaifmfiobhaa
end
