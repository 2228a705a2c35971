/-
  Several texts in one: So, Z1, Z2, Y10, Z3, Z4, V3, V4, V5, V6, V7, V8, V9, Y11, Z5, Va, Vb, Z6p, Z6, Vc.
-/
import Derived.Shelf.SortM.Plain
import Derived.Shelf.SortM.SortNone
import Derived.Shelf.Slices.CompactI
import Derived.Test.YtilhaifmfiobhaaMg15

section
/-
  Numbers sorted, and each once: the kit's contracts on slices.Sort and slices.Compact, laid at this program.
-/
namespace Go.Proofs.Ytilhaifmfiobhaa
open Go.Eng Go.RowKit Go.Maps Go.Sort Go.Shelf

def sortA_ren : Go.Shelf.Ren := ⟨fun | 5 => 110 | 8 => 126 | 7 => 125 | 19 => 140 | 20 => 141 | 10 => 131 | 11 => 132 | 12 => 133 | 13 => 134 | 14 => 135 | 15 => 136 | 16 => 137 | 17 => 138 | 18 => 139 | 30 => 143 | 31 => 144 | 32 => 145 | 33 => 146 | 34 => 147 | 35 => 148 | 40 => 149 | n => n, fun | 23 => 23 | 25 => 3 | 3 => 3 | 32 => 136 | 22 => 23 | 0 => 0 | 44 => 149 | 46 => 151 | 4 => 4 | 36 => 142 | 35 => 141 | 41 => 60 | 5 => 5 | 9 => 9 | 53 => 153 | 57 => 157 | 63 => 159 | 64 => 160 | n => n, fun | n => n⟩
theorem sortA : Go.Proofs.SlLaysM.n5 Try.prog sortA_ren := {
  mixed := by kernel_rfl,
  f5 := ⟨Try.f110.name, by decide, Try.func110.trans (congrArg some (by kernel_rfl))⟩,
  f7 := ⟨Try.f125.name, by decide, Try.func125.trans (congrArg some (by kernel_rfl))⟩,
  f8 := Try.func126.trans (congrArg some (by kernel_rfl)),
  f10 := ⟨Try.f131.name, by decide, Try.func131.trans (congrArg some (by kernel_rfl))⟩,
  f11 := ⟨Try.f132.name, by decide, Try.func132.trans (congrArg some (by kernel_rfl))⟩,
  f12 := ⟨Try.f133.name, by decide, Try.func133.trans (congrArg some (by kernel_rfl))⟩,
  f13 := ⟨Try.f134.name, by decide, Try.func134.trans (congrArg some (by kernel_rfl))⟩,
  f14 := ⟨Try.f135.name, by decide, Try.func135.trans (congrArg some (by kernel_rfl))⟩,
  f15 := ⟨Try.f136.name, by decide, Try.func136.trans (congrArg some (by kernel_rfl))⟩,
  f16 := ⟨Try.f137.name, by decide, Try.func137.trans (congrArg some (by kernel_rfl))⟩,
  f17 := ⟨Try.f138.name, by decide, Try.func138.trans (congrArg some (by kernel_rfl))⟩,
  f18 := ⟨Try.f139.name, by decide, Try.func139.trans (congrArg some (by kernel_rfl))⟩,
  f19 := Try.func140.trans (congrArg some (by kernel_rfl)),
  f20 := Try.func141.trans (congrArg some (by kernel_rfl)),
  f30 := ⟨Try.f143.name, by decide, Try.func143.trans (congrArg some (by kernel_rfl))⟩,
  f31 := Try.func144.trans (congrArg some (by kernel_rfl)),
  f32 := Try.func145.trans (congrArg some (by kernel_rfl)),
  f33 := ⟨Try.f146.name, by decide, Try.func146.trans (congrArg some (by kernel_rfl))⟩,
  f34 := ⟨Try.f147.name, by decide, Try.func147.trans (congrArg some (by kernel_rfl))⟩,
  f35 := ⟨Try.f148.name, by decide, Try.func148.trans (congrArg some (by kernel_rfl))⟩,
  f40 := ⟨Try.f149.name, by decide, Try.func149.trans (congrArg some (by kernel_rfl))⟩,
  t0 := Try.underlying0,
  a0 := Try.isAgg0,
  z0 := Try.sizeOf0,
  v0 := Try.zeroValue0,
  t3 := Try.underlying3,
  a3 := Try.isAgg3,
  z3 := Try.sizeOf3,
  v3 := Try.zeroValue3,
  t4 := Try.underlying4,
  a4 := Try.isAgg4,
  z4 := Try.sizeOf4,
  v4 := Try.zeroValue4,
  t5 := Try.underlying5,
  a5 := Try.isAgg5,
  z5 := Try.sizeOf5,
  v5 := Try.zeroValue5,
  t9 := Try.underlying9,
  a9 := Try.isAgg9,
  z9 := Try.sizeOf9,
  v9 := Try.zeroValue9,
  t22 := Try.underlying23,
  a22 := Try.isAgg23,
  z22 := Try.sizeOf23,
  v22 := Try.zeroValue23,
  t23 := Try.underlying23,
  a23 := Try.isAgg23,
  z23 := Try.sizeOf23,
  v23 := Try.zeroValue23,
  t25 := Try.underlying3,
  a25 := Try.isAgg3,
  z25 := Try.sizeOf3,
  v25 := Try.zeroValue3,
  t32 := Try.underlying136,
  a32 := Try.isAgg136,
  z32 := Try.sizeOf136,
  v32 := Try.zeroValue136,
  t35 := Try.underlying141,
  a35 := Try.isAgg141,
  z35 := Try.sizeOf141,
  v35 := Try.zeroValue141,
  t36 := Try.underlying142,
  a36 := Try.isAgg142,
  z36 := Try.sizeOf142,
  v36 := Try.zeroValue142,
  t41 := Try.underlying60,
  a41 := Try.isAgg60,
  z41 := Try.sizeOf60,
  v41 := Try.zeroValue60,
  t44 := Try.underlying149,
  a44 := Try.isAgg149,
  z44 := Try.sizeOf149,
  v44 := Try.zeroValue149,
  t46 := Try.underlying151,
  a46 := Try.isAgg151,
  z46 := Try.sizeOf151,
  v46 := Try.zeroValue151,
  t53 := Try.underlying153,
  a53 := Try.isAgg153,
  z53 := Try.sizeOf153,
  v53 := Try.zeroValue153,
  t57 := Try.underlying157,
  a57 := Try.isAgg157,
  z57 := Try.sizeOf157,
  v57 := Try.zeroValue157,
  t63 := Try.underlying159,
  a63 := Try.isAgg159,
  z63 := Try.sizeOf159,
  v63 := Try.zeroValue159,
  t64 := Try.underlying160,
  a64 := Try.isAgg160,
  z64 := Try.sizeOf160,
  v64 := Try.zeroValue160 }

theorem sortsRow : SortsRow Try.prog 110 :=
  ⟨⟨_, Try.func110, by kernel_rfl, rfl⟩, fun blk off cap ss W hH hblk hsz => AnyM.slices_Sort_int sortA blk off cap ss W hH hblk hsz, fun p cap W => AnyM.slices_Sort_int_none sortA p cap W⟩
theorem sortI_le (l : List Int) : (sortI l).Pairwise (· ≤ ·) := by
  have := List.pairwise_mergeSort (le := fun x y : Int => decide (x ≤ y)) (fun a b c h1 h2 => by simp at *; omega) (fun a b => by simp; omega) l
  exact this.imp fun h => by simpa using h
theorem sortI_mem {l : List Int} {x : Int} : x ∈ sortI l ↔ x ∈ l := List.mem_mergeSort
end Go.Proofs.Ytilhaifmfiobhaa
end

section
/-
  Persons: literals, persons, Of and May.
-/
namespace Go.Proofs.Ytilhaifmfiobhaa
open Go.Eng

section
variable {P : Program}
end
end Go.Proofs.Ytilhaifmfiobhaa
end

section
/-
  Persons: May, Same.
-/
namespace Go.Proofs.Ytilhaifmfiobhaa
open Go.Eng

end Go.Proofs.Ytilhaifmfiobhaa
end

section
/-
  ClaimWorlds.
-/
namespace Go.Proofs.Ytilhaifmfiobhaa
open Go.Eng

end Go.Proofs.Ytilhaifmfiobhaa
end

section
/-
  Persons: Worlds.
-/
namespace Go.Proofs.Ytilhaifmfiobhaa
open Go.Eng

section
variable {P : Program}
end

/-- The worlds with the first numbers. -/
def wldT (C : List Cm) (P : List Pf) (k : Nat) : List (List Bool) := ((List.range k).map (after C.length)).filter fun w => checkB (clausesL C P) C.length w
def wldL (C : List Cm) (P : List Pf) : List (List Bool) := wldT C P (2 ^ C.length)
theorem wldT_succ (C : List Cm) (P : List Pf) (k : Nat) : wldT C P (k + 1) = if checkB (clausesL C P) C.length (after C.length k) = true then wldT C P k ++ [after C.length k] else wldT C P k := by
  unfold wldT
  rw [List.range_succ, List.map_append, List.filter_append]
  by_cases h : checkB (clausesL C P) C.length (after C.length k) = true
  · rw [if_pos h, List.map_cons, List.map_nil, List.filter_cons_of_pos h]; rfl
  · rw [if_neg h, List.map_cons, List.map_nil, List.filter_cons_of_neg h]; simp
end Go.Proofs.Ytilhaifmfiobhaa
end

section
/-
  Persons: the law's own small functions, and the small examples.
-/
namespace Go.Proofs.Ytilhaifmfiobhaa
open Go.Eng

theorem asc_unique : ∀ {L M : List Int}, L.Pairwise (· < ·) → M.Pairwise (· < ·) → (∀ x, x ∈ L ↔ x ∈ M) → L = M
  | [], [], _, _, _ => rfl
  | [], m :: M, _, _, h => absurd ((h m).2 (by simp)) (by simp)
  | l :: L, [], _, _, h => absurd ((h l).1 (by simp)) (by simp)
  | l :: L, m :: M, hL, hM, h => by
    rw [List.pairwise_cons] at hL hM
    have e : l = m := by
      have h1 := (h l).1 (by simp)
      have h2 := (h m).2 (by simp)
      rcases List.mem_cons.1 h1 with h1 | h1
      · exact h1
      · rcases List.mem_cons.1 h2 with h2 | h2
        · exact h2.symm
        · have := hM.1 _ h1
          have := hL.1 _ h2
          omega
    subst e
    congr 1
    refine asc_unique hL.2 hM.2 fun x => ?_
    have hx := h x
    rw [List.mem_cons, List.mem_cons] at hx
    constructor
    · intro hm
      have := hL.1 _ hm
      exact (hx.1 (.inr hm)).resolve_left (by omega)
    · intro hm
      have := hM.1 _ hm
      exact (hx.2 (.inr hm)).resolve_left (by omega)
end Go.Proofs.Ytilhaifmfiobhaa
end

section
/-
  Rights: a question is posed.
-/
namespace Go.Proofs.Ytilhaifmfiobhaa
open Go.Eng

/-! ### what a question is -/
def badQ (G : List Gt) (r : Int) : Bool := (decide (r < 1) || decide (r > 15)) || !validG G
def poseE (C : List Cm) (P : List Pf) (G : List Gt) (r : Int) : Int :=
  if badQ G r = true then 1 else if (clausesY C P).2 = 0 then (if followsB (clausesL C P) C.length [] = true then 17 else 0) else (clausesY C P).2
def dIB : Int × Bool := (0, false)
def dII : Int × Int := (0, 0)
def hasR (y : List (Int × Bool)) : AV := .rm y.length (fun i => .i .i64 (y.getD i dIB).1) (fun i => .b (y.getD i dIB).2)
def probA (C : List Cm) (P : List Pf) (y : List (Int × Bool)) : AV := .rp [.rs 2 C.length (rowsM C), .rs 2 (clausesL C P).length (rowsC (clausesL C P)), hasR y]
def IsHas (G : List Gt) (grp r : Int) (y : List (Int × Bool)) : Prop := ∀ p, (mget y p).getD false = hasG G grp p r

theorem Follows_nil (l : List Cl) (hl : l.length < 2^62) (n : Int) : Ctr Try.prog 23 [.rs 2 l.length (rowsC l), .i .i64 n, .val (.slice none 0 0)] [] (.b (followsB l n [])) :=
  Ctr.of_eq (args := [.rs 2 l.length (rowsC l), .i .i64 n, .rs 1 0 (rowsI [])]) ⟨AVEq.refl _, AVEq.refl _, ⟨rfl, rfl⟩⟩ (Follows_fn l hl n [] (by decide))

/-- The map of who has the right, while the sums are gone through. -/
structure HasJ (L : List (Int × Int)) (r : Int) (seen : List Nat) (y : List (Int × Bool)) : Prop where
  nd : seen.Nodup
  rg : ∀ i ∈ seen, i < L.length
  at' : ∀ i ∈ seen, mget y (L.getD i dII).1 = some (saidB (L.getD i dII).2 r)
  of : ∀ p, (mget y p).isSome = true → ∃ i ∈ seen, (L.getD i dII).1 = p
theorem HasJ.init (L : List (Int × Int)) (r : Int) : HasJ L r [] [] := ⟨by simp, by simp, by simp, fun p h => by cases h⟩
theorem keys_inj {L : List (Int × Int)} (h : (mkeys L).Nodup) {i j : Nat} (hi : i < L.length) (hj : j < L.length) (e : (L.getD i dII).1 = (L.getD j dII).1) : i = j := by
  have hm : ∀ k, k < L.length → (mkeys L).getD k 0 = (L.getD k dII).1 := fun k hk => by
    simp [mkeys, List.getD, hk]
  have hl : (mkeys L).length = L.length := by simp [mkeys]
  exact getD_injX h (by rw [hl]; exact hi) (by rw [hl]; exact hj) (by rw [hm i hi, hm j hj]; exact e)
theorem HasJ.step {L : List (Int × Int)} {r : Int} {seen : List Nat} {y : List (Int × Bool)} (h : HasJ L r seen y) (hn : (mkeys L).Nodup) {i : Nat} (hi : i < L.length) (hns : i ∉ seen) :
    HasJ L r (seen ++ [i]) (mset y (L.getD i dII).1 (saidB (L.getD i dII).2 r)) := by
  refine ⟨?_, fun j hj => ?_, fun j hj => ?_, fun p hp => ?_⟩
  · rw [List.nodup_append]
    refine ⟨h.nd, by simp, fun a ha b hb => ?_⟩
    rw [List.mem_singleton.1 hb]
    rintro rfl
    exact hns ha
  · rcases List.mem_append.1 hj with hj | hj
    · exact h.rg j hj
    · rw [List.mem_singleton.1 hj]; exact hi
  · rw [mget_mset]
    rcases List.mem_append.1 hj with hj | hj
    · rw [if_neg ?_]
      · exact h.at' j hj
      · intro e
        have := keys_inj hn (h.rg j hj) hi e
        rw [this] at hj
        exact hns hj
    · rw [List.mem_singleton.1 hj, if_pos rfl]
  · rw [mget_mset] at hp
    by_cases e : p = (L.getD i dII).1
    · exact ⟨i, by simp, e.symm⟩
    · rw [if_neg e] at hp
      obtain ⟨j, hj, h2⟩ := h.of p hp
      exact ⟨j, List.mem_append_left _ hj, h2⟩
theorem HasJ.fin {G : List Gt} (hv : validG G = true) {grp r : Int} (h1 : 1 ≤ r) (h2 : r ≤ 15) {seen : List Nat} {y : List (Int × Bool)} (h : HasJ (sumsL G grp) r seen y) (hall : ∀ i, i < (sumsL G grp).length → i ∈ seen) : IsHas G grp r y := by
  intro p
  rw [← said_has hv h1 h2]
  cases hm : mget (sumsL G grp) p with
  | none =>
    cases hy : mget y p with
    | none => rfl
    | some b =>
      obtain ⟨i, hi, e⟩ := h.of p (by rw [hy]; rfl)
      exact absurd e (mget_none hm dII i (h.rg i hi))
  | some s =>
    obtain ⟨i, hi, e1, e2⟩ := mget_some hm dII
    have := h.at' i (hall i hi)
    rw [e1] at this
    rw [this, e2]
    rfl
theorem seen_len {L : List (Int × Int)} {seen : List Nat} (hn : seen.Nodup) (hr : ∀ i ∈ seen, i < L.length) {i : Nat} (hi : i < L.length) (hns : i ∉ seen) : L.length - (seen ++ [i]).length < L.length - seen.length := by
  have h1 : (seen ++ [i]).Nodup := by
    rw [List.nodup_append]
    refine ⟨hn, by simp, fun a ha b hb => ?_⟩
    rw [List.mem_singleton.1 hb]
    rintro rfl
    exact hns ha
  have h2 : (seen ++ [i]).length ≤ L.length := by
    have h3 : ((seen ++ [i]).map fun k : Nat => (k : Int)).Nodup := by
      rw [List.Nodup, List.pairwise_map]
      exact h1.imp fun h e => h (by omega)
    have := nodup_lenX (m := L.length) h3 (fun x hx => by
      obtain ⟨k, hk, rfl⟩ := List.mem_map.1 hx
      have : k < L.length := by
        rcases List.mem_append.1 hk with hk | hk
        · exact hr k hk
        · rw [List.mem_singleton.1 hk]; exact hi
      omega)
    simpa using this
  rw [List.length_append] at h2 ⊢
  simp at h2 ⊢
  omega

set_option maxRecDepth 20000 in
set_option maxHeartbeats 4000000 in
theorem pose_no (C : List Cm) (P : List Pf) (G : List Gt) (hC : C.length < 2 ^ 62) (hP : P.length < 2 ^ 62) (hG : G.length < 2 ^ 62) (grp r : Int) (he : poseE C P G r ≠ 0) :
    Ctr Try.prog 104 [.rs 2 C.length (rowsM C), .rs 3 P.length (rowsP P), .rs 3 G.length (rowsG G), .i .i64 grp, .i .i64 r] [] (.tup [.val (.pointer none), .i .i64 (poseE C P G r)]) := by
  refine fn_of_exec tabOk Try.func104 (by kernel_rfl) rfl (N := Try.f104.ntmps) rfl (res := [.tmp 10, .tmp 11]) rfl rfl [] ?_
  repeat refine Or.inl ?_
  refine ⟨[], .b (validG G), fun _ => valid_fn G hG, ?_⟩
  repeat refine Or.inl ?_
  refine ⟨fun h => ?_, fun h => ?_⟩
  · have h : badQ G r = true := h
    have e : poseE C P G r = 1 := if_pos h
    rw [e]
    exact ⟨⟨[], ⟨⟨⟨rfl, rfl, AVEq.refl _⟩, trivial⟩, trivial, rfl⟩, rfl, trivial⟩⟩
  have h : badQ G r = false := h
  unfold poseE at he ⊢
  rw [if_neg (by rw [h]; decide)] at he ⊢
  rcases Clauses_or (C := C) (P := P) with ⟨hok, e⟩ | ⟨_, k, hk, e⟩
  · rw [e, if_pos rfl] at he ⊢
    have hf : followsB (clausesL C P) C.length [] = true := by
      cases hf : followsB (clausesL C P) C.length [] with
      | true => rfl
      | false => rw [hf] at he; exact absurd rfl he
    have cl := cl_ctr (C := C) (P := P) hC hP hok
    have hlen := (okCP_iff.1 hok).2
    repeat refine Or.inl ?_
    refine ⟨_, _, cl, ?_⟩
    repeat refine Or.inl ?_
    refine ⟨fun h => (by cases h), fun _ => ?_⟩
    repeat refine Or.inl ?_
    refine ⟨[], _, Follows_nil (clausesL C P) (by omega) C.length, ?_⟩
    repeat refine Or.inl ?_
    refine ⟨fun _ => ?_, fun h2 => ?_⟩
    · rw [if_pos hf]
      exact ⟨⟨[], ⟨⟨⟨rfl, rfl, AVEq.refl _⟩, trivial⟩, trivial, rfl⟩, rfl, trivial⟩⟩
    · have h2 : followsB (clausesL C P) C.length [] = false := h2
      rw [hf] at h2
      cases h2
  · have cl := Clauses_fn C P hC hP
    rw [e, (okC_no hk).1, (okC_no hk).2] at cl
    rw [e, if_neg hk]
    repeat refine Or.inl ?_
    refine ⟨_, _, cl, ?_⟩
    repeat refine Or.inl ?_
    refine ⟨fun _ => ?_, fun h => ?_⟩
    · exact ⟨⟨[], ⟨⟨⟨rfl, rfl, AVEq.refl _⟩, trivial⟩, trivial, rfl⟩, rfl, trivial⟩⟩
    · have h : (k != 0) = false := h
      rw [bne_eq_false_iff_eq] at h
      exact absurd h hk

theorem pose_ok {C : List Cm} {P : List Pf} {G : List Gt} {r : Int} (h : poseE C P G r = 0) : badQ G r = false ∧ okCP C P = true ∧ followsB (clausesL C P) C.length [] = false := by
  unfold poseE at h
  split at h
  · cases h
  · rename_i hb
    split at h
    · rename_i h0
      split at h
      · cases h
      · rename_i hf
        exact ⟨by simpa using hb, decide_eq_true h0, by simpa using hf⟩
    · rename_i h0
      exact absurd h h0
theorem badQ_no {G : List Gt} {r : Int} (h : badQ G r = false) : 1 ≤ r ∧ r ≤ 15 ∧ validG G = true := by
  unfold badQ at h
  rw [Bool.or_eq_false_iff, Bool.or_eq_false_iff, decide_eq_false_iff_not, decide_eq_false_iff_not, Bool.not_eq_false'] at h
  exact ⟨by omega, by omega, h.2⟩

set_option maxRecDepth 20000 in
set_option maxHeartbeats 4000000 in
theorem pose_yes (C : List Cm) (P : List Pf) (G : List Gt) (hC : C.length < 2 ^ 62) (hP : P.length < 2 ^ 62) (hG : G.length < 2 ^ 62) (grp r : Int) (he : poseE C P G r = 0) :
    CtrM Try.prog 104 true [] [.rs 2 C.length (rowsM C), .rs 3 P.length (rowsP P), .rs 3 G.length (rowsG G), .i .i64 grp, .i .i64 r] (IsHas G grp r) (fun _ => []) (fun _ => []) (fun y => .tup [probA C P y, .i .i64 0]) := by
  refine fn_of_execM tabOk Try.func104 (by kernel_rfl) rfl (N := Try.f104.ntmps) rfl (res := [.tmp 10, .tmp 11]) rfl true true [] _ _ _ _ rfl (fun _ => rfl) [(1000020, [.frz 10 [0, 2, 4]])] ?_
  obtain ⟨hq, hok, hf⟩ := pose_ok he
  obtain ⟨hr1, hr2, hv⟩ := badQ_no hq
  have cl := cl_ctr (C := C) (P := P) hC hP hok
  have hlen := (okCP_iff.1 hok).2
  repeat refine Or.inl ?_
  refine ⟨[], .b (validG G), fun _ => valid_fn G hG, ?_⟩
  repeat refine Or.inl ?_
  refine ⟨fun h => ?_, fun _ => ?_⟩
  · have h : badQ G r = true := h
    rw [hq] at h
    cases h
  repeat refine Or.inl ?_
  refine ⟨_, _, cl, ?_⟩
  repeat refine Or.inl ?_
  refine ⟨fun h => (by cases h), fun _ => ?_⟩
  repeat refine Or.inl ?_
  refine ⟨[], _, Follows_nil (clausesL C P) (by omega) C.length, ?_⟩
  repeat refine Or.inl ?_
  refine ⟨fun h => ?_, fun _ => ?_⟩
  · have h : followsB (clausesL C P) C.length [] = true := h
    rw [hf] at h
    cases h
  repeat refine Or.inl ?_
  refine ⟨[], Nat, fun k => k ≤ G.length, fun k => [⟨47, [], .i .i64 k⟩], fun k => [⟨1, [], mpL (.i .i64) (.i .i64) dII (sumsL (G.take k) grp)⟩], fun k => G.length - k,
    ⟨0, [], Nat.zero_le _, rfl, rfl, rfl, rfl, rfl, ⟨rfl, rfl⟩, ⟨rfl, rfl, fun k hk => absurd hk (Nat.not_lt_zero k)⟩⟩, ?_⟩
  intro k hk
  have hk : k ≤ G.length := hk
  refine .inl ⟨fun hc => ?_, fun hc => ?_⟩
  · have hc := dlt hc
    have ek : (k : Int).toNat = k := Int.toNat_natCast k
    have hst := sumsL_take G grp (k := k) (by omega)
    repeat refine Or.inl ?_
    refine ⟨⟨by omega, by omega⟩, ?_⟩
    repeat refine Or.inl ?_
    refine ⟨fun h => ?_, fun h => ?_⟩
    · have h : ((G.getD (k : Int).toNat dGt).grp == grp) = true := h
      rw [ek, beq_iff_eq] at h
      unfold sumStep at hst
      rw [if_pos h] at hst
      have gg : G.getD (k : Int).toNat dGt = G.getD k dGt := by rw [ek]
      repeat refine Or.inl ?_
      refine ⟨_, _, ⟨fun _ _ => rfl, rfl, lookOk_mget i64_inj _ 0⟩, ?_⟩
      refine ⟨_, _, _, _, _, ⟨fun _ _ => rfl, rfl, updOk_mset (d := dII) i64_inj _ _⟩, ?_⟩
      refine ⟨k + 1, [], by dsimp only; omega, by dsimp only; omega, rfl, rfl, rfl, rfl, rfl, ⟨rfl, wr (by omega) (by omega)⟩, ?_⟩
      have ao : AOEq (mpL (.i .i64) (.i .i64) dII (sumsL (G.take (k + 1)) grp)) (mpL (.i .i64) (.i .i64) dII (mset (sumsL (G.take k) grp) (G.getD (k : Int).toNat dGt).per (bitsI .or .i64 ((mget (sumsL (G.take k) grp) (G.getD (k : Int).toNat dGt).per).getD 0) (G.getD (k : Int).toNat dGt).rig))) := by
        rw [hst, gg]
        exact AOEq.refl _
      exact ao
    · have h : ((G.getD (k : Int).toNat dGt).grp == grp) = false := h
      rw [ek, beq_eq_false_iff_ne] at h
      unfold sumStep at hst
      rw [if_neg h] at hst
      refine ⟨k + 1, [], by dsimp only; omega, by dsimp only; omega, rfl, rfl, rfl, rfl, rfl, ⟨rfl, wr (by omega) (by omega)⟩, ?_⟩
      have ao : AOEq (mpL (.i .i64) (.i .i64) dII (sumsL (G.take (k + 1)) grp)) (mpL (.i .i64) (.i .i64) dII (sumsL (G.take k) grp)) := by
        rw [hst]
        exact AOEq.refl _
      exact ao
  · have hc := dnlt hc
    obtain rfl : k = G.length := by omega
    rw [List.take_length]
    have S := sumP grp _ G rfl hv
    repeat refine Or.inl ?_
    refine ⟨[], List Nat × List (Int × Bool), fun x => HasJ (sumsL G grp) r x.1 x.2, fun _ => [], fun x => [⟨2, [], mpL (.i .i64) .b dIB x.2⟩, ⟨3, [], .it 1 (sumsL G grp).length x.1⟩], fun x => (sumsL G grp).length - x.1.length,
      ⟨([], []), [], HasJ.init _ _, rfl, rfl, rfl, rfl, rfl, trivial, ⟨⟨rfl, rfl, fun k hk => absurd hk (Nat.not_lt_zero k)⟩, ⟨rfl, rfl, rfl⟩⟩⟩, ?_⟩
    rintro ⟨seen, y⟩ hJ
    have hJ : HasJ (sumsL G grp) r seen y := hJ
    refine ⟨rfl, fun i hi hns => ?_, fun hall => ?_⟩
    · repeat refine Or.inl ?_
      refine ⟨fun _ => ?_, fun h => by cases h⟩
      repeat refine Or.inl ?_
      refine ⟨i, ⟨hi, by simp, rfl⟩, ?_⟩
      repeat refine Or.inl ?_
      refine ⟨_, _, _, _, _, ⟨fun _ _ => rfl, rfl, updOk_mset (d := dIB) i64_inj _ _⟩, ?_⟩
      exact ⟨(seen ++ [i], mset y ((sumsL G grp).getD i dII).1 (saidB ((sumsL G grp).getD i dII).2 r)), [], hJ.step S.nd hi (by simpa using hns), seen_len hJ.nd hJ.rg hi (by simpa using hns), rfl, rfl, rfl, rfl, rfl, trivial, ⟨⟨rfl, rfl, fun _ _ => ⟨rfl, rfl, rfl⟩⟩, ⟨rfl, rfl, rfl⟩⟩⟩
    · repeat refine Or.inl ?_
      refine ⟨fun h => (by cases h), fun _ => ?_⟩
      exact ⟨⟨y, [], hJ.fin hv hr1 hr2 hall, ⟨⟨⟨rfl, rfl, AVEq.refl _⟩, trivial⟩, trivial, rfl⟩, rfl, fun h => by cases h⟩⟩
end Go.Proofs.Ytilhaifmfiobhaa
end

section
/-
  Rights: the claims by which an account may use a right; Holds.
-/
namespace Go.Proofs.Ytilhaifmfiobhaa
open Go.Eng

def usesB (C : List Cm) (G : List Gt) (grp a r : Int) (i : Nat) : Bool := (C.getD i dCm).acc == a && hasG G grp (C.getD i dCm).per r
def litsGTo (C : List Cm) (G : List Gt) (grp a r : Int) (k : Nat) : List Int := (List.range k).flatMap fun i => if usesB C G grp a r i = true then [2 * (i : Int)] else []
def litsG (C : List Cm) (G : List Gt) (grp a r : Int) : List Int := litsGTo C G grp a r C.length
theorem litsGTo_succ (C : List Cm) (G : List Gt) (grp a r : Int) (k : Nat) : litsGTo C G grp a r (k + 1) = litsGTo C G grp a r k ++ (if usesB C G grp a r k = true then [2 * (k : Int)] else []) := by
  unfold litsGTo
  rw [List.range_succ, List.flatMap_append]
  simp
theorem litsGTo_len (C : List Cm) (G : List Gt) (grp a r : Int) : ∀ k, (litsGTo C G grp a r k).length ≤ k
  | 0 => by simp [litsGTo]
  | k + 1 => by
    have := litsGTo_len C G grp a r k
    rw [litsGTo_succ, List.length_append]
    split <;> simp <;> omega
theorem litsG_len (C : List Cm) (G : List Gt) (grp a r : Int) : (litsG C G grp a r).length ≤ C.length := litsGTo_len _ _ _ _ _ _
theorem mem_litsG {C : List Cm} {G : List Gt} {grp a r x : Int} : x ∈ litsG C G grp a r ↔ ∃ i, i < C.length ∧ usesB C G grp a r i = true ∧ x = 2 * (i : Int) := by
  unfold litsG litsGTo
  rw [List.mem_flatMap]
  constructor
  · rintro ⟨i, hi, h⟩
    by_cases hu : usesB C G grp a r i = true
    · rw [if_pos hu] at h
      exact ⟨i, List.mem_range.1 hi, hu, List.mem_singleton.1 h⟩
    · rw [if_neg hu] at h
      cases h
  · rintro ⟨i, hi, hu, rfl⟩
    exact ⟨i, List.mem_range.2 hi, by rw [if_pos hu]; simp⟩
theorem litsG_ok {C : List Cm} {G : List Gt} {grp a r : Int} : ∀ x ∈ litsG C G grp a r, 0 ≤ x ∧ x < 2 * (C.length : Int) := by
  intro x hx
  obtain ⟨i, hi, _, rfl⟩ := mem_litsG.1 hx
  omega

def gB (y : List (Int × Bool)) (p : Int) : Bool := (mget y p).getD false
theorem lookH (y : List (Int × Bool)) (p : Int) : LookOk y.length (fun i => .i .i64 (y.getD i dIB).1) (fun i => .b (y.getD i dIB).2) (.i .i64 p) (.b (gB y p)) (.b false) (mget y p).isSome := lookOk_mget (kf := .i .i64) (vf := .b) (d := dIB) i64_inj p false

set_option maxRecDepth 20000 in
set_option maxHeartbeats 4000000 in
theorem literalsG_fn (C : List Cm) (P : List Pf) (G : List Gt) (hC : C.length ≤ 1000) (grp r : Int) (y : List (Int × Bool)) (hy : IsHas G grp r y) (a : Int) :
    Ctr Try.prog 106 [probA C P y, .i .i64 a] [.row 3 1 (litsG C G grp a r).length (rowsI (litsG C G grp a r))] (.so 0) := by
  refine fn_of_exec tabOk Try.func106 (by kernel_rfl) rfl (N := Try.f106.ntmps) rfl (res := [.tmp 4]) rfl rfl [] ?_
  repeat refine Or.inl ?_
  refine ⟨[(5, 3, 1)], Nat, fun k => k ≤ C.length, fun k => [⟨13, [], .i .i64 k⟩, ⟨5, [], .so 0⟩], fun k => [⟨0, [], .row 3 1 (litsGTo C G grp a r k).length (rowsI (litsGTo C G grp a r k))⟩], fun k => C.length - k,
    ⟨0, [], Nat.zero_le _, rfl, rfl, rfl, rfl, rfl, ⟨⟨rfl, rfl⟩, rfl⟩, ⟨rfl, rfl, rfl, fun j hj => by cases hj⟩⟩, ?_⟩
  intro k hk
  have hk : k ≤ C.length := hk
  have hll := litsGTo_len C G grp a r k
  refine .inl ⟨fun hc => ?_, fun hc => ?_⟩
  · have hc := dlt hc
    have ek : (k : Int).toNat = k := Int.toNat_natCast k
    have hst := litsGTo_succ C G grp a r k
    have hu : ((C.getD (k : Int).toNat dCm).acc == a && gB y (C.getD (k : Int).toNat dCm).per) = usesB C G grp a r k := by
      rw [ek]
      unfold usesB gB
      rw [hy]
    repeat refine Or.inl ?_
    refine ⟨⟨by omega, by omega⟩, ?_⟩
    repeat refine Or.inl ?_
    refine ⟨_, _, ⟨fun _ => ⟨fun _ _ => rfl, rfl, lookH y _⟩, ?_⟩⟩
    repeat refine Or.inl ?_
    refine ⟨fun h => ?_, fun h => ?_⟩
    · have h : ((C.getD (k : Int).toNat dCm).acc == a && gB y (C.getD (k : Int).toNat dCm).per) = true := h
      rw [hu] at h
      rw [if_pos h] at hst
      refine ⟨fits (by omega), ?_⟩
      refine ⟨k + 1, [(0, 3)], by dsimp only; omega, by dsimp only; omega, rfl, rfl, rfl, rfl, rfl, ⟨⟨rfl, wr (by omega) (by omega)⟩, rfl⟩, snocZ_row _ _ ?_⟩
      rw [hst, wr (by omega) (by omega)]
    · have h : ((C.getD (k : Int).toNat dCm).acc == a && gB y (C.getD (k : Int).toNat dCm).per) = false := h
      rw [hu] at h
      rw [if_neg (by rw [h]; decide), List.append_nil] at hst
      refine ⟨k + 1, [], by dsimp only; omega, by dsimp only; omega, rfl, rfl, rfl, rfl, rfl, ⟨⟨rfl, wr (by omega) (by omega)⟩, rfl⟩, same_row hst⟩
  · have hc := dnlt hc
    obtain rfl : k = C.length := by omega
    exact RetIs.so rfl rfl (fun _ _ => rfl) (fun _ _ => rfl)

set_option maxRecDepth 20000 in
theorem holds1_fn (C : List Cm) (P : List Pf) (G : List Gt) (hC : C.length ≤ 1000) (hl : (clausesL C P).length < 2 ^ 62) (grp r : Int) (y : List (Int × Bool)) (hy : IsHas G grp r y) (a : Int) :
    Ctr Try.prog 105 [probA C P y, .i .i64 a] [] (.b (followsB (clausesL C P) C.length (litsG C G grp a r))) := by
  refine fn_of_exec tabOk Try.func105 (by kernel_rfl) rfl (N := Try.f105.ntmps) rfl (res := [.tmp 4]) rfl rfl [] ?_
  have hll := litsG_len C G grp a r
  repeat refine Or.inl ?_
  refine ⟨_, _, literalsG_fn C P G hC grp r y hy a, ?_⟩
  repeat refine Or.inl ?_
  refine ⟨[], _, Follows_fn (clausesL C P) hl C.length (litsG C G grp a r) (by omega), ?_⟩
  exact RetIs.b rfl

def holdsY (C : List Cm) (P : List Pf) (G : List Gt) (grp a r : Int) : Bool := decide (poseE C P G r = 0) && followsB (clausesL C P) C.length (litsG C G grp a r)
set_option maxRecDepth 20000 in
set_option maxHeartbeats 4000000 in
theorem Holds_fn (C : List Cm) (P : List Pf) (G : List Gt) (hC : C.length ≤ 1000) (hP : P.length < 2 ^ 62) (hG : G.length < 2 ^ 62) (grp a r : Int) :
    Ctr Try.prog 60 [.rs 2 C.length (rowsM C), .rs 3 P.length (rowsP P), .rs 3 G.length (rowsG G), .i .i64 grp, .i .i64 a, .i .i64 r] [] (.tup [.b (holdsY C P G grp a r), .i .i64 (poseE C P G r)]) := by
  refine fn_of_exec tabOk Try.func60 (by kernel_rfl) rfl (N := Try.f60.ntmps) rfl (res := [.tmp 12, .tmp 13]) rfl rfl [] ?_
  by_cases he : poseE C P G r = 0
  · have hlen := (okCP_iff.1 (pose_ok he).2.1).2
    have hh : holdsY C P G grp a r = followsB (clausesL C P) C.length (litsG C G grp a r) := by
      unfold holdsY
      rw [decide_eq_true he, Bool.true_and]
    rw [hh, he]
    refine .inr (.inr ⟨true, [], rfl, _, _, _, _, _, pose_yes C P G (by omega) hP hG grp r he, fun y hy => ?_⟩)
    repeat refine Or.inl ?_
    refine ⟨fun h => (by cases h), fun _ => ?_⟩
    repeat refine Or.inl ?_
    refine ⟨[], _, holds1_fn C P G hC (by omega) grp r y hy a, ?_⟩
    exact ⟨⟨[], ⟨⟨⟨rfl, rfl, AVEq.refl _⟩, trivial⟩, trivial, rfl⟩, rfl, trivial⟩⟩
  · have hh : holdsY C P G grp a r = false := by
      unfold holdsY
      rw [decide_eq_false he, Bool.false_and]
    rw [hh]
    repeat refine Or.inl ?_
    refine ⟨[], _, pose_no C P G (by omega) hP hG grp r he, ?_⟩
    repeat refine Or.inl ?_
    refine ⟨fun _ => ?_, fun h => ?_⟩
    · exact ⟨⟨[], ⟨⟨⟨rfl, rfl, AVEq.refl _⟩, trivial⟩, trivial, rfl⟩, rfl, trivial⟩⟩
    · have h : (poseE C P G r != 0) = false := h
      rw [bne_eq_false_iff_eq] at h
      exact absurd h he
end Go.Proofs.Ytilhaifmfiobhaa
end

section
/-
  Rights: Holders, Gained, Lost.
-/
namespace Go.Proofs.Ytilhaifmfiobhaa
open Go.Eng

/-! ### who holds a right -/
def folB (C : List Cm) (P : List Pf) (G : List Gt) (grp a r : Int) : Bool := followsB (clausesL C P) C.length (litsG C G grp a r)
/-- The accounts that hold the right, as they come first. -/
def hdTo (C : List Cm) (F : Int → Bool) : Nat → List Int
  | 0 => []
  | k + 1 => if (!hasN (hdTo C F k) (C.getD k dCm).acc && F (C.getD k dCm).acc) = true then hdTo C F k ++ [(C.getD k dCm).acc] else hdTo C F k
def holdL (C : List Cm) (P : List Pf) (G : List Gt) (grp r : Int) : List Int := sortI (hdTo C (fun a => folB C P G grp a r) C.length)
theorem hdTo_len (C : List Cm) (F : Int → Bool) : ∀ k, (hdTo C F k).length ≤ k
  | 0 => Nat.le_refl _
  | k + 1 => by
    have := hdTo_len C F k
    unfold hdTo
    split
    · rw [List.length_append, List.length_singleton]; omega
    · omega
theorem hdTo_spec (C : List Cm) (F : Int → Bool) : ∀ k, (hdTo C F k).Nodup ∧ ∀ a, a ∈ hdTo C F k ↔ F a = true ∧ ∃ i, i < k ∧ (C.getD i dCm).acc = a
  | 0 => ⟨List.nodup_nil, fun a => ⟨fun h => (by cases h), fun ⟨_, i, hi, _⟩ => absurd hi (Nat.not_lt_zero i)⟩⟩
  | k + 1 => by
    obtain ⟨h1, h2⟩ := hdTo_spec C F k
    unfold hdTo
    by_cases hc : (!hasN (hdTo C F k) (C.getD k dCm).acc && F (C.getD k dCm).acc) = true
    · rw [if_pos hc]
      rw [Bool.and_eq_true, Bool.not_eq_true', ← Bool.not_eq_true, hasN_iff] at hc
      refine ⟨?_, fun a => ?_⟩
      · rw [List.nodup_append]
        refine ⟨h1, by simp, fun x hx b hb => ?_⟩
        rw [List.mem_singleton.1 hb]
        rintro rfl
        exact hc.1 hx
      · rw [List.mem_append, List.mem_singleton, h2]
        constructor
        · rintro (⟨h3, i, hi, h4⟩ | rfl)
          · exact ⟨h3, i, by omega, h4⟩
          · exact ⟨hc.2, k, by omega, rfl⟩
        · rintro ⟨h3, i, hi, h4⟩
          by_cases hik : i < k
          · exact .inl ⟨h3, i, hik, h4⟩
          · obtain rfl : i = k := by omega
            exact .inr h4.symm
    · rw [if_neg hc]
      refine ⟨h1, fun a => ?_⟩
      rw [h2]
      constructor
      · rintro ⟨h3, i, hi, h4⟩
        exact ⟨h3, i, by omega, h4⟩
      · rintro ⟨h3, i, hi, h4⟩
        by_cases hik : i < k
        · exact ⟨h3, i, hik, h4⟩
        · obtain rfl : i = k := by omega
          have : a ∈ hdTo C F i := Classical.byContradiction fun hn => hc (by
            rw [Bool.and_eq_true, Bool.not_eq_true', ← Bool.not_eq_true, hasN_iff, h4]
            exact ⟨hn, h3⟩)
          exact (h2 a).1 this
theorem holdL_len (C : List Cm) (P : List Pf) (G : List Gt) (grp r : Int) : (holdL C P G grp r).length ≤ C.length := by
  unfold holdL
  rw [sortI_length]
  exact hdTo_len _ _ _
theorem mem_holdL {C : List Cm} {P : List Pf} {G : List Gt} {grp r a : Int} : a ∈ holdL C P G grp r ↔ folB C P G grp a r = true ∧ ∃ i, i < C.length ∧ (C.getD i dCm).acc = a := by
  unfold holdL
  rw [sortI_mem]
  exact (hdTo_spec C (fun a => folB C P G grp a r) C.length).2 a
theorem holdL_asc (C : List Cm) (P : List Pf) (G : List Gt) (grp r : Int) : (holdL C P G grp r).Pairwise (· < ·) := by
  have h1 : (holdL C P G grp r).Pairwise (· ≤ ·) := sortI_le _
  have h2 : (holdL C P G grp r).Nodup := (List.mergeSort_perm _ _).nodup_iff.2 (hdTo_spec C (fun a => folB C P G grp a r) C.length).1
  exact (h1.and h2).imp fun h => by omega

def nilL : AV := .val (.slice none 0 0)
set_option maxRecDepth 20000 in
set_option maxHeartbeats 4000000 in
theorem Holders_yes (C : List Cm) (P : List Pf) (G : List Gt) (hC : C.length ≤ 1000) (hP : P.length < 2 ^ 62) (hG : G.length < 2 ^ 62) (grp r : Int) (he : poseE C P G r = 0) :
    Ctr Try.prog 64 [.rs 2 C.length (rowsM C), .rs 3 P.length (rowsP P), .rs 3 G.length (rowsG G), .i .i64 grp, .i .i64 r] [.row 3 1 (holdL C P G grp r).length (rowsI (holdL C P G grp r))] (.tup [.so 0, .i .i64 0]) := by
  refine fn_of_exec tabOk Try.func64 (by kernel_rfl) rfl (N := Try.f64.ntmps) rfl (res := [.tmp 10, .tmp 11]) rfl rfl [] ?_
  have hlen := (okCP_iff.1 (pose_ok he).2.1).2
  refine .inr (.inr ⟨true, [], rfl, _, _, _, _, _, pose_yes C P G (by omega) hP hG grp r he, fun y hy => ?_⟩)
  repeat refine Or.inl ?_
  refine ⟨fun h => (by cases h), fun _ => ?_⟩
  repeat refine Or.inl ?_
  refine ⟨[(14, 3, 1)], Nat, fun k => k ≤ C.length, fun k => [⟨31, [], .i .i64 k⟩, ⟨14, [], .so 0⟩], fun k => [⟨0, [], .row 3 1 (hdTo C (fun a => folB C P G grp a r) k).length (rowsI (hdTo C (fun a => folB C P G grp a r) k))⟩], fun k => C.length - k,
    ⟨0, [], Nat.zero_le _, rfl, rfl, rfl, rfl, rfl, ⟨⟨rfl, rfl⟩, rfl⟩, ⟨rfl, rfl, rfl, fun j hj => absurd hj (Nat.not_lt_zero j)⟩⟩, ?_⟩
  intro k hk
  have hk : k ≤ C.length := hk
  have hll := hdTo_len C (fun a => folB C P G grp a r) k
  refine .inl ⟨fun hc => ?_, fun hc => ?_⟩
  · have hc := dlt hc
    have hc : (k : Int) < C.length := hc
    have ek : (k : Int).toNat = k := Int.toNat_natCast k
    have gk : C.getD (k : Int).toNat dCm = C.getD k dCm := by rw [ek]
    have hst : hdTo C (fun a => folB C P G grp a r) (k + 1) = if (!hasN (hdTo C (fun a => folB C P G grp a r) k) (C.getD k dCm).acc && folB C P G grp (C.getD k dCm).acc r) = true then hdTo C (fun a => folB C P G grp a r) k ++ [(C.getD k dCm).acc] else hdTo C (fun a => folB C P G grp a r) k := rfl
    repeat refine Or.inl ?_
    refine ⟨⟨by omega, by omega⟩, ?_⟩
    repeat refine Or.inl ?_
    refine ⟨[], _, contains_fn (hdTo C (fun a => folB C P G grp a r) k) (by omega) (C.getD (k : Int).toNat dCm).acc, ?_⟩
    repeat refine Or.inl ?_
    refine ⟨[], .b (folB C P G grp (C.getD (k : Int).toNat dCm).acc r), fun _ => holds1_fn C P G hC (by omega) grp r y hy _, ?_⟩
    repeat refine Or.inl ?_
    refine ⟨fun h => ?_, fun h => ?_⟩
    · have h : (!hasN (hdTo C (fun a => folB C P G grp a r) k) (C.getD (k : Int).toNat dCm).acc && folB C P G grp (C.getD (k : Int).toNat dCm).acc r) = true := h
      rw [gk] at h
      rw [if_pos h] at hst
      refine ⟨fits (by omega), ?_⟩
      refine ⟨k + 1, [(0, 3)], by dsimp only; omega, by dsimp only; omega, rfl, rfl, rfl, rfl, rfl, ⟨⟨rfl, wr (by omega) (by omega)⟩, rfl⟩, snocZ_row _ (C.getD (k : Int).toNat dCm).acc (by rw [gk]; exact hst)⟩
    · have h : (!hasN (hdTo C (fun a => folB C P G grp a r) k) (C.getD (k : Int).toNat dCm).acc && folB C P G grp (C.getD (k : Int).toNat dCm).acc r) = false := h
      rw [gk] at h
      rw [if_neg (by rw [h]; decide)] at hst
      refine ⟨k + 1, [], by dsimp only; omega, by dsimp only; omega, rfl, rfl, rfl, rfl, rfl, ⟨⟨rfl, wr (by omega) (by omega)⟩, rfl⟩, same_row hst⟩
  · have hc := dnlt hc
    have hc : (C.length : Int) ≤ k := hc
    obtain rfl : k = C.length := by omega
    refine .inr (.inr ⟨false, [0], rfl, Unit, _, _, _, _, sortRow_ctr sortsRow (kt := 3) (hdTo C (fun a => folB C P G grp a r) C.length) (rowsI (hdTo C (fun a => folB C P G grp a r) C.length)) (fun _ _ => rfl) (by omega), fun _ _ => ?_⟩)
    have hn : (holdL C P G grp r).length = (hdTo C (fun a => folB C P G grp a r) C.length).length := sortI_length _
    exact ⟨⟨[(0, 0)], ⟨⟨⟨rfl, rfl, AVEq.refl _⟩, trivial⟩, ⟨⟨rfl, rfl, trivial, ⟨rfl, rfl, hn.symm, fun _ _ => rfl⟩⟩, trivial⟩, rfl⟩, rfl, fun _ _ => rfl⟩⟩

set_option maxRecDepth 20000 in
theorem Holders_no (C : List Cm) (P : List Pf) (G : List Gt) (hC : C.length ≤ 1000) (hP : P.length < 2 ^ 62) (hG : G.length < 2 ^ 62) (grp r : Int) (he : poseE C P G r ≠ 0) :
    Ctr Try.prog 64 [.rs 2 C.length (rowsM C), .rs 3 P.length (rowsP P), .rs 3 G.length (rowsG G), .i .i64 grp, .i .i64 r] [] (.tup [nilL, .i .i64 (poseE C P G r)]) := by
  refine fn_of_exec tabOk Try.func64 (by kernel_rfl) rfl (N := Try.f64.ntmps) rfl (res := [.tmp 10, .tmp 11]) rfl rfl [] ?_
  repeat refine Or.inl ?_
  refine ⟨[], _, pose_no C P G (by omega) hP hG grp r he, ?_⟩
  repeat refine Or.inl ?_
  refine ⟨fun _ => ?_, fun h => ?_⟩
  · exact ⟨⟨[], ⟨⟨⟨rfl, rfl, AVEq.refl _⟩, trivial⟩, trivial, rfl⟩, rfl, trivial⟩⟩
  · have h : (poseE C P G r != 0) = false := h
    rw [bne_eq_false_iff_eq] at h
    exact absurd h he

/-! ### one list without the other's numbers -/
set_option maxRecDepth 20000 in
theorem differ_some (a b : List Int) (ha : a.length ≤ 1000000) (hb : b.length < 2 ^ 62) (hx : ∃ x ∈ a, hasN b x = true) :
    CtrM Try.prog 112 false [.row 3 1 a.length (rowsI a)] [.so 0, .rs 1 b.length (rowsI b)] (fun _ : Unit => True) (fun _ => [.dead]) (fun _ => [.row 3 1 (minusL a b).length (rowsI (minusL a b))]) (fun _ => .so 1) := by
  refine fn_of_execM tabOk Try.func112 (by kernel_rfl) rfl (N := Try.f112.ntmps) rfl (res := [.tmp 4]) rfl false false [.row 3 1 a.length (rowsI a)] _ _ _ _ rfl (fun h => by cases h) [] ?_
  refine .inr (.inr ⟨false, [0], rfl, Unit, _, _, _, _, delF_some a ha 127 _ (hasN b) (fun x _ => differ1_fn b hb x) hx, fun _ _ => ?_⟩)
  exact ⟨⟨(), [(1, 2)], trivial, ⟨⟨⟨rfl, rfl, rfl⟩, trivial⟩, ⟨⟨rfl, rfl, trivial, trivial⟩, ⟨rfl, rfl, trivial, ⟨rfl, rfl, rfl, fun _ _ => rfl⟩⟩, trivial⟩, rfl⟩, rfl, fun _ => ⟨rfl, trivial, fun _ _ => rfl⟩⟩⟩
set_option maxRecDepth 20000 in
theorem differ_none (a b : List Int) (ha : a.length ≤ 1000000) (hb : b.length < 2 ^ 62) (hx : ∀ x ∈ a, hasN b x = false) :
    CtrM Try.prog 112 false [.row 3 1 a.length (rowsI a)] [.so 0, .rs 1 b.length (rowsI b)] (fun _ : Unit => True) (fun _ => [.row 3 1 a.length (rowsI a)]) (fun _ => []) (fun _ => .so 0) := by
  refine fn_of_execM tabOk Try.func112 (by kernel_rfl) rfl (N := Try.f112.ntmps) rfl (res := [.tmp 4]) rfl false false [.row 3 1 a.length (rowsI a)] _ _ _ _ rfl (fun h => by cases h) [] ?_
  refine .inr (.inr ⟨false, [0], rfl, Unit, _, _, _, _, delF_none a ha 127 _ (hasN b) (fun x _ => differ1_fn b hb x) hx, fun _ _ => ?_⟩)
  exact ⟨⟨(), [], trivial, ⟨⟨⟨rfl, rfl, rfl⟩, trivial⟩, ⟨⟨rfl, rfl, trivial, ⟨rfl, rfl, rfl, fun _ _ => rfl⟩⟩, trivial⟩, rfl⟩, rfl, fun _ => ⟨rfl, fun _ _ => rfl⟩⟩⟩
theorem minus_none {a b : List Int} (hx : ∀ x ∈ a, hasN b x = false) : minusL a b = a := by
  unfold minusL keepF
  rw [List.filter_eq_self]
  intro x h
  rw [hx x h]
  rfl
theorem minusL_len (a b : List Int) : (minusL a b).length ≤ a.length := keepF_len _ _
theorem minus_cases (a b : List Int) : (∃ x ∈ a, hasN b x = true) ∨ ∀ x ∈ a, hasN b x = false := by
  by_cases h : ∃ x ∈ a, hasN b x = true
  · exact .inl h
  · refine .inr fun x hx => ?_
    cases hb : hasN b x with
    | false => rfl
    | true => exact absurd ⟨x, hx, hb⟩ h

/-! ### with a proof more, and with one less -/
theorem snocP_rs (P : List Pf) (p : Pf) : AVEq (.rs 3 (P ++ [p]).length (rowsP (P ++ [p]))) (.rs 3 (P.length + 1) (catG P.length (rowsP P) (rowOf 3 p.av))) :=
  ⟨rfl, by rw [List.length_append]; rfl, fun k hk => catP2 P p k hk⟩
set_option maxRecDepth 20000 in
set_option maxHeartbeats 4000000 in
theorem Gained_yes (C : List Cm) (P : List Pf) (G : List Gt) (p : Pf) (hC : C.length ≤ 1000) (hP : P.length ≤ 1000) (hG : G.length < 2 ^ 62) (grp r : Int) (he : poseE C P G r = 0) (he2 : poseE C (P ++ [p]) G r = 0) :
    Ctr Try.prog 66 [.rs 2 C.length (rowsM C), .rs 3 P.length (rowsP P), .rs 3 G.length (rowsG G), .i .i64 grp, .i .i64 r, .ag p.av] [.row 3 1 (minusL (holdL C (P ++ [p]) G grp r) (holdL C P G grp r)).length (rowsI (minusL (holdL C (P ++ [p]) G grp r) (holdL C P G grp r)))] (.tup [.so 0, .i .i64 0]) := by
  refine fn_of_exec tabOk Try.func66 (by kernel_rfl) rfl (N := Try.f66.ntmps) rfl (res := [.tmp 12, .tmp 13]) rfl rfl [] ?_
  have hl1 := holdL_len C P G grp r
  have hl2 := holdL_len C (P ++ [p]) G grp r
  have hpl : (P ++ [p]).length = P.length + 1 := by rw [List.length_append]; rfl
  repeat refine Or.inl ?_
  refine ⟨_, _, Holders_yes C P G hC (by omega) hG grp r he, ?_⟩
  repeat refine Or.inl ?_
  refine ⟨fun h => (by cases h), fun _ => ?_⟩
  repeat refine Or.inl ?_
  refine ⟨_, _, cloneP_fn P (by omega), ?_⟩
  repeat refine Or.inl ?_
  refine ⟨fits (by omega), ?_⟩
  repeat refine Or.inl ?_
  refine ⟨_, _, Ctr.of_eq (args := [.rs 2 C.length (rowsM C), .rs 3 (P ++ [p]).length (rowsP (P ++ [p])), .rs 3 G.length (rowsG G), .i .i64 grp, .i .i64 r]) ⟨AVEq.refl _, snocP_rs P p, AVEq.refl _, AVEq.refl _, AVEq.refl _⟩ (Holders_yes C (P ++ [p]) G hC (by omega) hG grp r he2), ?_⟩
  repeat refine Or.inl ?_
  refine ⟨fun h => (by cases h), fun _ => ?_⟩
  rcases minus_cases (holdL C (P ++ [p]) G grp r) (holdL C P G grp r) with hx | hx
  · refine .inr (.inr ⟨false, [5], rfl, Unit, _, _, _, _, differ_some _ _ (by omega) (by omega) hx, fun _ _ => ?_⟩)
    exact ⟨⟨[(0, 6)], ⟨⟨⟨rfl, rfl, AVEq.refl _⟩, trivial⟩, ⟨⟨rfl, rfl, trivial, ⟨rfl, rfl, rfl, fun _ _ => rfl⟩⟩, trivial⟩, rfl⟩, rfl, fun _ _ => rfl⟩⟩
  · rw [minus_none hx]
    refine .inr (.inr ⟨false, [5], rfl, Unit, _, _, _, _, differ_none _ _ (by omega) (by omega) hx, fun _ _ => ?_⟩)
    exact ⟨⟨[(0, 5)], ⟨⟨⟨rfl, rfl, AVEq.refl _⟩, trivial⟩, ⟨⟨rfl, rfl, trivial, ⟨rfl, rfl, rfl, fun _ _ => rfl⟩⟩, trivial⟩, rfl⟩, rfl, fun _ _ => rfl⟩⟩
set_option maxRecDepth 20000 in
set_option maxHeartbeats 4000000 in
theorem Gained_e1 (C : List Cm) (P : List Pf) (G : List Gt) (p : Pf) (hC : C.length ≤ 1000) (hP : P.length ≤ 1000) (hG : G.length < 2 ^ 62) (grp r : Int) (he : poseE C P G r ≠ 0) :
    Ctr Try.prog 66 [.rs 2 C.length (rowsM C), .rs 3 P.length (rowsP P), .rs 3 G.length (rowsG G), .i .i64 grp, .i .i64 r, .ag p.av] [] (.tup [nilL, .i .i64 (poseE C P G r)]) := by
  refine fn_of_exec tabOk Try.func66 (by kernel_rfl) rfl (N := Try.f66.ntmps) rfl (res := [.tmp 12, .tmp 13]) rfl rfl [] ?_
  repeat refine Or.inl ?_
  refine ⟨[], _, Holders_no C P G hC (by omega) hG grp r he, ?_⟩
  repeat refine Or.inl ?_
  refine ⟨fun _ => ?_, fun h => ?_⟩
  · exact ⟨⟨[], ⟨⟨⟨rfl, rfl, AVEq.refl _⟩, trivial⟩, trivial, rfl⟩, rfl, trivial⟩⟩
  · have h : (poseE C P G r != 0) = false := h
    rw [bne_eq_false_iff_eq] at h
    exact absurd h he
set_option maxRecDepth 20000 in
set_option maxHeartbeats 4000000 in
theorem Gained_e2 (C : List Cm) (P : List Pf) (G : List Gt) (p : Pf) (hC : C.length ≤ 1000) (hP : P.length ≤ 1000) (hG : G.length < 2 ^ 62) (grp r : Int) (he : poseE C P G r = 0) (he2 : poseE C (P ++ [p]) G r ≠ 0) :
    Ctr Try.prog 66 [.rs 2 C.length (rowsM C), .rs 3 P.length (rowsP P), .rs 3 G.length (rowsG G), .i .i64 grp, .i .i64 r, .ag p.av] [] (.tup [nilL, .i .i64 (poseE C (P ++ [p]) G r)]) := by
  refine fn_of_exec tabOk Try.func66 (by kernel_rfl) rfl (N := Try.f66.ntmps) rfl (res := [.tmp 12, .tmp 13]) rfl rfl [] ?_
  have hpl : (P ++ [p]).length = P.length + 1 := by rw [List.length_append]; rfl
  repeat refine Or.inl ?_
  refine ⟨_, _, Holders_yes C P G hC (by omega) hG grp r he, ?_⟩
  repeat refine Or.inl ?_
  refine ⟨fun h => (by cases h), fun _ => ?_⟩
  repeat refine Or.inl ?_
  refine ⟨_, _, cloneP_fn P (by omega), ?_⟩
  repeat refine Or.inl ?_
  refine ⟨fits (by omega), ?_⟩
  repeat refine Or.inl ?_
  refine ⟨_, _, Ctr.of_eq (args := [.rs 2 C.length (rowsM C), .rs 3 (P ++ [p]).length (rowsP (P ++ [p])), .rs 3 G.length (rowsG G), .i .i64 grp, .i .i64 r]) ⟨AVEq.refl _, snocP_rs P p, AVEq.refl _, AVEq.refl _, AVEq.refl _⟩ (Holders_no C (P ++ [p]) G hC (by omega) hG grp r he2), ?_⟩
  repeat refine Or.inl ?_
  refine ⟨fun _ => ?_, fun h => ?_⟩
  · exact ⟨⟨[], ⟨⟨⟨rfl, rfl, AVEq.refl _⟩, trivial⟩, trivial, rfl⟩, rfl, trivial⟩⟩
  · have h : (poseE C (P ++ [p]) G r != 0) = false := h
    rw [bne_eq_false_iff_eq] at h
    exact absurd h he2
set_option maxRecDepth 20000 in
set_option maxHeartbeats 4000000 in
theorem Lost_out (C : List Cm) (P : List Pf) (G : List Gt) (i : Int) (hi : i < 0 ∨ (P.length : Int) ≤ i) (grp r : Int) :
    Ctr Try.prog 68 [.rs 2 C.length (rowsM C), .rs 3 P.length (rowsP P), .rs 3 G.length (rowsG G), .i .i64 grp, .i .i64 r, .i .i64 i] [] (.tup [nilL, .i .i64 4]) := by
  refine fn_of_exec tabOk Try.func68 (by kernel_rfl) rfl (N := Try.f68.ntmps) rfl (res := [.tmp 12, .tmp 13]) rfl rfl [] ?_
  repeat refine Or.inl ?_
  refine ⟨fun _ => ?_, fun h => ?_⟩
  · exact ⟨⟨[], ⟨⟨⟨rfl, rfl, AVEq.refl _⟩, trivial⟩, trivial, rfl⟩, rfl, trivial⟩⟩
  · have h : (decide (i < 0) || decide (i ≥ (P.length : Int))) = false := h
    rw [Bool.or_eq_false_iff, decide_eq_false_iff_not, decide_eq_false_iff_not] at h
    omega
set_option maxRecDepth 20000 in
set_option maxHeartbeats 4000000 in
theorem Lost_e1 (C : List Cm) (P : List Pf) (G : List Gt) (i : Nat) (hC : C.length ≤ 1000) (hP : P.length ≤ 1000) (hG : G.length < 2 ^ 62) (grp r : Int) (hi : i < P.length) (he : poseE C P G r ≠ 0) :
    Ctr Try.prog 68 [.rs 2 C.length (rowsM C), .rs 3 P.length (rowsP P), .rs 3 G.length (rowsG G), .i .i64 grp, .i .i64 r, .i .i64 i] [] (.tup [nilL, .i .i64 (poseE C P G r)]) := by
  refine fn_of_exec tabOk Try.func68 (by kernel_rfl) rfl (N := Try.f68.ntmps) rfl (res := [.tmp 12, .tmp 13]) rfl rfl [] ?_
  repeat refine Or.inl ?_
  refine ⟨fun h => ?_, fun _ => ?_⟩
  · have h : (decide ((i : Int) < 0) || decide ((i : Int) ≥ (P.length : Int))) = true := h
    rw [Bool.or_eq_true, decide_eq_true_eq, decide_eq_true_eq] at h
    omega
  repeat refine Or.inl ?_
  refine ⟨[], _, Holders_no C P G hC (by omega) hG grp r he, ?_⟩
  repeat refine Or.inl ?_
  refine ⟨fun _ => ?_, fun h => ?_⟩
  · exact ⟨⟨[], ⟨⟨⟨rfl, rfl, AVEq.refl _⟩, trivial⟩, trivial, rfl⟩, rfl, trivial⟩⟩
  · have h : (poseE C P G r != 0) = false := h
    rw [bne_eq_false_iff_eq] at h
    exact absurd h he
set_option maxRecDepth 20000 in
set_option maxHeartbeats 4000000 in
theorem Lost_e2 (C : List Cm) (P : List Pf) (G : List Gt) (i : Nat) (hC : C.length ≤ 1000) (hP : P.length ≤ 1000) (hG : G.length < 2 ^ 62) (grp r : Int) (hi : i < P.length) (he : poseE C P G r = 0) (he2 : poseE C (P.eraseIdx i) G r ≠ 0) :
    Ctr Try.prog 68 [.rs 2 C.length (rowsM C), .rs 3 P.length (rowsP P), .rs 3 G.length (rowsG G), .i .i64 grp, .i .i64 r, .i .i64 i] [] (.tup [nilL, .i .i64 (poseE C (P.eraseIdx i) G r)]) := by
  refine fn_of_exec tabOk Try.func68 (by kernel_rfl) rfl (N := Try.f68.ntmps) rfl (res := [.tmp 12, .tmp 13]) rfl rfl [] ?_
  repeat refine Or.inl ?_
  refine ⟨fun h => ?_, fun _ => ?_⟩
  · have h : (decide ((i : Int) < 0) || decide ((i : Int) ≥ (P.length : Int))) = true := h
    rw [Bool.or_eq_true, decide_eq_true_eq, decide_eq_true_eq] at h
    omega
  have hel : (P.eraseIdx i).length = P.length - 1 := by rw [List.length_eraseIdx, if_pos hi]
  repeat refine Or.inl ?_
  refine ⟨_, _, Holders_yes C P G hC (by omega) hG grp r he, ?_⟩
  repeat refine Or.inl ?_
  refine ⟨fun h => (by cases h), fun _ => ?_⟩
  repeat refine Or.inl ?_
  refine ⟨_, _, cloneP_fn P (by omega), ?_⟩
  refine .inr (.inr ⟨false, [1], rfl, Unit, _, _, _, _, deleteP_fn P (by omega) i hi _ (wr (by omega) (by omega)), fun _ _ => ?_⟩)
  repeat refine Or.inl ?_
  refine ⟨_, _, Holders_no C (P.eraseIdx i) G hC (by omega) hG grp r he2, ?_⟩
  repeat refine Or.inl ?_
  refine ⟨fun _ => ?_, fun h => ?_⟩
  · exact ⟨⟨[], ⟨⟨⟨rfl, rfl, AVEq.refl _⟩, trivial⟩, trivial, rfl⟩, rfl, trivial⟩⟩
  · have h : (poseE C (P.eraseIdx i) G r != 0) = false := h
    rw [bne_eq_false_iff_eq] at h
    exact absurd h he2
set_option maxRecDepth 20000 in
set_option maxHeartbeats 4000000 in
theorem Lost_yes (C : List Cm) (P : List Pf) (G : List Gt) (i : Nat) (hC : C.length ≤ 1000) (hP : P.length ≤ 1000) (hG : G.length < 2 ^ 62) (grp r : Int) (hi : i < P.length) (he : poseE C P G r = 0) (he2 : poseE C (P.eraseIdx i) G r = 0) :
    Ctr Try.prog 68 [.rs 2 C.length (rowsM C), .rs 3 P.length (rowsP P), .rs 3 G.length (rowsG G), .i .i64 grp, .i .i64 r, .i .i64 i] [.row 3 1 (minusL (holdL C P G grp r) (holdL C (P.eraseIdx i) G grp r)).length (rowsI (minusL (holdL C P G grp r) (holdL C (P.eraseIdx i) G grp r)))] (.tup [.so 0, .i .i64 0]) := by
  refine fn_of_exec tabOk Try.func68 (by kernel_rfl) rfl (N := Try.f68.ntmps) rfl (res := [.tmp 12, .tmp 13]) rfl rfl [] ?_
  repeat refine Or.inl ?_
  refine ⟨fun h => ?_, fun _ => ?_⟩
  · have h : (decide ((i : Int) < 0) || decide ((i : Int) ≥ (P.length : Int))) = true := h
    rw [Bool.or_eq_true, decide_eq_true_eq, decide_eq_true_eq] at h
    omega
  have hl1 := holdL_len C P G grp r
  have hl2 := holdL_len C (P.eraseIdx i) G grp r
  have hel : (P.eraseIdx i).length = P.length - 1 := by rw [List.length_eraseIdx, if_pos hi]
  repeat refine Or.inl ?_
  refine ⟨_, _, Holders_yes C P G hC (by omega) hG grp r he, ?_⟩
  repeat refine Or.inl ?_
  refine ⟨fun h => (by cases h), fun _ => ?_⟩
  repeat refine Or.inl ?_
  refine ⟨_, _, cloneP_fn P (by omega), ?_⟩
  refine .inr (.inr ⟨false, [1], rfl, Unit, _, _, _, _, deleteP_fn P (by omega) i hi _ (wr (by omega) (by omega)), fun _ _ => ?_⟩)
  repeat refine Or.inl ?_
  refine ⟨_, _, Holders_yes C (P.eraseIdx i) G hC (by omega) hG grp r he2, ?_⟩
  repeat refine Or.inl ?_
  refine ⟨fun h => (by cases h), fun _ => ?_⟩
  rcases minus_cases (holdL C P G grp r) (holdL C (P.eraseIdx i) G grp r) with hx | hx
  · refine .inr (.inr ⟨false, [0], rfl, Unit, _, _, _, _, differ_some _ _ (by omega) (by omega) hx, fun _ _ => ?_⟩)
    exact ⟨⟨[(0, 4)], ⟨⟨⟨rfl, rfl, AVEq.refl _⟩, trivial⟩, ⟨⟨rfl, rfl, trivial, ⟨rfl, rfl, rfl, fun _ _ => rfl⟩⟩, trivial⟩, rfl⟩, rfl, fun _ _ => rfl⟩⟩
  · rw [minus_none hx]
    refine .inr (.inr ⟨false, [0], rfl, Unit, _, _, _, _, differ_none _ _ (by omega) (by omega) hx, fun _ _ => ?_⟩)
    exact ⟨⟨[(0, 0)], ⟨⟨⟨rfl, rfl, AVEq.refl _⟩, trivial⟩, ⟨⟨rfl, rfl, trivial, ⟨rfl, rfl, rfl, fun _ _ => rfl⟩⟩, trivial⟩, rfl⟩, rfl, fun _ _ => rfl⟩⟩
end Go.Proofs.Ytilhaifmfiobhaa
end

section
/-
  Rights: a world in which an account does not use a right.
-/
namespace Go.Proofs.Ytilhaifmfiobhaa
open Go.Eng

theorem good_noX {l : List Cl} {n : Nat} {lits : List Int} {vals : List Bool} : Good l n (lits.map opp) vals ↔ Good l n [] vals ∧ ∀ x ∈ lits, tv vals x = false := by
  constructor
  · rintro ⟨h1, h2, h3⟩
    refine ⟨⟨h1, h2, fun x hx => by cases hx⟩, fun x hx => ?_⟩
    have := h3 (opp x) (List.mem_map.2 ⟨x, hx, rfl⟩)
    rw [tv_opp] at this
    simpa using this
  · rintro ⟨⟨h1, h2, _⟩, h3⟩
    refine ⟨h1, h2, fun z hz => ?_⟩
    obtain ⟨x, hx, rfl⟩ := List.mem_map.1 hz
    rw [tv_opp, h3 x hx]
    rfl
/-- What is given says just what was decided. -/
structure FG (L : List Cl) (n : Nat) (lits : List Int) (vs : List Bool) (given : List Int) (i : Nat) : Prop where
  ok : ∀ x ∈ given, 0 ≤ x ∧ x < 2 * (n : Int)
  eq : ∀ vals, Good L n [] vals → ((∀ x ∈ given, tv vals x = false) ↔ (∀ x ∈ lits, tv vals x = false) ∧ ∀ j, j < i → vals.getD j false = vs.getD j false)
section
variable {L : List Cl} {n : Nat} {lits : List Int} {vs : List Bool} {given : List Int} {i : Nat}
theorem FG.init (h : ∀ x, x ∈ given ↔ x ∈ lits) (hl : ∀ x ∈ lits, 0 ≤ x ∧ x < 2 * (n : Int)) : FG L n lits vs given 0 :=
  ⟨fun x hx => hl x ((h x).1 hx), fun _ _ => ⟨fun hg => ⟨fun x hx => hg x ((h x).2 hx), fun j hj => absurd hj (Nat.not_lt_zero j)⟩, fun hg x hx => hg.1 x ((h x).1 hx)⟩⟩
theorem FG.skip (h : FG L n lits vs given i) (hf : IsFirst L n (lits.map opp) vs) (hm : 2 * (i : Int) ∈ lits) : vs.getD i false = false ∧ FG L n lits vs given (i + 1) := by
  have hv : vs.getD i false = false := by
    have := (good_noX.1 hf.good).2 _ hm
    rwa [tv_even] at this
  refine ⟨hv, h.ok, fun vals g => ?_⟩
  rw [h.eq vals g]
  constructor
  · rintro ⟨h1, h2⟩
    refine ⟨h1, fun j hj => ?_⟩
    by_cases hji : j < i
    · exact h2 j hji
    · obtain rfl : j = i := by omega
      have := h1 _ hm
      rw [tv_even] at this
      rw [this, hv]
  · rintro ⟨h1, h2⟩
    exact ⟨h1, fun j hj => h2 j (by omega)⟩
theorem FG.snoc (h : FG L n lits vs given i) {x : Int} (hx : 0 ≤ x ∧ x < 2 * (n : Int)) (ht : ∀ vals, tv vals x = false ↔ vals.getD i false = vs.getD i false) : FG L n lits vs (given ++ [x]) (i + 1) := by
  refine ⟨fun y hy => ?_, fun vals g => ?_⟩
  · rcases List.mem_append.1 hy with hy | hy
    · exact h.ok y hy
    · rw [List.mem_singleton.1 hy]; exact hx
  · constructor
    · intro hg
      obtain ⟨h1, h2⟩ := (h.eq vals g).1 fun y hy => hg y (List.mem_append_left _ hy)
      refine ⟨h1, fun j hj => ?_⟩
      by_cases hji : j < i
      · exact h2 j hji
      · obtain rfl : j = i := by omega
        exact (ht vals).1 (hg x (by simp))
    · rintro ⟨h1, h2⟩ y hy
      rcases List.mem_append.1 hy with hy | hy
      · exact (h.eq vals g).2 ⟨h1, fun j hj => h2 j (by omega)⟩ y hy
      · rw [List.mem_singleton.1 hy]
        exact (ht vals).2 (h2 i (by omega))
theorem FG.yes (h : FG L n lits vs given i) (hf : IsFirst L n (lits.map opp) vs) (hi : i < n) (hF : followsB L n (given ++ [2 * (i : Int)]) = true) : vs.getD i false = true ∧ FG L n lits vs (given ++ [2 * (i : Int) + 1]) (i + 1) := by
  have hv : vs.getD i false = true := by
    cases hv : vs.getD i false with
    | true => rfl
    | false =>
      have g := good_noX.1 hf.good
      have g1 : Good L n [] vs := g.1
      obtain ⟨x, hx, ht⟩ := (followsB_iff.1 hF).2.2 vs (by rw [Int.toNat_natCast]; exact g1)
      rcases List.mem_append.1 hx with hx | hx
      · have := (h.eq vs g1).2 ⟨g.2, fun _ _ => rfl⟩ x hx
        rw [ht] at this
        cases this
      · rw [List.mem_singleton.1 hx, tv_even, hv] at ht
        cases ht
  refine ⟨hv, h.snoc (by omega) fun _ => ?_⟩
  rw [tv_odd, hv]
  simp
theorem FG.no (h : FG L n lits vs given i) (hR : RightP L n) (hf : IsFirst L n (lits.map opp) vs) (hi : i < n) (hF : followsB L n (given ++ [2 * (i : Int)]) = false) : vs.getD i false = false ∧ FG L n lits vs (given ++ [2 * (i : Int)]) (i + 1) := by
  have hv : vs.getD i false = false := by
    cases hv : vs.getD i false with
    | false => rfl
    | true =>
      have : followsB L n (given ++ [2 * (i : Int)]) = true := by
        refine followsB_iff.2 ⟨hR, fun x hx => ?_, fun vals g => Classical.byContradiction fun hn => ?_⟩
        · rcases List.mem_append.1 hx with hx | hx
          · exact h.ok x hx
          · rw [List.mem_singleton.1 hx]; omega
        · rw [Int.toNat_natCast] at g
          have hall : ∀ x ∈ given ++ [2 * (i : Int)], tv vals x = false := fun x hx => by
            cases ht : tv vals x with
            | false => rfl
            | true => exact absurd ⟨x, hx, ht⟩ hn
          obtain ⟨h1, h2⟩ := (h.eq vals g).1 fun y hy => hall y (List.mem_append_left _ hy)
          have h3 := hf.least i hi hv vals (good_noX.2 ⟨g, h1⟩) h2
          have h4 := hall (2 * (i : Int)) (by simp)
          rw [tv_even, h3] at h4
          cases h4
      rw [hF] at this
      cases this
  refine ⟨hv, h.snoc (by omega) fun vals => ?_⟩
  rw [tv_even, hv]
end

/-! ### the numbers of a set, from the least on -/
def ginTo (S : List Int) (k : Nat) : List Int := ((List.range k).map fun l : Nat => (l : Int)).filter fun x => decide (x ∈ S)
theorem ginTo_succ (S : List Int) (k : Nat) : ginTo S (k + 1) = if (k : Int) ∈ S then ginTo S k ++ [(k : Int)] else ginTo S k := by
  unfold ginTo
  rw [List.range_succ, List.map_append, List.filter_append]
  by_cases h : (k : Int) ∈ S
  · rw [if_pos h]; simp [h]
  · rw [if_neg h]; simp [h]
theorem ginTo_len (S : List Int) (k : Nat) : (ginTo S k).length ≤ k := by
  unfold ginTo
  refine Nat.le_trans (List.length_filter_le _ _) ?_
  simp
theorem mem_ginTo {S : List Int} {k : Nat} {x : Int} : x ∈ ginTo S k ↔ (0 ≤ x ∧ x < k) ∧ x ∈ S := by
  unfold ginTo
  rw [List.mem_filter, List.mem_map, decide_eq_true_eq]
  constructor
  · rintro ⟨⟨l, hl, rfl⟩, h⟩
    have := List.mem_range.1 hl
    exact ⟨by omega, h⟩
  · rintro ⟨h1, h⟩
    exact ⟨⟨x.toNat, List.mem_range.2 (by omega), by omega⟩, h⟩

theorem upTo_no {vs : List Bool} {i : Nat} (hv : vs.getD i false = false) (q : Nat) : (decide (q < i) && vs.getD q false) = (decide (q < i + 1) && vs.getD q false) := by
  by_cases h : q = i
  · rw [h, hv, Bool.and_false, Bool.and_false]
  · have : decide (q < i + 1) = decide (q < i) := by rw [Bool.eq_iff_iff, decide_eq_true_eq, decide_eq_true_eq]; omega
    rw [this]
theorem upTo_yes {vs : List Bool} {i : Nat} (hv : vs.getD i false = true) (q : Nat) : (if q = (i : Int).toNat then Go.Eng.over 0 [AV.b true] [AV.b (decide (q < i) && vs.getD q false)] else [AV.b (decide (q < i) && vs.getD q false)]) = [AV.b (decide (q < i + 1) && vs.getD q false)] := by
  rw [Int.toNat_natCast]
  by_cases h : q = i
  · rw [if_pos h, h, hv, decide_eq_true (show i < i + 1 by omega)]
    rfl
  · rw [if_neg h]
    have : decide (q < i + 1) = decide (q < i) := by rw [Bool.eq_iff_iff, decide_eq_true_eq, decide_eq_true_eq]; omega
    rw [this]
theorem snocI_rs (o : List Int) (x : Int) {x' : Int} (hx : x' = x) : AVEq (.rs 1 (o ++ [x]).length (rowsI (o ++ [x]))) (.rs 1 (o.length + 1) (catG o.length (rowsI o) (rowOf 1 [.i .i64 x']))) := by
  subst hx
  refine ⟨rfl, by rw [List.length_append]; rfl, fun q hq => ?_⟩
  rw [List.length_append, List.length_singleton] at hq
  show _ = [AV.i .i64 ((o ++ [x']).getD q 0)]
  rw [getD_snocI]
  unfold catG
  by_cases h : q < o.length
  · rw [if_pos h, if_pos h]
    rfl
  · obtain rfl : q = o.length := by omega
    rw [if_neg h, if_neg h, if_pos rfl, Nat.sub_self]
    rfl

def setR (S : List Int) : AV := .rm S.length (fun i => .i .i64 (S.getD i 0)) (fun _ => .b true)
set_option maxRecDepth 20000 in
set_option maxHeartbeats 4000000 in
theorem firstG_fn (C : List Cm) (P : List Pf) (hC : C.length ≤ 200) (hok : okCP C P = true) (y : List (Int × Bool)) (lits S : List Int) (hS : ∀ x, x ∈ S ↔ x ∈ lits) (hl : ∀ x ∈ lits, 0 ≤ x ∧ x < 2 * (C.length : Int)) (vs : List Bool)
    (hf : IsFirst (clausesL C P) C.length (lits.map opp) vs) :
    Ctr Try.prog 107 [probA C P y, setR S] [.row 4 1 vs.length (rowsB vs)] (.tup [.so 0, .b true]) := by
  refine fn_of_exec tabOk Try.func107 (by kernel_rfl) rfl (N := Try.f107.ntmps) rfl (res := [.tmp 4, .tmp 5]) rfl rfl [] ?_
  have hlen := (okCP_iff.1 hok).2
  have hR : RightP (clausesL C P) C.length := clausesL_right (okCP_iff.1 hok).1 hlen
  have hg := good_noX.1 hf.good
  have hvl : vs.length = C.length := hg.1.len
  have w2 : IntKind.i64.wrap (2 * (C.length : Int)) = 2 * C.length := wr (by omega) (by omega)
  repeat refine Or.inl ?_
  refine ⟨⟨rfl, by omega, by rw [Int.toNat_natCast]; show 1 * C.length ≤ _; omega⟩, ?_⟩
  repeat refine Or.inl ?_
  refine ⟨[(8, 3, 1)], Nat, fun k => k ≤ 2 * C.length, fun k => [⟨20, [], .i .i64 k⟩, ⟨8, [], .so 1⟩], fun k => [⟨1, [], .row 3 1 (ginTo S k).length (rowsI (ginTo S k))⟩], fun k => 2 * C.length - k,
    ⟨0, [], Nat.zero_le _, rfl, rfl, rfl, rfl, rfl, ⟨⟨rfl, rfl⟩, rfl⟩, ⟨rfl, rfl, rfl, fun j hj => absurd hj (Nat.not_lt_zero j)⟩⟩, ?_⟩
  intro k hk
  have hk : k ≤ 2 * C.length := hk
  have hgl := ginTo_len S k
  refine .inl ⟨fun hc => ?_, fun hc => ?_⟩
  · have hc := dlt hc
    rw [w2] at hc
    have hst := ginTo_succ S k
    repeat refine Or.inl ?_
    refine ⟨_, _, ⟨fun _ _ => rfl, rfl, lookOk_set S k⟩, ?_⟩
    repeat refine Or.inl ?_
    refine ⟨fun h => ?_, fun h => ?_⟩
    · have h : decide ((k : Int) ∈ S) = true := h
      rw [if_pos (of_decide_eq_true h)] at hst
      refine ⟨fits (by omega), ?_⟩
      refine ⟨k + 1, [(1, 3)], by dsimp only; omega, by dsimp only; omega, rfl, rfl, rfl, rfl, rfl, ⟨⟨rfl, wr (by omega) (by omega)⟩, rfl⟩, snocZ_row _ (k : Int) hst⟩
    · have h : decide ((k : Int) ∈ S) = false := h
      rw [if_neg (of_decide_eq_false h)] at hst
      refine ⟨k + 1, [], by dsimp only; omega, by dsimp only; omega, rfl, rfl, rfl, rfl, rfl, ⟨⟨rfl, wr (by omega) (by omega)⟩, rfl⟩, same_row hst⟩
  · have hc := dnlt hc
    rw [w2] at hc
    obtain rfl : k = 2 * C.length := by omega
    repeat refine Or.inl ?_
    refine ⟨[], List Int × Nat, fun x => x.2 ≤ C.length ∧ x.1.length ≤ 2 * C.length + x.2 ∧ FG (clausesL C P) C.length lits vs x.1 x.2, fun x => [⟨32, [], .i .i64 x.2⟩, ⟨8, [], .so 1⟩],
      fun x => [⟨0, [], .row 4 1 C.length fun q => [.b (decide (q < x.2) && vs.getD q false)]⟩, ⟨1, [], .row 3 1 x.1.length (rowsI x.1)⟩], fun x => C.length - x.2,
      ⟨(ginTo S (2 * C.length), 0), [], ⟨Nat.zero_le _, by dsimp only; omega, FG.init (fun x => ?_) hl⟩, rfl, rfl, rfl, rfl, rfl, ⟨⟨rfl, rfl⟩, rfl⟩, ⟨⟨rfl, rfl, rfl, fun q hq => ?_⟩, ⟨rfl, rfl, rfl, fun _ _ => rfl⟩⟩⟩, ?_⟩
    · rw [mem_ginTo, hS]
      constructor
      · exact fun h => h.2
      · intro h
        have := hl x h
        exact ⟨by omega, h⟩
    · rfl
    rintro ⟨given, i⟩ ⟨hi, hgn, hF⟩
    dsimp only at hi hgn hF
    refine .inl ⟨fun hc => ?_, fun hc => ?_⟩
    · have hc := dlt hc
      have hc : (i : Int) < C.length := hc
      have w3 : IntKind.i64.wrap (2 * (i : Int)) = 2 * i := wr (by omega) (by omega)
      repeat refine Or.inl ?_
      refine ⟨_, _, ⟨fun _ _ => rfl, rfl, lookOk_set S _⟩, ?_⟩
      repeat refine Or.inl ?_
      refine ⟨fun h => ?_, fun h => ?_⟩
      · have h : decide (IntKind.i64.wrap (2 * (i : Int)) ∈ S) = true := h
        rw [w3, decide_eq_true_eq, hS] at h
        obtain ⟨hv, hF2⟩ := hF.skip hf h
        refine ⟨(given, i + 1), [], ⟨by dsimp only; omega, by dsimp only; omega, hF2⟩, by dsimp only; omega, rfl, rfl, rfl, rfl, rfl, ⟨⟨rfl, wr (by omega) (by omega)⟩, rfl⟩, ⟨⟨rfl, rfl, rfl, fun q _ => ?_⟩, ⟨rfl, rfl, rfl, fun _ _ => rfl⟩⟩⟩
        show [AV.b (decide (q < i) && vs.getD q false)] = [AV.b (decide (q < i + 1) && vs.getD q false)]
        rw [upTo_no hv]
      · repeat refine Or.inl ?_
        refine ⟨_, _, cloneI_fn given (by omega), ?_⟩
        repeat refine Or.inl ?_
        refine ⟨fits (by omega), ?_⟩
        repeat refine Or.inl ?_
        refine ⟨[], _, Ctr.of_eq (args := [.rs 2 (clausesL C P).length (rowsC (clausesL C P)), .i .i64 C.length, .rs 1 (given ++ [2 * (i : Int)]).length (rowsI (given ++ [2 * (i : Int)]))]) ⟨AVEq.refl _, AVEq.refl _, snocI_rs given _ w3⟩ (Follows_fn (clausesL C P) (by omega) C.length (given ++ [2 * (i : Int)]) (by rw [List.length_append, List.length_singleton]; omega)), ?_⟩
        repeat refine Or.inl ?_
        refine ⟨fun h2 => ?_, fun h2 => ?_⟩
        · have h2 : followsB (clausesL C P) C.length (given ++ [2 * (i : Int)]) = true := h2
          obtain ⟨hv, hF2⟩ := hF.yes hf (by omega) h2
          have w4 : IntKind.i64.wrap (IntKind.i64.wrap (2 * (i : Int)) + 1) = 2 * i + 1 := by rw [w3]; exact wr (by omega) (by omega)
          repeat refine Or.inl ?_
          refine ⟨⟨by dsimp only; omega, by dsimp only; omega⟩, by dsimp only; omega, ?_⟩
          refine ⟨fits (by dsimp only; omega), ?_⟩
          refine ⟨(given ++ [2 * (i : Int) + 1], i + 1), [(1, 6)], ⟨by dsimp only; omega, by dsimp only; rw [List.length_append, List.length_singleton]; omega, hF2⟩, by dsimp only; omega, rfl, rfl, rfl, rfl, rfl, ⟨⟨rfl, wr (by omega) (by omega)⟩, rfl⟩, ⟨⟨rfl, rfl, rfl, fun q _ => upTo_yes hv q⟩, snocZ_row _ _ (by rw [w4])⟩⟩
        · have h2 : followsB (clausesL C P) C.length (given ++ [2 * (i : Int)]) = false := h2
          obtain ⟨hv, hF2⟩ := hF.no hR hf (by omega) h2
          repeat refine Or.inl ?_
          refine ⟨fits (by dsimp only; omega), ?_⟩
          refine ⟨(given ++ [2 * (i : Int)], i + 1), [(1, 6)], ⟨by dsimp only; omega, by dsimp only; rw [List.length_append, List.length_singleton]; omega, hF2⟩, by dsimp only; omega, rfl, rfl, rfl, rfl, rfl, ⟨⟨rfl, wr (by omega) (by omega)⟩, rfl⟩, ⟨⟨rfl, rfl, rfl, fun q _ => ?_⟩, snocZ_row _ _ (by rw [w3])⟩⟩
          show [AV.b (decide (q < i) && vs.getD q false)] = [AV.b (decide (q < i + 1) && vs.getD q false)]
          rw [upTo_no hv]
    · have hc := dnlt hc
      have hc : (C.length : Int) ≤ i := hc
      obtain rfl : i = C.length := by omega
      have hchk : checkB (clausesL C P) C.length vs = true := checkB_iff.2 ⟨hR, by rw [Int.toNat_natCast]; exact hg.1⟩
      have hrow : ∀ q, q < C.length → [AV.b (decide (q < C.length) && vs.getD q false)] = rowsB vs q := fun q hq => by
        rw [decide_eq_true hq, Bool.true_and]
        rfl
      have hck := Check_fn (clausesL C P) (by omega) C.length vs (by omega)
      rw [hchk] at hck
      repeat refine Or.inl ?_
      refine ⟨[], _, Ctr.of_eq (args := [.rs 2 (clausesL C P).length (rowsC (clausesL C P)), .i .i64 C.length, .rs 1 vs.length (rowsB vs)]) ⟨AVEq.refl _, AVEq.refl _, ⟨rfl, hvl.symm, fun q hq => hrow q (by omega)⟩⟩ hck, ?_⟩
      exact RetIs.sob rfl hvl.symm (fun q hq => hrow q (by omega)) (fun _ _ => rfl) rfl
end Go.Proofs.Ytilhaifmfiobhaa
end

section
/-
  Rights: Counter.
-/
namespace Go.Proofs.Ytilhaifmfiobhaa
open Go.Eng

theorem fol_no {C : List Cm} {P : List Pf} {G : List Gt} {grp a r : Int} (hok : okCP C P = true) (h : folB C P G grp a r = false) : ∃ vs, IsFirst (clausesL C P) C.length ((litsG C G grp a r).map opp) vs := by
  rcases firstL_or (clausesL C P) C.length ((litsG C G grp a r).map opp) with ⟨vs, _, hf⟩ | ⟨_, hn⟩
  · exact ⟨vs, hf⟩
  · have hR : RightP (clausesL C P) C.length := clausesL_right (okCP_iff.1 hok).1 (okCP_iff.1 hok).2
    have : folB C P G grp a r = true := followsB_iff.2 ⟨hR, litsG_ok, fun vals g => Classical.byContradiction fun hx => hn ⟨vals, good_noX.2 ⟨by rw [Int.toNat_natCast] at g; exact g, fun x hxl => by
      cases ht : tv vals x with
      | false => rfl
      | true => exact absurd ⟨x, hxl, ht⟩ hx⟩⟩⟩
    rw [h] at this
    cases this
/-- The set of the literals. -/
def insTo (lits : List Int) (k : Nat) : List Int := (lits.take k).foldl ins []
theorem insTo_succ (lits : List Int) {k : Nat} (h : k < lits.length) : insTo lits (k + 1) = ins (insTo lits k) (lits.getD k 0) := by
  unfold insTo
  rw [List.take_succ_eq_append_getElem h, List.foldl_append]
  simp [List.getD, h]
theorem mem_insTo (lits : List Int) : ∀ k, k ≤ lits.length → ∀ x, x ∈ insTo lits k ↔ x ∈ lits.take k
  | 0, _, x => by simp [insTo]
  | k + 1, h, x => by
    rw [insTo_succ lits h, mem_ins, mem_insTo lits k (by omega), List.take_succ_eq_append_getElem h, List.mem_append, List.mem_singleton]
    simp [List.getD, show k < lits.length from h]
theorem mem_insAll (lits : List Int) (x : Int) : x ∈ insTo lits lits.length ↔ x ∈ lits := by
  rw [mem_insTo lits _ (Nat.le_refl _), List.take_length]

set_option maxRecDepth 20000 in
set_option maxHeartbeats 4000000 in
theorem Counter_e (C : List Cm) (P : List Pf) (G : List Gt) (hC : C.length ≤ 1000) (hP : P.length < 2 ^ 62) (hG : G.length < 2 ^ 62) (grp a r : Int) (he : poseE C P G r ≠ 0) :
    Ctr Try.prog 62 [.rs 2 C.length (rowsM C), .rs 3 P.length (rowsP P), .rs 3 G.length (rowsG G), .i .i64 grp, .i .i64 a, .i .i64 r] [] (.tup [nilL, .b false]) := by
  refine fn_of_exec tabOk Try.func62 (by kernel_rfl) rfl (N := Try.f62.ntmps) rfl (res := [.tmp 12, .tmp 13]) rfl rfl [] ?_
  have hb : (poseE C P G r != 0) = true := by rw [bne_iff_ne]; exact he
  repeat refine Or.inl ?_
  refine ⟨[], _, pose_no C P G (by omega) hP hG grp r he, ?_⟩
  repeat refine Or.inl ?_
  refine ⟨[], .b false, fun hg => ?_, ?_⟩
  · have h := hg.1
    exact absurd h (by rw [hb]; decide)
  repeat refine Or.inl ?_
  refine ⟨fun _ => ?_, fun h => ?_⟩
  · exact ⟨⟨[], ⟨⟨⟨rfl, rfl, AVEq.refl _⟩, trivial⟩, trivial, rfl⟩, rfl, trivial⟩⟩
  · have h : ((poseE C P G r != 0) || false) = false := h
    rw [hb] at h
    cases h

set_option maxRecDepth 20000 in
set_option maxHeartbeats 4000000 in
theorem Counter_h (C : List Cm) (P : List Pf) (G : List Gt) (hC : C.length ≤ 1000) (hP : P.length < 2 ^ 62) (hG : G.length < 2 ^ 62) (grp a r : Int) (he : poseE C P G r = 0) (hh : folB C P G grp a r = true) :
    Ctr Try.prog 62 [.rs 2 C.length (rowsM C), .rs 3 P.length (rowsP P), .rs 3 G.length (rowsG G), .i .i64 grp, .i .i64 a, .i .i64 r] [] (.tup [nilL, .b false]) := by
  refine fn_of_exec tabOk Try.func62 (by kernel_rfl) rfl (N := Try.f62.ntmps) rfl (res := [.tmp 12, .tmp 13]) rfl rfl [] ?_
  have hlen := (okCP_iff.1 (pose_ok he).2.1).2
  refine .inr (.inr ⟨true, [], rfl, _, _, _, _, _, pose_yes C P G (by omega) hP hG grp r he, fun y hy => ?_⟩)
  repeat refine Or.inl ?_
  refine ⟨[], .b (folB C P G grp a r), fun _ => holds1_fn C P G hC (by omega) grp r y hy a, ?_⟩
  repeat refine Or.inl ?_
  refine ⟨fun _ => ?_, fun h => ?_⟩
  · exact ⟨⟨[], ⟨⟨⟨rfl, rfl, AVEq.refl _⟩, trivial⟩, trivial, rfl⟩, rfl, trivial⟩⟩
  · have h : (((0 : Int) != 0) || folB C P G grp a r) = false := h
    rw [hh] at h
    cases h

set_option maxRecDepth 20000 in
set_option maxHeartbeats 4000000 in
theorem Counter_yes (C : List Cm) (P : List Pf) (G : List Gt) (hC : C.length ≤ 200) (hP : P.length < 2 ^ 62) (hG : G.length < 2 ^ 62) (grp a r : Int) (he : poseE C P G r = 0) (hh : folB C P G grp a r = false) (vs : List Bool)
    (hf : IsFirst (clausesL C P) C.length ((litsG C G grp a r).map opp) vs) :
    Ctr Try.prog 62 [.rs 2 C.length (rowsM C), .rs 3 P.length (rowsP P), .rs 3 G.length (rowsG G), .i .i64 grp, .i .i64 a, .i .i64 r] [.row 4 1 vs.length (rowsB vs)] (.tup [.so 0, .b true]) := by
  refine fn_of_exec tabOk Try.func62 (by kernel_rfl) rfl (N := Try.f62.ntmps) rfl (res := [.tmp 12, .tmp 13]) rfl rfl [] ?_
  have hok := (pose_ok he).2.1
  have hlen := (okCP_iff.1 hok).2
  have hll := litsG_len C G grp a r
  refine .inr (.inr ⟨true, [], rfl, _, _, _, _, _, pose_yes C P G (by omega) hP hG grp r he, fun y hy => ?_⟩)
  repeat refine Or.inl ?_
  refine ⟨[], .b (folB C P G grp a r), fun _ => holds1_fn C P G (by omega) (by omega) grp r y hy a, ?_⟩
  repeat refine Or.inl ?_
  refine ⟨fun h => ?_, fun _ => ?_⟩
  · have h : (((0 : Int) != 0) || folB C P G grp a r) = true := h
    rw [hh] at h
    cases h
  repeat refine Or.inl ?_
  refine ⟨_, _, literalsG_fn C P G (by omega) grp r y hy a, ?_⟩
  repeat refine Or.inl ?_
  refine ⟨[], Nat, fun k => k ≤ (litsG C G grp a r).length, fun k => [⟨40, [], .i .i64 k⟩], fun k => [⟨0, [], setO (insTo (litsG C G grp a r) k)⟩], fun k => (litsG C G grp a r).length - k,
    ⟨0, [], Nat.zero_le _, rfl, rfl, rfl, rfl, rfl, ⟨rfl, rfl⟩, ⟨rfl, rfl, fun k hk => absurd hk (Nat.not_lt_zero k)⟩⟩, ?_⟩
  intro k hk
  have hk : k ≤ (litsG C G grp a r).length := hk
  refine .inl ⟨fun hc => ?_, fun hc => ?_⟩
  · have hc := dlt hc
    have hst := insTo_succ (litsG C G grp a r) (k := k) (by omega)
    repeat refine Or.inl ?_
    refine ⟨⟨by omega, by omega⟩, by omega, ?_⟩
    repeat refine Or.inl ?_
    refine ⟨_, _, _, _, _, ⟨fun _ _ => rfl, rfl, updOk_set (insTo (litsG C G grp a r) k) ((litsG C G grp a r).getD k 0)⟩, ?_⟩
    refine ⟨k + 1, [], by dsimp only; omega, by dsimp only; omega, rfl, rfl, rfl, rfl, rfl, ⟨rfl, wr (by omega) (by omega)⟩, ?_⟩
    have ao : AOEq (setO (insTo (litsG C G grp a r) (k + 1))) (setO (ins (insTo (litsG C G grp a r) k) ((litsG C G grp a r).getD k 0))) := by
      rw [hst]
      exact AOEq.refl _
    exact ao
  · have hc := dnlt hc
    obtain rfl : k = (litsG C G grp a r).length := by omega
    repeat refine Or.inl ?_
    refine ⟨_, _, firstG_fn C P hC hok y (litsG C G grp a r) (insTo (litsG C G grp a r) (litsG C G grp a r).length) (mem_insAll _) litsG_ok vs hf, ?_⟩
    exact RetIs.sob rfl rfl (fun _ _ => rfl) (fun _ _ => rfl) rfl
end Go.Proofs.Ytilhaifmfiobhaa
end

section
/-
  Rights: the examples of the documentation.
-/
namespace Go.Proofs.Ytilhaifmfiobhaa
open Go.Eng

def exR : List Cm := [⟨5, 1⟩, ⟨5, 2⟩, ⟨6, 1⟩]
def exG : List Gt := [⟨0, 1, 3⟩, ⟨0, 2, 1⟩]
set_option maxRecDepth 20000 in
theorem claimsR_fn : Ctr Try.prog 102 [] [.row 73 2 exR.length (rowsM exR)] (.so 0) := by
  refine fn_of_exec tabOk Try.func102 (by kernel_rfl) rfl (N := Try.f102.ntmps) rfl (res := [.tmp 0]) rfl rfl [] ?_
  exact RetIs.so rfl rfl (three3 rfl rfl rfl) (fun _ _ => rfl)
set_option maxRecDepth 20000 in
theorem givenR_fn : Ctr Try.prog 103 [] [.row 68 3 exG.length (rowsG exG)] (.so 0) := by
  refine fn_of_exec tabOk Try.func103 (by kernel_rfl) rfl (N := Try.f103.ntmps) rfl (res := [.tmp 0]) rfl rfl [] ?_
  exact RetIs.so rfl rfl (two rfl rfl) (fun _ _ => rfl)
theorem holdL_of {C : List Cm} {P : List Pf} {G : List Gt} {grp r : Int} {L : List Int} (h : hdTo C (fun a => folB C P G grp a r) C.length = L) (ha : L.Pairwise (· < ·)) : holdL C P G grp r = L :=
  asc_unique (holdL_asc C P G grp r) ha fun x => by
    unfold holdL
    rw [h]
    exact sortI_mem
theorem exR1 : poseE exR [] exG 1 = 0 := by decide +kernel
theorem exR2 : holdL exR [] exG 0 1 = [] := holdL_of (by decide +kernel) (by decide)
theorem exR3 : (holdsY exR [⟨2, 0, 1⟩] exG 0 5 1, poseE exR [⟨2, 0, 1⟩] exG 1) = (true, 0) := by decide +kernel
theorem exR4 : (holdsY exR [⟨2, 0, 1⟩] exG 0 5 2, poseE exR [⟨2, 0, 1⟩] exG 2) = (false, 0) := by decide +kernel
theorem exR5 : folB exR [⟨2, 0, 1⟩] exG 0 5 2 = false := by decide +kernel
theorem exR6 : firstL (clausesL exR [⟨2, 0, 1⟩]) exR.length ((litsG exR exG 0 5 2).map opp) = some [false, true, false] := by decide +kernel
theorem exR7 : poseE exR [⟨0, 0, 0⟩] exG 3 = 0 := by decide +kernel
theorem exR8 : holdL exR [⟨0, 0, 0⟩] exG 0 3 = [5] := holdL_of (by decide +kernel) (by decide)
theorem exR9 : poseE exR [⟨0, 0, 0⟩, ⟨4, 0, 2⟩] exG 3 = 0 := by decide +kernel
theorem exRa : holdL exR [⟨0, 0, 0⟩, ⟨4, 0, 2⟩] exG 0 3 = [5, 6] := holdL_of (by decide +kernel) (by decide)
theorem exRb : (holdsY exR [⟨0, 0, 0⟩, ⟨0, 1, 0⟩] exG 0 5 1, poseE exR [⟨0, 0, 0⟩, ⟨0, 1, 0⟩] exG 1) = (false, 17) := by decide +kernel
theorem exRc : minusL [5, 6] [5] = [6] := by decide

abbrev rE : AV := .rs 3 1 (rowOf 3 [.i .i64 2, .i .i64 0, .i .i64 1])
abbrev rY : AV := .rs 3 1 (rowOf 3 [.i .i64 0, .i .i64 0, .i .i64 0])
abbrev rB : AV := .rs 3 2 (rowOf 3 [.i .i64 0, .i .i64 0, .i .i64 0, .i .i64 4, .i .i64 0, .i .i64 2])
abbrev rU : AV := .rs 3 2 (catG 1 (rowOf 3 [.i .i64 0, .i .i64 0, .i .i64 0]) (rowOf 3 [.i .i64 0, .i .i64 1, .i .i64 0]))
abbrev aR : AV := .rs 2 exR.length (rowsM exR)
abbrev aG : AV := .rs 3 exG.length (rowsG exG)

set_option maxRecDepth 20000 in
set_option maxHeartbeats 4000000 in
theorem smallR_fn : Ctr Try.prog 58 [] [] (.b true) := by
  refine fn_of_exec tabOk Try.func58 (by kernel_rfl) rfl (N := Try.f58.ntmps) rfl (res := [.tmp 0]) rfl rfl [] ?_
  have h1 : Ctr Try.prog 64 [aR, .val (.slice none 0 0), aG, .i .i64 0, .i .i64 1] [.row 3 1 0 (rowsI [])] (.tup [.so 0, .i .i64 0]) := by
    have := Holders_yes exR [] exG (by decide) (by decide) (by decide) 0 1 exR1
    rw [exR2] at this
    exact Ctr.of_eq (args := [aR, .rs 3 0 (rowsP []), aG, .i .i64 0, .i .i64 1]) ⟨AVEq.refl _, ⟨rfl, rfl⟩, AVEq.refl _, AVEq.refl _, AVEq.refl _⟩ this
  have h2 : Ctr Try.prog 60 [aR, rE, aG, .i .i64 0, .i .i64 5, .i .i64 1] [] (.tup [.b true, .i .i64 0]) := by
    have := Holds_fn exR [⟨2, 0, 1⟩] exG (by decide) (by decide) (by decide) 0 5 1
    rw [(Prod.mk.inj exR3).1, (Prod.mk.inj exR3).2] at this
    exact Ctr.of_eq (args := [aR, .rs 3 1 (rowsP [⟨2, 0, 1⟩]), aG, .i .i64 0, .i .i64 5, .i .i64 1]) ⟨AVEq.refl _, ⟨rfl, rfl, one rfl⟩, AVEq.refl _, AVEq.refl _, AVEq.refl _, AVEq.refl _⟩ this
  have h3 : Ctr Try.prog 60 [aR, rE, aG, .i .i64 0, .i .i64 5, .i .i64 2] [] (.tup [.b false, .i .i64 0]) := by
    have := Holds_fn exR [⟨2, 0, 1⟩] exG (by decide) (by decide) (by decide) 0 5 2
    rw [(Prod.mk.inj exR4).1, (Prod.mk.inj exR4).2] at this
    exact Ctr.of_eq (args := [aR, .rs 3 1 (rowsP [⟨2, 0, 1⟩]), aG, .i .i64 0, .i .i64 5, .i .i64 2]) ⟨AVEq.refl _, ⟨rfl, rfl, one rfl⟩, AVEq.refl _, AVEq.refl _, AVEq.refl _, AVEq.refl _⟩ this
  have h4 : Ctr Try.prog 62 [aR, rE, aG, .i .i64 0, .i .i64 5, .i .i64 2] [.row 4 1 3 (rowsB [false, true, false])] (.tup [.so 0, .b true]) :=
    Ctr.of_eq (args := [aR, .rs 3 1 (rowsP [⟨2, 0, 1⟩]), aG, .i .i64 0, .i .i64 5, .i .i64 2]) ⟨AVEq.refl _, ⟨rfl, rfl, one rfl⟩, AVEq.refl _, AVEq.refl _, AVEq.refl _, AVEq.refl _⟩
      (Counter_yes exR [⟨2, 0, 1⟩] exG (by decide) (by decide) (by decide) 0 5 2 (Prod.mk.inj exR4).2 exR5 _ (firstL_some.1 exR6))
  have h5 : Ctr Try.prog 64 [aR, rY, aG, .i .i64 0, .i .i64 3] [.row 3 1 1 (rowsI [5])] (.tup [.so 0, .i .i64 0]) := by
    have := Holders_yes exR [⟨0, 0, 0⟩] exG (by decide) (by decide) (by decide) 0 3 exR7
    rw [exR8] at this
    exact Ctr.of_eq (args := [aR, .rs 3 1 (rowsP [⟨0, 0, 0⟩]), aG, .i .i64 0, .i .i64 3]) ⟨AVEq.refl _, ⟨rfl, rfl, one rfl⟩, AVEq.refl _, AVEq.refl _, AVEq.refl _⟩ this
  have h6 : Ctr Try.prog 64 [aR, rB, aG, .i .i64 0, .i .i64 3] [.row 3 1 2 (rowsI [5, 6])] (.tup [.so 0, .i .i64 0]) := by
    have := Holders_yes exR [⟨0, 0, 0⟩, ⟨4, 0, 2⟩] exG (by decide) (by decide) (by decide) 0 3 exR9
    rw [exRa] at this
    exact Ctr.of_eq (args := [aR, .rs 3 2 (rowsP [⟨0, 0, 0⟩, ⟨4, 0, 2⟩]), aG, .i .i64 0, .i .i64 3]) ⟨AVEq.refl _, ⟨rfl, rfl, two rfl rfl⟩, AVEq.refl _, AVEq.refl _, AVEq.refl _⟩ this
  have h7 : Ctr Try.prog 68 [aR, rB, aG, .i .i64 0, .i .i64 3, .i .i64 1] [.row 3 1 1 (rowsI [6])] (.tup [.so 0, .i .i64 0]) := by
    have := Lost_yes exR [⟨0, 0, 0⟩, ⟨4, 0, 2⟩] exG 1 (by decide) (by decide) (by decide) 0 3 (by decide) exR9 exR7
    rw [exRa, show ([⟨0, 0, 0⟩, ⟨4, 0, 2⟩] : List Pf).eraseIdx 1 = [⟨0, 0, 0⟩] from rfl, exR8, exRc] at this
    exact Ctr.of_eq (args := [aR, .rs 3 2 (rowsP [⟨0, 0, 0⟩, ⟨4, 0, 2⟩]), aG, .i .i64 0, .i .i64 3, .i .i64 1]) ⟨AVEq.refl _, ⟨rfl, rfl, two rfl rfl⟩, AVEq.refl _, AVEq.refl _, AVEq.refl _, AVEq.refl _⟩ this
  have h8 : Ctr Try.prog 60 [aR, rU, aG, .i .i64 0, .i .i64 5, .i .i64 1] [] (.tup [.b false, .i .i64 17]) := by
    have := Holds_fn exR [⟨0, 0, 0⟩, ⟨0, 1, 0⟩] exG (by decide) (by decide) (by decide) 0 5 1
    rw [(Prod.mk.inj exRb).1, (Prod.mk.inj exRb).2] at this
    exact Ctr.of_eq (args := [aR, .rs 3 2 (rowsP [⟨0, 0, 0⟩, ⟨0, 1, 0⟩]), aG, .i .i64 0, .i .i64 5, .i .i64 1]) ⟨AVEq.refl _, ⟨rfl, rfl, two rfl rfl⟩, AVEq.refl _, AVEq.refl _, AVEq.refl _, AVEq.refl _⟩ this
  have b1 : Ctr Try.prog 35 [.rs 1 3 (rowsB [false, true, false]), .rs 1 3 (rowOf 1 [.b false, .b true, .b false])] [] (.b true) :=
    Ctr.of_eq (args := [.rs 1 3 (rowsB [false, true, false]), .rs 1 3 (rowsB [false, true, false])]) ⟨AVEq.refl _, ⟨rfl, rfl, three3 rfl rfl rfl⟩⟩ (bools_same [false, true, false] (by decide))
  have i1 : Ctr Try.prog 26 [.rs 1 1 (rowsI [5]), .rs 1 1 (rowOf 1 [.i .i64 5])] [] (.b true) :=
    Ctr.of_eq (args := [.rs 1 1 (rowsI [5]), .rs 1 1 (rowsI [5])]) ⟨AVEq.refl _, ⟨rfl, rfl, one rfl⟩⟩ (ints26_same [5] (by decide))
  have i2 : Ctr Try.prog 26 [.rs 1 2 (rowsI [5, 6]), .rs 1 2 (rowOf 1 [.i .i64 5, .i .i64 6])] [] (.b true) :=
    Ctr.of_eq (args := [.rs 1 2 (rowsI [5, 6]), .rs 1 2 (rowsI [5, 6])]) ⟨AVEq.refl _, ⟨rfl, rfl, two rfl rfl⟩⟩ (ints26_same [5, 6] (by decide))
  have i3 : Ctr Try.prog 26 [.rs 1 1 (rowsI [6]), .rs 1 1 (rowOf 1 [.i .i64 6])] [] (.b true) :=
    Ctr.of_eq (args := [.rs 1 1 (rowsI [6]), .rs 1 1 (rowsI [6])]) ⟨AVEq.refl _, ⟨rfl, rfl, one rfl⟩⟩ (ints26_same [6] (by decide))
  repeat refine Or.inl ?_
  refine ⟨_, _, claimsR_fn, ?_⟩
  repeat refine Or.inl ?_
  refine ⟨_, _, givenR_fn, ?_⟩
  repeat refine Or.inl ?_
  refine ⟨_, _, h1, ?_⟩
  repeat refine Or.inl ?_
  refine ⟨_, _, claimsR_fn, ?_⟩
  repeat refine Or.inl ?_
  refine ⟨_, _, givenR_fn, ?_⟩
  repeat refine Or.inl ?_
  refine ⟨[], _, h2, ?_⟩
  repeat refine Or.inl ?_
  refine ⟨_, _, claimsR_fn, ?_⟩
  repeat refine Or.inl ?_
  refine ⟨_, _, givenR_fn, ?_⟩
  repeat refine Or.inl ?_
  refine ⟨[], _, h3, ?_⟩
  repeat refine Or.inl ?_
  refine ⟨_, _, claimsR_fn, ?_⟩
  repeat refine Or.inl ?_
  refine ⟨_, _, givenR_fn, ?_⟩
  repeat refine Or.inl ?_
  refine ⟨_, _, h4, ?_⟩
  repeat refine Or.inl ?_
  refine ⟨_, _, claimsR_fn, ?_⟩
  repeat refine Or.inl ?_
  refine ⟨_, _, givenR_fn, ?_⟩
  repeat refine Or.inl ?_
  refine ⟨_, _, h5, ?_⟩
  repeat refine Or.inl ?_
  refine ⟨_, _, claimsR_fn, ?_⟩
  repeat refine Or.inl ?_
  refine ⟨_, _, givenR_fn, ?_⟩
  repeat refine Or.inl ?_
  refine ⟨_, _, h6, ?_⟩
  repeat refine Or.inl ?_
  refine ⟨_, _, claimsR_fn, ?_⟩
  repeat refine Or.inl ?_
  refine ⟨_, _, givenR_fn, ?_⟩
  repeat refine Or.inl ?_
  refine ⟨_, _, h7, ?_⟩
  repeat refine Or.inl ?_
  refine ⟨_, _, claimsR_fn, ?_⟩
  repeat refine Or.inl ?_
  refine ⟨by decide, ?_⟩
  repeat refine Or.inl ?_
  refine ⟨_, _, givenR_fn, ?_⟩
  repeat refine Or.inl ?_
  refine ⟨[], _, h8, ?_⟩
  repeat refine Or.inl ?_
  refine ⟨[], _, fun _ => b1, ?_⟩
  repeat refine Or.inl ?_
  refine ⟨[], _, fun _ => i1, ?_⟩
  repeat refine Or.inl ?_
  refine ⟨[], _, fun _ => i2, ?_⟩
  repeat refine Or.inl ?_
  refine ⟨[], _, fun _ => i3, ?_⟩
  exact RetIs.b rfl
end Go.Proofs.Ytilhaifmfiobhaa
end

section
/-
  Rights: RightsGrants.
-/
namespace Go.Proofs.Ytilhaifmfiobhaa
open Go.Eng

theorem holds_fol {C : List Cm} {P : List Pf} {G : List Gt} {grp a r : Int} (h : poseE C P G r = 0) : holdsY C P G grp a r = folB C P G grp a r := by
  unfold holdsY folB
  rw [decide_eq_true h, Bool.true_and]

end Go.Proofs.Ytilhaifmfiobhaa
end

section
/-
  ClaimFollows.
-/
namespace Go.Proofs.Ytilhaifmfiobhaa
open Go.Eng

theorem snocP_av (f : Nat → List AV) (o : List Pf) (c : Pf) : AVEq (.rs 3 (o ++ [c]).length (rowsP (o ++ [c]))) (.rs 3 (0 + o.length + 1) (catG (0 + o.length) (catG 0 f (rowsP o)) (rowOf 3 c.av))) := by
  refine ⟨rfl, by simp, fun q hq => ?_⟩
  rw [← catP2 o c q hq, Nat.zero_add]
  unfold catG
  split
  · rw [if_neg (by omega), Nat.sub_zero]
  · rfl
end Go.Proofs.Ytilhaifmfiobhaa
end

section
/-
  PersonSame and PersonMore.
-/
namespace Go.Proofs.Ytilhaifmfiobhaa
open Go.Eng

end Go.Proofs.Ytilhaifmfiobhaa
end

section
/-
  Rights: the reference's Has, and RightsSums.
-/
namespace Go.Proofs.Ytilhaifmfiobhaa
open Go.Eng

theorem bit_div {x : Int} {m : Nat} (h : 0 ≤ x ∧ x ≤ 15) (hm : m < 4) : (IntKind.i64.wrap (x.tdiv (2 ^ m : Nat))).tmod 2 = if bitN x m = true then 1 else 0 := by
  have hm : m = 0 ∨ m = 1 ∨ m = 2 ∨ m = 3 := by omega
  have hx : x = 0 ∨ x = 1 ∨ x = 2 ∨ x = 3 ∨ x = 4 ∨ x = 5 ∨ x = 6 ∨ x = 7 ∨ x = 8 ∨ x = 9 ∨ x = 10 ∨ x = 11 ∨ x = 12 ∨ x = 13 ∨ x = 14 ∨ x = 15 := by omega
  rcases hm with rfl | rfl | rfl | rfl <;> rcases hx with rfl | rfl | rfl | rfl | rfl | rfl | rfl | rfl | rfl | rfl | rfl | rfl | rfl | rfl | rfl | rfl <;> decide
theorem any_take_succ {α : Type} (d : α) (p : α → Bool) (l : List α) {k : Nat} (h : k < l.length) : (l.take (k + 1)).any p = ((l.take k).any p || p (l.getD k d)) := by
  rw [List.take_succ_eq_append_getElem h, List.any_append]
  simp [List.getD, h]

def hasAt (G : List Gt) (grp p r : Int) (m j : Nat) : Bool := !bitN r m || (G.take j).any (grB grp p m)
theorem hasG_at (G : List Gt) (grp p r : Int) : hasG G grp p r = (List.range 4).all fun i => hasAt G grp p r i G.length := by
  unfold hasG hasAt
  simp only [List.take_length]
theorem getD_memG {G : List Gt} {k : Nat} (h : k < G.length) : G.getD k dGt ∈ G := by simp [List.getD, h]
set_option maxRecDepth 20000 in
set_option maxHeartbeats 4000000 in
theorem Has_fn (G : List Gt) (hG : G.length ≤ 1000) (hv : validG G = true) (grp p r : Int) (hr : 1 ≤ r ∧ r ≤ 15) :
    Ctr Try.prog 70 [.rs 3 G.length (rowsG G), .i .i64 grp, .i .i64 p, .i .i64 r] [] (.b (hasG G grp p r)) := by
  refine fn_of_exec tabOk Try.func70 (by kernel_rfl) rfl (N := Try.f70.ntmps) rfl (res := [.tmp 8]) rfl rfl [] ?_
  repeat refine Or.inl ?_
  refine ⟨[], Nat, fun m => m ≤ 4 ∧ ∀ i, i < m → hasAt G grp p r i G.length = true, fun m => [⟨9, [], .i .i64 ((2 ^ m : Nat) : Int)⟩], fun _ => [], fun m => 4 - m,
    ⟨0, [], ⟨Nat.zero_le _, fun i hi => absurd hi (Nat.not_lt_zero i)⟩, rfl, rfl, rfl, rfl, rfl, ⟨rfl, rfl⟩, trivial⟩, ?_⟩
  rintro m ⟨hm, hall⟩
  have hm : m ≤ 4 := hm
  have h2 : (2 : Nat) ^ m ≤ 16 := Nat.pow_le_pow_right (n := 2) (by decide) hm
  have h1 : 1 ≤ (2 : Nat) ^ m := Nat.one_le_two_pow
  refine .inl ⟨fun hc => ?_, fun hc => ?_⟩
  · have hc : decide (((2 ^ m : Nat) : Int) ≤ 8) = true := hc
    rw [decide_eq_true_eq] at hc
    have hm4 : m < 4 := by
      rcases Nat.lt_or_ge m 4 with h | h
      · exact h
      · obtain rfl : m = 4 := by omega
        exact absurd hc (by decide)
    have hbr := bit_div (x := r) (m := m) (by omega) hm4
    repeat refine Or.inl ?_
    refine ⟨by omega, by decide, ?_⟩
    repeat refine Or.inl ?_
    refine ⟨[], Nat, fun j => j ≤ G.length, fun j => [⟨11, [], .i .i64 j⟩, ⟨10, [], .b (hasAt G grp p r m j)⟩], fun _ => [], fun j => G.length - j,
      ⟨0, [], Nat.zero_le _, rfl, rfl, rfl, rfl, rfl, ⟨⟨rfl, rfl⟩, ?_⟩, trivial⟩, ?_⟩
    · show ((IntKind.i64.wrap (r.tdiv ((2 ^ m : Nat) : Int))).tmod 2 == 0) = hasAt G grp p r m 0
      rw [hbr]
      unfold hasAt
      cases bitN r m <;> rfl
    intro j hj
    have hj : j ≤ G.length := hj
    refine .inl ⟨fun hc2 => ?_, fun hc2 => ?_⟩
    · have hc2 := dlt hc2
      repeat refine Or.inl ?_
      refine ⟨fun _ => ⟨by omega, by omega⟩, ?_⟩
      repeat refine Or.inl ?_
      refine ⟨fun _ => ⟨by omega, by omega⟩, ?_⟩
      repeat refine Or.inl ?_
      refine ⟨fun _ => ⟨by omega, by omega⟩, ?_⟩
      repeat refine Or.inl ?_
      refine ⟨fun _ => by omega, ?_⟩
      repeat refine Or.inl ?_
      refine ⟨fun _ => by decide, ?_⟩
      refine ⟨j + 1, [], by dsimp only; omega, by dsimp only; omega, rfl, rfl, rfl, rfl, rfl, ⟨⟨rfl, wr (by omega) (by omega)⟩, ?_⟩, trivial⟩
      have hgr := (validG_mem hv (getD_memG (G := G) (k := j) (by omega))).2.2
      show (hasAt G grp p r m j || ((((G.getD j dGt).grp == grp) && ((G.getD j dGt).per == p)) && ((IntKind.i64.wrap ((G.getD j dGt).rig.tdiv ((2 ^ m : Nat) : Int))).tmod 2 == 1))) = hasAt G grp p r m (j + 1)
      rw [bit_div hgr hm4]
      unfold hasAt
      rw [any_take_succ dGt _ G (by omega), ← Bool.or_assoc]
      unfold grB
      cases bitN (G.getD j dGt).rig m <;> rfl
    · have hc2 := dnlt hc2
      obtain rfl : j = G.length := by omega
      repeat refine Or.inl ?_
      refine ⟨fun h => ?_, fun h => ?_⟩
      · have h : (!hasAt G grp p r m G.length) = true := h
        refine RetIs.b ?_
        rw [hasG_at]
        symm
        rw [List.all_eq_false]
        exact ⟨m, List.mem_range.2 hm4, by rw [Bool.not_eq_true'] at h; rw [h]; decide⟩
      · have h : (!hasAt G grp p r m G.length) = false := h
        have hp2 : IntKind.i64.wrap (2 * ((2 ^ m : Nat) : Int)) = ((2 ^ (m + 1) : Nat) : Int) := by
          rw [wr (by omega) (by omega), Nat.pow_succ]
          omega
        refine ⟨m + 1, [], ⟨by omega, fun i hi => ?_⟩, by dsimp only; omega, rfl, rfl, rfl, rfl, rfl, ⟨rfl, hp2⟩, trivial⟩
        by_cases him : i < m
        · exact hall i him
        · obtain rfl : i = m := by omega
          simpa using h
  · have hc : decide (((2 ^ m : Nat) : Int) ≤ 8) = false := hc
    rw [decide_eq_false_iff_not] at hc
    have hm4 : m = 4 := by
      have : m = 0 ∨ m = 1 ∨ m = 2 ∨ m = 3 ∨ m = 4 := by omega
      rcases this with rfl | rfl | rfl | rfl | rfl <;> first | rfl | exact absurd (by decide) hc
    subst hm4
    refine RetIs.b ?_
    rw [hasG_at]
    symm
    rw [List.all_eq_true]
    exact fun i hi => hall i (List.mem_range.1 hi)

/-! ### who may use what, said by worlds -/
theorem fol_iff {C : List Cm} {P : List Pf} {G : List Gt} {grp a r : Int} (hok : okCP C P = true) : folB C P G grp a r = true ↔ ∀ vals, Wd C P vals → ∃ i, i < C.length ∧ (C.getD i dCm).acc = a ∧ hasG G grp (C.getD i dCm).per r = true ∧ vals.getD i false = true := by
  have hR : RightP (clausesL C P) C.length := clausesL_right (okCP_iff.1 hok).1 (okCP_iff.1 hok).2
  unfold folB
  rw [followsB_iff]
  constructor
  · rintro ⟨_, _, h⟩ vals g
    obtain ⟨x, hx, ht⟩ := h vals (by rw [Int.toNat_natCast]; exact g)
    obtain ⟨i, hi, hu, rfl⟩ := mem_litsG.1 hx
    unfold usesB at hu
    rw [Bool.and_eq_true, beq_iff_eq] at hu
    rw [tv_even] at ht
    exact ⟨i, hi, hu.1, hu.2, ht⟩
  · intro h
    refine ⟨hR, litsG_ok, fun vals g => ?_⟩
    obtain ⟨i, hi, h1, h2, h3⟩ := h vals (by rw [Int.toNat_natCast] at g; exact g)
    refine ⟨2 * (i : Int), mem_litsG.2 ⟨i, hi, ?_, rfl⟩, by rw [tv_even]; exact h3⟩
    unfold usesB
    rw [h1, h2, beq_self_eq_true]
    rfl
end Go.Proofs.Ytilhaifmfiobhaa
end

section
/-
  Rights: RightsGrow.
-/
namespace Go.Proofs.Ytilhaifmfiobhaa
open Go.Eng

end Go.Proofs.Ytilhaifmfiobhaa
end

section
/-
  Worlds of persons; plain Lean, no program in sight.
-/
namespace Go.Proofs.Ytilhaifmfiobhaa
open Go.Eng

theorem wd_check {C : List Cm} {P : List Pf} (hok : okCP C P = true) {vals : List Bool} : checkB (clausesL C P) C.length vals = true ↔ Wd C P vals := by
  rw [checkB_iff, Int.toNat_natCast]
  exact ⟨fun h => h.2, fun h => ⟨clausesL_right (okCP_iff.1 hok).1 (okCP_iff.1 hok).2, h⟩⟩
theorem mem_wldL {C : List Cm} {P : List Pf} (hok : okCP C P = true) {w : List Bool} : w ∈ wldL C P ↔ Wd C P w := by
  unfold wldL wldT
  rw [List.mem_filter, wd_check hok]
  constructor
  · exact fun h => h.2
  · intro h
    refine ⟨?_, h⟩
    obtain ⟨e1, e2⟩ := after_num C.length w h.len
    exact List.mem_map.2 ⟨numOf w, List.mem_range.2 e2, e1⟩
end Go.Proofs.Ytilhaifmfiobhaa
end

section
/-
  PersonWorlds.
-/
namespace Go.Proofs.Ytilhaifmfiobhaa
open Go.Eng

end Go.Proofs.Ytilhaifmfiobhaa
end

section
/-
  RightsWorlds.
-/
namespace Go.Proofs.Ytilhaifmfiobhaa
open Go.Eng

def useAt (C : List Cm) (G : List Gt) (grp a r : Int) (w : List Bool) (i : Nat) : Bool := (w.getD i false && ((C.getD i dCm).acc == a)) && hasG G grp (C.getD i dCm).per r
def useTo (C : List Cm) (G : List Gt) (grp a r : Int) (w : List Bool) (k : Nat) : Bool := (List.range k).any (useAt C G grp a r w)
theorem useTo_succ (C : List Cm) (G : List Gt) (grp a r : Int) (w : List Bool) (k : Nat) : useTo C G grp a r w (k + 1) = (useTo C G grp a r w k || useAt C G grp a r w k) := by
  unfold useTo
  rw [List.range_succ, List.any_append]
  simp
def useW (C : List Cm) (G : List Gt) (grp a r : Int) (w : List Bool) : Bool := useTo C G grp a r w C.length
theorem use_iff {C : List Cm} {G : List Gt} {grp a r : Int} {w : List Bool} : useW C G grp a r w = true ↔ ∃ i, i < C.length ∧ (C.getD i dCm).acc = a ∧ hasG G grp (C.getD i dCm).per r = true ∧ w.getD i false = true := by
  unfold useW useTo
  rw [List.any_eq_true]
  constructor
  · rintro ⟨i, hi, h⟩
    unfold useAt at h
    rw [Bool.and_eq_true, Bool.and_eq_true, beq_iff_eq] at h
    exact ⟨i, List.mem_range.1 hi, h.1.2, h.2, h.1.1⟩
  · rintro ⟨i, hi, h1, h2, h3⟩
    refine ⟨i, List.mem_range.2 hi, ?_⟩
    unfold useAt
    rw [h1, h2, h3, beq_self_eq_true]
    rfl
end Go.Proofs.Ytilhaifmfiobhaa
end
