/-
  Several texts in one: W8, W9, W10, W11, W12, W13, W14, W15, W16, Y1, Y2, Y3, Y4, Y5, Y6, Y8, Y7, Y12, V1, V2.
-/
import Derived.Shelf.Slices.Reverse
import Derived.Test.YtilhaifmfiobhaaMg14

section
/-
  The way from one literal to another.
-/
namespace Go.Proofs.Ytilhaifmfiobhaa
open Go.Eng

theorem snocZ (o : List Int) (n : Int) : ∀ k, k < (o ++ [n]).length → catG o.length (rowsI o) (rowOf 1 [.i .i64 n]) k = rowsI (o ++ [n]) k := by
  intro k hk
  unfold catG rowsI
  rw [getD_snocI]
  by_cases h : k < o.length
  · rw [if_pos h, if_pos h]
  · rw [if_neg h, if_neg h]
    have : k = o.length := by simp at hk; omega
    subst this
    simp [rowOf]
theorem snocZ_row (o : List Int) (n : Int) {l : List Int} (hl : l = o ++ [n]) : AOEq (.row 3 1 l.length (rowsI l)) (.row 3 1 (o.length + 1) (catG o.length (rowsI o) (rowOf 1 [.i .i64 n]))) := by
  subst hl
  exact ⟨rfl, rfl, by simp, snocZ o n⟩
theorem same_row {o l : List Int} (hl : l = o) : AOEq (.row 3 1 l.length (rowsI l)) (.row 3 1 o.length (rowsI o)) := by
  subst hl
  exact AOEq.refl _
theorem Bf.node {l : List Cl} {a b : Int} {L : LI} {p : Nat} {n : Int} (h : Bf l a b L p) (hr : RightC n l) (ha : 0 ≤ a ∧ a < 2 * n) : ∀ v ∈ keysX L, 0 ≤ v ∧ v < 2 * n := by
  intro v hv
  obtain ⟨j, hj, rfl⟩ := mem_node hv
  rcases Nat.eq_zero_or_pos j with rfl | h0
  · rw [h.head]; exact ha
  · obtain ⟨q, _, _, e⟩ := h.par j h0 hj
    exact succL_rg hr _ _ e
theorem Bf.len {l : List Cl} {a b : Int} {L : LI} {p n : Nat} (h : Bf l a b L p) (hr : RightC n l) (ha : 0 ≤ a ∧ a < 2 * (n : Int)) : L.length ≤ 2 * n := by
  have := nodup_lenX (m := 2 * n) h.nodup fun x hx => by
    have := h.node hr ha x hx
    omega
  rwa [keysX_len] at this
end Go.Proofs.Ytilhaifmfiobhaa
end

section
/-
  Solve.
-/
namespace Go.Proofs.Ytilhaifmfiobhaa
open Go.Eng

inductive SolK where
  | bad
  | sat (vs : List Bool)
  | uns (c : List Int)
def SolK.os : SolK → List AO
  | .bad => []
  | .sat vs => [.row 4 1 vs.length fun k => [.b (vs.getD k false)]]
  | .uns c => [.row 3 1 c.length (rowsI c)]
def SolK.av : SolK → AV
  | .bad => .tup [.val (.slice none 0 0), .val (.slice none 0 0), .i .i64 1]
  | .sat _ => .tup [.so 0, .val (.slice none 0 0), .i .i64 0]
  | .uns _ => .tup [.val (.slice none 0 0), .so 0, .i .i64 17]
def SolK.y : SolK → SolveY
  | .bad => ⟨[], [], 1⟩
  | .sat vs => ⟨vs, [], 0⟩
  | .uns c => ⟨[], c, 17⟩
def SolvK (l : List Cl) (n : Int) : SolK → Prop
  | .bad => rightB l n = false
  | .sat vs => rightB l n = true ∧ firstL l n.toNat [] = some vs
  | .uns c => rightB l n = true ∧ firstL l n.toNat [] = none ∧ RefP l n c
theorem SolvK.s {l : List Cl} {n : Int} {k : SolK} (h : SolvK l n k) : SolveS l n k.y := by
  cases k with
  | bad =>
    have h : rightB l n = false := h
    exact ⟨fun _ => rfl, fun vs h1 => (by rw [h] at h1; cases h1), fun h1 => (by rw [h] at h1; cases h1)⟩
  | sat vs =>
    obtain ⟨h1, h2⟩ := h
    refine ⟨fun h => (by rw [h1] at h; cases h), fun vs' _ e => ?_, fun _ e => (by rw [h2] at e; cases e)⟩
    rw [h2] at e
    rw [Option.some.inj e]
    rfl
  | uns c =>
    obtain ⟨h1, h2, h3⟩ := h
    exact ⟨fun h => (by rw [h1] at h; cases h), fun vs' _ e => (by rw [h2] at e; cases e), fun _ _ => ⟨rfl, rfl, refB_iff.2 h3⟩⟩
end Go.Proofs.Ytilhaifmfiobhaa
end

section
/-
  Follows.
-/
namespace Go.Proofs.Ytilhaifmfiobhaa
open Go.Eng

set_option maxRecDepth 20000 in
set_option maxHeartbeats 4000000 in
theorem Follows_fn (l : List Cl) (hl : l.length < 2^62) (n : Int) (lits : List Int) (hll : lits.length ≤ 100000) :
    Ctr Try.prog 23 [.rs 2 l.length (rowsC l), .i .i64 n, .rs 1 lits.length (rowsI lits)] [] (.b (followsB l n lits)) := by
  refine fn_of_exec tabOk Try.func23 (by kernel_rfl) rfl (N := Try.f23.ntmps) rfl (res := [.tmp 6]) rfl rfl [] ?_
  repeat refine Or.inl ?_
  refine ⟨_, _, Right_fn l hl n, ?_⟩
  repeat refine Or.inl ?_
  refine ⟨fun h => ?_, fun h => ?_⟩
  · have h : (!rightB l n) = true := h
    refine RetIs.b ?_
    unfold followsB
    rw [show rightB l n = false by simpa using h]
    rfl
  have h : (!rightB l n) = false := h
  have hrt : rightB l n = true := by simpa using h
  have hR := rightB_iff.1 hrt
  obtain ⟨m, rfl⟩ := Int.eq_ofNat_of_zero_le hR.lo
  have hr : RightC (m : Nat) l := hR.cl
  have hm : m ≤ 400 := by have := hR.hi; omega
  have hr4 : RightC 400 l := fun c hc => by
    have := hr c hc
    omega
  have step : ∀ k, k < lits.length → (lits.take (k + 1)).map opp = (lits.take k).map opp ++ [opp (lits.getD k 0)] := fun k hk => by
    rw [List.take_succ_eq_append_getElem hk, List.map_append]
    simp [List.getD, hk]
  have w2 : IntKind.i64.wrap (2 * (m : Int)) = 2 * m := wr (by omega) (by omega)
  repeat refine Or.inl ?_
  refine ⟨[(7, 3, 1)], Nat, fun k => k ≤ lits.length ∧ ∀ j, j < k → 0 ≤ lits.getD j 0 ∧ lits.getD j 0 < 2 * (m : Int), fun k => [⟨18, [], .i .i64 k⟩, ⟨7, [], .so 0⟩], fun k => [⟨0, [], .row 3 1 ((lits.take k).map opp).length (rowsI ((lits.take k).map opp))⟩], fun k => lits.length - k,
    ⟨0, [], ⟨Nat.zero_le _, fun j hj => by omega⟩, rfl, rfl, rfl, rfl, rfl, ⟨⟨rfl, rfl⟩, rfl⟩, ⟨rfl, rfl, rfl, fun j hj => by cases hj⟩⟩, ?_⟩
  rintro k ⟨hk, hok⟩
  refine .inl ⟨fun hc => ?_, fun hc => ?_⟩
  · have hc := dlt hc
    repeat refine Or.inl ?_
    refine ⟨⟨by omega, by omega⟩, ?_⟩
    have ek : (k : Int).toNat = k := Int.toNat_natCast k
    refine .inl ⟨fun h2 => RetIs.b ?_, fun h2 => ?_⟩
    · have h2 : (decide (lits.getD (k : Int).toNat 0 < 0) || decide (lits.getD (k : Int).toNat 0 ≥ IntKind.i64.wrap (2 * (m : Int)))) = true := h2
      rw [ek, w2, Bool.or_eq_true, decide_eq_true_eq, decide_eq_true_eq] at h2
      have e : okLits m lits = false := not_all 0 (j := k) (by omega) (by rw [Bool.and_eq_false_iff, decide_eq_false_iff_not, decide_eq_false_iff_not]; omega)
      unfold followsB
      rw [e, Bool.false_and, Bool.and_false]
    have h2 : (decide (lits.getD (k : Int).toNat 0 < 0) || decide (lits.getD (k : Int).toNat 0 ≥ IntKind.i64.wrap (2 * (m : Int)))) = false := h2
    rw [ek, w2, Bool.or_eq_false_iff, decide_eq_false_iff_not, decide_eq_false_iff_not] at h2
    refine ⟨fits (by simp only [List.length_map, List.length_take]; omega), ?_⟩
    refine ⟨k + 1, [(0, 2)], ⟨by omega, fun j hj => ?_⟩, by dsimp only; omega, rfl, rfl, rfl, rfl, rfl, ⟨⟨rfl, wr (by omega) (by omega)⟩, rfl⟩, snocZ_row _ _ ?_⟩
    · by_cases h : j < k
      · exact hok j h
      · obtain rfl : j = k := by omega
        omega
    · rw [ek, step k (by omega), bits_opp (by omega) (by omega)]
  · have hc := dnlt hc
    have hk2 : lits.take k = lits := List.take_of_length_le (by omega)
    have hin : ∀ x ∈ lits, 0 ≤ x ∧ x < 2 * (m : Int) := fun x hx => by
      obtain ⟨j, hj, rfl⟩ := mem_getDX hx
      exact hok j (by omega)
    have ho : okLits m lits = true := okLits_iff.2 hin
    have hop : ∀ x ∈ lits.map opp, 0 ≤ x ∧ x < 2 * (m : Int) := fun x hx => by
      obtain ⟨y, hy, rfl⟩ := List.mem_map.1 hx
      exact opp_in (hin y hy)
    rw [hk2]
    have cf := first_fn l m hr hm hR.len (lits.map opp) hop (by rw [List.length_map]; omega)
    refine .inl ⟨_, _, graph_fn l hr4 hR.len, ?_⟩
    cases e : firstL l m (lits.map opp) with
    | some vs =>
      rw [e] at cf
      refine .inl ⟨_, _, cf, ?_⟩
      refine RetIs.b ?_
      unfold followsB
      rw [Int.toNat_natCast, e]
      simp
    | none =>
      rw [e] at cf
      refine .inl ⟨_, _, cf, ?_⟩
      refine RetIs.b ?_
      unfold followsB
      rw [Int.toNat_natCast, e, hrt, ho]
      rfl
end Go.Proofs.Ytilhaifmfiobhaa
end

section
/-
  Small functions: lists alike, opposites, what is implied, the assignment with a number.
-/
namespace Go.Proofs.Ytilhaifmfiobhaa
open Go.Eng

/-- Equality of two lists, looked through from the front. -/
def eqUpto {α : Type} (d : α) (a b : List α) (k : Nat) : Prop := ∀ j, j < k → a.getD j d = b.getD j d
theorem eqUpto_all {α : Type} {d : α} {a b : List α} (hl : a.length = b.length) (h : eqUpto d a b a.length) : a = b := by
  refine List.ext_getElem hl fun j h1 h2 => ?_
  have := h j h1
  simp only [List.getD, List.getElem?_eq_getElem h1, List.getElem?_eq_getElem h2, Option.getD_some] at this
  exact this

set_option maxRecDepth 20000 in
theorem ints26_fn (a b : List Int) (ha : a.length < 2^62) (hb : b.length < 2^62) : Ctr Try.prog 26 [.rs 1 a.length (rowsI a), .rs 1 b.length (rowsI b)] [] (.b (decide (a = b))) := by
  refine fn_of_exec tabOk Try.func26 (by kernel_rfl) rfl (N := Try.f26.ntmps) rfl (res := [.tmp 4]) rfl rfl [] ?_
  refine .inl ⟨fun h => ?_, fun h => ?_⟩
  · refine RetIs.b ?_
    have h : ((a.length : Int) != b.length) = true := h
    simp at h
    simp
    intro he
    exact h (by rw [he])
  have h : ((a.length : Int) != b.length) = false := h
  simp at h
  have hl : a.length = b.length := by omega
  refine .inl ⟨[], Nat, fun k => k ≤ a.length ∧ eqUpto 0 a b k, fun k => [⟨5, [], .i .i64 k⟩], fun _ => [], fun k => a.length - k,
    ⟨0, [], ⟨Nat.zero_le _, fun j hj => by omega⟩, rfl, rfl, rfl, rfl, rfl, ⟨rfl, rfl⟩, trivial⟩, ?_⟩
  rintro k ⟨hk, he⟩
  refine .inl ⟨fun hc => ?_, fun hc => ?_⟩
  · have hc := dlt hc
    refine .inl ⟨⟨by omega, by omega⟩, ⟨by omega, by omega⟩, ⟨fun h2 => ?_, fun h2 => ?_⟩⟩
    · refine RetIs.b ?_
      have h2 : (a.getD (k : Int).toNat 0 != b.getD (k : Int).toNat 0) = true := h2
      rw [Int.toNat_natCast] at h2
      simp only [bne_iff_ne] at h2
      symm
      rw [decide_eq_false_iff_not]
      rintro rfl
      exact h2 rfl
    · have h2 : (a.getD (k : Int).toNat 0 != b.getD (k : Int).toNat 0) = false := h2
      rw [Int.toNat_natCast] at h2
      have h3 : a.getD k 0 = b.getD k 0 := by simpa using h2
      refine ⟨k + 1, [], ⟨by omega, fun j hj => ?_⟩, by dsimp only; omega, rfl, rfl, rfl, rfl, rfl, ⟨rfl, wr (by omega) (by omega)⟩, trivial⟩
      by_cases hjk : j = k
      · rw [hjk]; exact h3
      · exact he j (by omega)
  · have hc := dnlt hc
    refine RetIs.b ?_
    have hk2 : k = a.length := by omega
    subst hk2
    simp [eqUpto_all hl he]

set_option maxRecDepth 20000 in
theorem bools_fn (a b : List Bool) (ha : a.length < 2^62) (hb : b.length < 2^62) : Ctr Try.prog 35 [.rs 1 a.length (rowsB a), .rs 1 b.length (rowsB b)] [] (.b (decide (a = b))) := by
  refine fn_of_exec tabOk Try.func35 (by kernel_rfl) rfl (N := Try.f35.ntmps) rfl (res := [.tmp 4]) rfl rfl [] ?_
  refine .inl ⟨fun h => ?_, fun h => ?_⟩
  · refine RetIs.b ?_
    have h : ((a.length : Int) != b.length) = true := h
    simp at h
    simp
    intro he
    exact h (by rw [he])
  have h : ((a.length : Int) != b.length) = false := h
  simp at h
  have hl : a.length = b.length := by omega
  refine .inl ⟨[], Nat, fun k => k ≤ a.length ∧ eqUpto false a b k, fun k => [⟨5, [], .i .i64 k⟩], fun _ => [], fun k => a.length - k,
    ⟨0, [], ⟨Nat.zero_le _, fun j hj => by omega⟩, rfl, rfl, rfl, rfl, rfl, ⟨rfl, rfl⟩, trivial⟩, ?_⟩
  rintro k ⟨hk, he⟩
  refine .inl ⟨fun hc => ?_, fun hc => ?_⟩
  · have hc := dlt hc
    refine .inl ⟨⟨by omega, by omega⟩, ⟨by omega, by omega⟩, ⟨fun h2 => ?_, fun h2 => ?_⟩⟩
    · refine RetIs.b ?_
      have h2 : (a.getD (k : Int).toNat false != b.getD (k : Int).toNat false) = true := h2
      rw [Int.toNat_natCast] at h2
      simp only [bne_iff_ne] at h2
      symm
      rw [decide_eq_false_iff_not]
      rintro rfl
      exact h2 rfl
    · have h2 : (a.getD (k : Int).toNat false != b.getD (k : Int).toNat false) = false := h2
      rw [Int.toNat_natCast] at h2
      have h3 : a.getD k false = b.getD k false := by simpa using h2
      refine ⟨k + 1, [], ⟨by omega, fun j hj => ?_⟩, by dsimp only; omega, rfl, rfl, rfl, rfl, rfl, ⟨rfl, wr (by omega) (by omega)⟩, trivial⟩
      by_cases hjk : j = k
      · rw [hjk]; exact h3
      · exact he j (by omega)
  · have hc := dnlt hc
    refine RetIs.b ?_
    have hk2 : k = a.length := by omega
    subst hk2
    simp [eqUpto_all hl he]

theorem after_bit : ∀ (n k j : Nat), j < n → (after n k).getD j false = decide (k / 2 ^ (n - 1 - j) % 2 = 1)
  | 0, _, _, h => by omega
  | n + 1, k, j, h => by
    unfold after
    rw [getD_snoc', after_len]
    by_cases hj : j < n
    · rw [if_pos hj, after_bit n (k / 2) j hj, Nat.div_div_eq_div_mul]
      have : 2 * 2 ^ (n - 1 - j) = 2 ^ (n + 1 - 1 - j) := by rw [show n + 1 - 1 - j = (n - 1 - j) + 1 by omega, Nat.pow_succ, Nat.mul_comm]
      rw [this]
    · obtain rfl : j = n := by omega
      rw [if_neg hj, if_pos rfl]
      simp
/-- The values behind m steps. -/
def afterG (n k m j : Nat) : Bool := decide (n - m ≤ j) && (after n k).getD j false
set_option maxRecDepth 20000 in
set_option maxHeartbeats 1000000 in
theorem after_fn (n k : Nat) (hn : n ≤ 400) (hk : k < 2 ^ 62) : Ctr Try.prog 82 [.i .i64 n, .i .i64 k] [.row 4 1 (after n k).length (rowsB (after n k))] (.so 0) := by
  refine fn_of_exec tabOk Try.func82 (by kernel_rfl) rfl (N := Try.f82.ntmps) rfl (res := [.tmp 4]) rfl rfl [] ?_
  refine ⟨⟨rfl, by omega, by rw [Int.toNat_natCast]; show 1 * n ≤ _; omega⟩, ?_⟩
  repeat refine Or.inl ?_
  refine ⟨[], Nat, fun m => m ≤ n, fun m => [⟨6, [], .i .i64 ((n : Int) - 1 - m)⟩, ⟨1, [], .i .i64 ((k / 2 ^ m : Nat) : Int)⟩], fun m => [⟨0, [], .row 4 1 n fun j => [.b (afterG n k m j)]⟩], fun m => n - m,
    ⟨0, [], Nat.zero_le _, rfl, rfl, rfl, rfl, rfl, ⟨⟨rfl, ?_⟩, ⟨rfl, ?_⟩⟩, ⟨rfl, rfl, ?_, fun j hj => ?_⟩⟩, ?_⟩
  · rw [wr (by omega) (by omega)]
    omega
  · simp
  · omega
  · show [AV.b false] = [AV.b (afterG n k 0 j)]
    unfold afterG
    rw [decide_eq_false (by omega)]
    rfl
  rintro m hm
  have hm : m ≤ n := hm
  have hq : k / 2 ^ m < 2 ^ 62 := Nat.lt_of_le_of_lt (Nat.div_le_self _ _) hk
  refine .inl ⟨fun hc => ?_, fun hc => ?_⟩
  · have hc : decide ((n : Int) - 1 - m ≥ 0) = true := hc
    rw [decide_eq_true_eq] at hc
    have hmn : m < n := by omega
    repeat refine Or.inl ?_
    refine ⟨by decide, ⟨⟨by omega, by omega⟩, by omega, ?_⟩⟩
    repeat refine Or.inl ?_
    refine ⟨by decide, ?_⟩
    refine ⟨m + 1, [], hmn, by dsimp only; omega, rfl, rfl, rfl, rfl, rfl, ⟨⟨rfl, ?_⟩, ⟨rfl, ?_⟩⟩, ⟨rfl, rfl, rfl, fun j hj => ?_⟩⟩
    · rw [wr (by omega) (by omega)]
      omega
    · show IntKind.i64.wrap (((k / 2 ^ m : Nat) : Int).tdiv 2) = ((k / 2 ^ (m + 1) : Nat) : Int)
      rw [Nat.pow_succ, ← Nat.div_div_eq_div_mul]
      generalize k / 2 ^ m = q at hq ⊢
      rw [Int.tdiv_eq_ediv_of_nonneg (by omega), wr (by omega) (by omega)]
      omega
    · show (if j = ((n : Int) - 1 - m).toNat then Go.Eng.over 0 [AV.b (((k / 2 ^ m : Nat) : Int).tmod 2 == 1)] [AV.b (afterG n k m j)] else [AV.b (afterG n k m j)]) = [AV.b (afterG n k (m + 1) j)]
      by_cases h : j = ((n : Int) - 1 - m).toNat
      · rw [if_pos h]
        have hb := after_bit n k j (by omega)
        rw [show n - 1 - j = m by omega] at hb
        unfold afterG
        rw [hb, decide_eq_true (show n - (m + 1) ≤ j by omega), Bool.true_and]
        generalize k / 2 ^ m = q
        rw [Int.tmod_eq_emod_of_nonneg (by omega)]
        have : ((q : Int) % 2 == 1) = decide (q % 2 = 1) := by
          rw [Bool.eq_iff_iff, beq_iff_eq, decide_eq_true_eq]
          omega
        rw [this]
        rfl
      · rw [if_neg h]
        unfold afterG
        have : decide (n - (m + 1) ≤ j) = decide (n - m ≤ j) := by rw [Bool.eq_iff_iff, decide_eq_true_eq, decide_eq_true_eq]; omega
        rw [this]
  · have hc : decide ((n : Int) - 1 - m ≥ 0) = false := hc
    rw [decide_eq_false_iff_not] at hc
    obtain rfl : m = n := by omega
    refine RetIs.so rfl (after_len m k).symm (fun j _ => ?_) (fun _ _ => rfl)
    show [AV.b (afterG m k m j)] = [AV.b ((after m k).getD j false)]
    unfold afterG
    rw [decide_eq_true (by omega), Bool.true_and]
end Go.Proofs.Ytilhaifmfiobhaa
end

section
/-
  First, Follows and Forced of the reference; Forced.
-/
namespace Go.Proofs.Ytilhaifmfiobhaa
open Go.Eng

theorem shl_one {n : Nat} (hn : n ≤ 20) : IntKind.i64.wrap (1 * 2 ^ (min (n : Int).toNat IntKind.i64.bits)) = ((2 ^ n : Nat) : Int) := by
  have h1 : min (n : Int).toNat IntKind.i64.bits = n := by
    rw [Int.toNat_natCast]
    exact Nat.min_eq_left (by show n ≤ 64; omega)
  have h2 : (2 : Nat) ^ n ≤ 2 ^ 20 := Nat.pow_le_pow_right (by decide) hn
  rw [h1, Int.one_mul]
  have h3 : (2 : Int) ^ n = ((2 ^ n : Nat) : Int) := by simp
  rw [h3]
  generalize 2 ^ n = q at h2 ⊢
  exact wr (by omega) (by omega)
theorem any_upto_succ {α : Type} (d : α) (p : α → Bool) (l : List α) (k : Nat) (h : k < l.length) : (l.take (k + 1)).any p = ((l.take k).any p || p (l.getD k d)) := by
  rw [List.take_succ_eq_append_getElem h, List.any_append]
  simp [List.getD, h]
theorem RetIs.so_i {k : IntKind} {c : Int} {e sz n n' : Nat} {get get' : Nat → List AV} {id nid : Nat} {O : List OE} (hg : getO id O = some ([], .row e sz n' get')) (hn : n' = n) (hget : ∀ k, k < n → get' k = get k) (hf : ∀ k, k < n → AV.freshs (get k) = true) :
    RetIs [.row e sz n get] (.tup [.so 0, .i k c]) (.tup [.so id, .i k c]) O nid := by
  subst hn
  refine ⟨[(0, id)], ⟨⟨⟨rfl, rfl, ?_⟩, trivial⟩, ⟨⟨rfl, rfl, trivial, ?_⟩, trivial⟩, rfl⟩, rfl, hf⟩
  · exact rfl
  · show (match AO.row e sz n' get, getO id O with
      | .dead, _ => True
      | o, some ([], o') => AOEq (o.ren (rn [(0, id)])) o'
      | _, _ => False)
    rw [hg]
    exact ⟨rfl, rfl, rfl, hget⟩
end Go.Proofs.Ytilhaifmfiobhaa
end

section
/-
  Refute, and that of the reference.
-/
namespace Go.Proofs.Ytilhaifmfiobhaa
open Go.Eng

end Go.Proofs.Ytilhaifmfiobhaa
end

section
/-
  The small examples.
-/
namespace Go.Proofs.Ytilhaifmfiobhaa
open Go.Eng

theorem two {p : Nat → Prop} (h0 : p 0) (h1 : p 1) : ∀ k, k < 2 → p k := by
  intro k hk
  match k, hk with
  | 0, _ => exact h0
  | 1, _ => exact h1
theorem one {p : Nat → Prop} (h0 : p 0) : ∀ k, k < 1 → p k := by
  intro k hk
  match k, hk with
  | 0, _ => exact h0
end Go.Proofs.Ytilhaifmfiobhaa
end

section
/-
  SatTells and SatDecides.
-/
namespace Go.Proofs.Ytilhaifmfiobhaa
open Go.Eng

theorem ints26_same (a : List Int) (ha : a.length < 2^62) : Ctr Try.prog 26 [.rs 1 a.length (rowsI a), .rs 1 a.length (rowsI a)] [] (.b true) := by
  have := ints26_fn a a ha ha
  rw [decide_eq_true rfl] at this
  exact this
theorem bools_same (a : List Bool) (ha : a.length < 2^62) : Ctr Try.prog 35 [.rs 1 a.length (rowsB a), .rs 1 a.length (rowsB a)] [] (.b true) := by
  have := bools_fn a a ha ha
  rw [decide_eq_true rfl] at this
  exact this
end Go.Proofs.Ytilhaifmfiobhaa
end

section
/-
  SatFirst.
-/
namespace Go.Proofs.Ytilhaifmfiobhaa
open Go.Eng

theorem getD_snocC (o : List Cl) (c : Cl) (q : Nat) : (o ++ [c]).getD q dC = if q < o.length then o.getD q dC else if q = o.length then c else dC := by
  simp only [List.getD]
  by_cases h : q < o.length
  · rw [if_pos h, List.getElem?_append_left h]
  · rw [if_neg h, List.getElem?_append_right (by omega)]
    by_cases h2 : q = o.length
    · rw [if_pos h2, h2]; simp
    · rw [if_neg h2, List.getElem?_eq_none (by simp; omega)]; rfl
theorem catC2 (o : List Cl) (c : Cl) : ∀ q, q < (o ++ [c]).length → catG o.length (rowsC o) (rowOf 2 c.av) q = rowsC (o ++ [c]) q := by
  intro q hq
  unfold catG rowsC
  rw [getD_snocC]
  by_cases h : q < o.length
  · rw [if_pos h, if_pos h]
  · rw [if_neg h, if_neg h]
    have : q = o.length := by simp at hq; omega
    subst this
    rw [Nat.sub_self, if_pos rfl]
    rfl
theorem snocC_row (o : List Cl) (c : Cl) {l : List Cl} (hl : l = o ++ [c]) : AOEq (.row 25 2 l.length (rowsC l)) (.row 25 2 (o.length + 1) (catG o.length (rowsC o) (rowOf 2 c.av))) := by
  subst hl
  exact ⟨rfl, rfl, by simp, catC2 o c⟩
end Go.Proofs.Ytilhaifmfiobhaa
end

section
/-
  Claims and proofs: the small functions, and what is right.
-/
namespace Go.Proofs.Ytilhaifmfiobhaa
open Go.Eng

set_option maxRecDepth 20000 in
theorem holds_fn (x : Int) (h0 : 0 ≤ x) (h1 : x < 1000000) : Ctr Try.prog 119 [.i .i64 x] [] (.i .i64 (2 * x)) := by
  refine fn_of_exec tabOk Try.func119 (by kernel_rfl) rfl (N := Try.f119.ntmps) rfl (res := [.tmp 2]) rfl rfl [] ?_
  refine RetIs.i ?_
  exact wr (by omega) (by omega)
set_option maxRecDepth 20000 in
theorem fails_fn (x : Int) (h0 : 0 ≤ x) (h1 : x < 1000000) : Ctr Try.prog 84 [.i .i64 x] [] (.i .i64 (2 * x + 1)) := by
  refine fn_of_exec tabOk Try.func84 (by kernel_rfl) rfl (N := Try.f84.ntmps) rfl (res := [.tmp 2]) rfl rfl [] ?_
  refine RetIs.i ?_
  rw [wr (n := 2 * x) (by omega) (by omega)]
  exact wr (by omega) (by omega)
theorem RetIs.agC {c d : Cl} {O : List OE} {nid : Nat} (h : d = c) : RetIs [] (.ag c.av) (.ag d.av) O nid := ⟨[], ⟨⟨⟨rfl, rfl, by subst h; exact AVEq.refl _⟩, trivial⟩, trivial, rfl⟩, rfl, trivial⟩
theorem clauseOf0 {p : Pf} (h : p.kind = 0) : clauseOf p = ⟨2 * p.a, 2 * p.a⟩ := if_pos h
theorem clauseOf1 {p : Pf} (h : p.kind = 1) : clauseOf p = ⟨2 * p.a + 1, 2 * p.a + 1⟩ := by unfold clauseOf; rw [if_neg (by omega), if_pos h]
theorem clauseOf2 {p : Pf} (h : p.kind = 2) : clauseOf p = ⟨2 * p.a, 2 * p.b⟩ := by unfold clauseOf; rw [if_neg (by omega), if_neg (by omega), if_pos h]
theorem clauseOf3 {p : Pf} (h : p.kind = 3) : clauseOf p = ⟨2 * p.a + 1, 2 * p.b + 1⟩ := by unfold clauseOf; rw [if_neg (by omega), if_neg (by omega), if_neg (by omega), if_pos h]
theorem clauseOf4 {p : Pf} (h0 : p.kind ≠ 0) (h1 : p.kind ≠ 1) (h2 : p.kind ≠ 2) (h3 : p.kind ≠ 3) : clauseOf p = ⟨2 * p.a + 1, 2 * p.b⟩ := by unfold clauseOf; rw [if_neg h0, if_neg h1, if_neg h2, if_neg h3]

set_option maxRecDepth 20000 in
set_option maxHeartbeats 1000000 in
theorem clause_fn (p : Pf) (ha : 0 ≤ p.a ∧ p.a < 1000000) (hb : 0 ≤ p.b ∧ p.b < 1000000) : Ctr Try.prog 85 [.ag p.av] [] (.ag (clauseOf p).av) := by
  refine fn_of_exec tabOk Try.func85 (by kernel_rfl) rfl (N := Try.f85.ntmps) rfl (res := [.cell 2 25]) rfl rfl [] ?_
  have Ha := holds_fn p.a ha.1 ha.2
  have Hb := holds_fn p.b hb.1 hb.2
  have Fa := fails_fn p.a ha.1 ha.2
  have Fb := fails_fn p.b hb.1 hb.2
  repeat refine Or.inl ?_
  refine ⟨fun h0 => ?_, fun h0 => ?_⟩
  · have h0 : (p.kind == 0) = true := h0
    repeat refine Or.inl ?_
    refine ⟨[], _, Ha, ?_⟩
    repeat refine Or.inl ?_
    refine ⟨[], _, Ha, ?_⟩
    exact RetIs.agC (d := ⟨2 * p.a, 2 * p.a⟩) (clauseOf0 (beq_iff_eq.1 h0)).symm
  have h0 : (p.kind == 0) = false := h0
  repeat refine Or.inl ?_
  refine ⟨fun h1 => ?_, fun h1 => ?_⟩
  · have h1 : (p.kind == 1) = true := h1
    repeat refine Or.inl ?_
    refine ⟨[], _, Fa, ?_⟩
    repeat refine Or.inl ?_
    refine ⟨[], _, Fa, ?_⟩
    exact RetIs.agC (d := ⟨2 * p.a + 1, 2 * p.a + 1⟩) (clauseOf1 (beq_iff_eq.1 h1)).symm
  have h1 : (p.kind == 1) = false := h1
  repeat refine Or.inl ?_
  refine ⟨fun h2 => ?_, fun h2 => ?_⟩
  · have h2 : (p.kind == 2) = true := h2
    repeat refine Or.inl ?_
    refine ⟨[], _, Ha, ?_⟩
    repeat refine Or.inl ?_
    refine ⟨[], _, Hb, ?_⟩
    exact RetIs.agC (d := ⟨2 * p.a, 2 * p.b⟩) (clauseOf2 (beq_iff_eq.1 h2)).symm
  have h2 : (p.kind == 2) = false := h2
  repeat refine Or.inl ?_
  refine ⟨fun h3 => ?_, fun h3 => ?_⟩
  · have h3 : (p.kind == 3) = true := h3
    repeat refine Or.inl ?_
    refine ⟨[], _, Fa, ?_⟩
    repeat refine Or.inl ?_
    refine ⟨[], _, Fb, ?_⟩
    exact RetIs.agC (d := ⟨2 * p.a + 1, 2 * p.b + 1⟩) (clauseOf3 (beq_iff_eq.1 h3)).symm
  have h3 : (p.kind == 3) = false := h3
  repeat refine Or.inl ?_
  refine ⟨[], _, Fa, ?_⟩
  repeat refine Or.inl ?_
  refine ⟨[], _, Hb, ?_⟩
  exact RetIs.agC (d := ⟨2 * p.a + 1, 2 * p.b⟩) (clauseOf4 (beq_eq_false_iff_ne.1 h0) (beq_eq_false_iff_ne.1 h1) (beq_eq_false_iff_ne.1 h2) (beq_eq_false_iff_ne.1 h3)).symm

set_option maxRecDepth 20000 in
set_option maxHeartbeats 1000000 in
theorem rClause_fn (p : Pf) (ha : 0 ≤ p.a ∧ p.a < 1000000) (hb : 0 ≤ p.b ∧ p.b < 1000000) : Ctr Try.prog 86 [.ag p.av] [] (.ag (clauseOf p).av) := by
  refine fn_of_exec tabOk Try.func86 (by kernel_rfl) rfl (N := Try.f86.ntmps) rfl (res := [.cell 2 25]) rfl rfl [] ?_
  have wa : IntKind.i64.wrap (2 * p.a) = 2 * p.a := wr (by omega) (by omega)
  have wb : IntKind.i64.wrap (2 * p.b) = 2 * p.b := wr (by omega) (by omega)
  have va : IntKind.i64.wrap (IntKind.i64.wrap (2 * p.a) + 1) = 2 * p.a + 1 := by rw [wa]; exact wr (by omega) (by omega)
  have vb : IntKind.i64.wrap (IntKind.i64.wrap (2 * p.b) + 1) = 2 * p.b + 1 := by rw [wb]; exact wr (by omega) (by omega)
  repeat refine Or.inl ?_
  refine ⟨fun h0 => ?_, fun h0 => ?_⟩
  · have h0 : (p.kind == 0) = true := h0
    exact RetIs.agC (d := ⟨IntKind.i64.wrap (2 * p.a), IntKind.i64.wrap (2 * p.a)⟩) (by rw [wa]; exact (clauseOf0 (beq_iff_eq.1 h0)).symm)
  have h0 : (p.kind == 0) = false := h0
  repeat refine Or.inl ?_
  refine ⟨fun h1 => ?_, fun h1 => ?_⟩
  · have h1 : (p.kind == 1) = true := h1
    exact RetIs.agC (d := ⟨IntKind.i64.wrap (IntKind.i64.wrap (2 * p.a) + 1), IntKind.i64.wrap (IntKind.i64.wrap (2 * p.a) + 1)⟩) (by rw [va]; exact (clauseOf1 (beq_iff_eq.1 h1)).symm)
  have h1 : (p.kind == 1) = false := h1
  repeat refine Or.inl ?_
  refine ⟨fun h2 => ?_, fun h2 => ?_⟩
  · have h2 : (p.kind == 2) = true := h2
    exact RetIs.agC (d := ⟨IntKind.i64.wrap (2 * p.a), IntKind.i64.wrap (2 * p.b)⟩) (by rw [wa, wb]; exact (clauseOf2 (beq_iff_eq.1 h2)).symm)
  have h2 : (p.kind == 2) = false := h2
  repeat refine Or.inl ?_
  refine ⟨fun h3 => ?_, fun h3 => ?_⟩
  · have h3 : (p.kind == 3) = true := h3
    exact RetIs.agC (d := ⟨IntKind.i64.wrap (IntKind.i64.wrap (2 * p.a) + 1), IntKind.i64.wrap (IntKind.i64.wrap (2 * p.b) + 1)⟩) (by rw [va, vb]; exact (clauseOf3 (beq_iff_eq.1 h3)).symm)
  have h3 : (p.kind == 3) = false := h3
  exact RetIs.agC (d := ⟨IntKind.i64.wrap (IntKind.i64.wrap (2 * p.a) + 1), IntKind.i64.wrap (2 * p.b)⟩) (by rw [va, wb]; exact (clauseOf4 (beq_eq_false_iff_ne.1 h0) (beq_eq_false_iff_ne.1 h1) (beq_eq_false_iff_ne.1 h2) (beq_eq_false_iff_ne.1 h3)).symm)

set_option maxRecDepth 20000 in
theorem rightP1_fn (n : Nat) (p : Pf) : Ctr Try.prog 88 [.ag p.av, .rp [.i .i64 n]] [] (.b (!pfB n p)) := by
  refine fn_of_exec tabOk Try.func88 (by kernel_rfl) rfl (N := Try.f88.ntmps) rfl (res := [.tmp 3]) rfl rfl [] ?_
  refine RetIs.b ?_
  show ((((((decide (p.kind < 0) || decide (p.kind ≥ 5)) || decide (p.a < 0)) || decide (p.a ≥ (n : Int))) || decide (p.b < 0)) || decide (p.b ≥ (n : Int))) || (((p.kind == 0) || (p.kind == 1)) && (p.b != 0))) = !pfB n p
  rw [Bool.eq_iff_iff, Bool.not_eq_true', ← Bool.not_eq_true, pfB_iff]
  simp only [Bool.or_eq_true, Bool.and_eq_true, decide_eq_true_eq, beq_iff_eq, bne_iff_ne]
  omega
end Go.Proofs.Ytilhaifmfiobhaa
end

section
/-
  Claims and proofs: what is right, and the clauses.
-/
namespace Go.Proofs.Ytilhaifmfiobhaa
open Go.Eng

instance : DecidableEq Cm := fun a b => if h : a.acc = b.acc ∧ a.per = b.per then isTrue (Cm.ext' h.1 h.2) else isFalse (by rintro rfl; exact h ⟨rfl, rfl⟩)
def kfM (c : Cm) : AV := .ag c.av
theorem kfM_inj : ∀ a b : Cm, kfM a = kfM b → a = b := by
  intro a b h
  unfold kfM Cm.av at h
  simp at h
  exact Cm.ext' h.1 h.2
def goodC (C : List Cm) (k : Nat) : Bool := cmB (C.getD k dCm) && !seenB C (C.getD k dCm) k
theorem rightCP_size {C : List Cm} {P : List Pf} (h : ¬ (C.length ≤ 200 ∧ P.length ≤ 400)) : rightCP C P = false := by
  rw [Bool.eq_false_iff]
  intro hf
  have := rightCP_iff.1 hf
  exact h ⟨this.lc, this.lp⟩
theorem rightCP_bad {C : List Cm} {P : List Pf} {k : Nat} (hk : k < C.length) (h : goodC C k = false) : rightCP C P = false := by
  rw [Bool.eq_false_iff]
  intro hf
  unfold rightCP at hf
  rw [Bool.and_eq_true, Bool.and_eq_true] at hf
  have := List.all_eq_true.1 hf.1.2 k (List.mem_range.2 hk)
  unfold goodC at h
  rw [this] at h
  cases h
theorem rightCP_rest {C : List Cm} {P : List Pf} (h1 : C.length ≤ 200) (h2 : P.length ≤ 400) (h : ∀ k, k < C.length → goodC C k = true) : rightCP C P = P.all (pfB C.length) := by
  unfold rightCP
  rw [decide_eq_true h1, decide_eq_true h2, show ((List.range C.length).all fun k => cmB (C.getD k dCm) && !seenB C (C.getD k dCm) k) = true from List.all_eq_true.2 fun k hk => h k (List.mem_range.1 hk)]
  rfl
theorem seenB_succ (C : List Cm) (c : Cm) (k : Nat) : seenB C c (k + 1) = (seenB C c k || cmEq (C.getD k dCm) c) := by
  unfold seenB
  rw [List.range_succ, List.any_append]
  simp
theorem cmB_calc (c : Cm) : ((((decide (c.acc < 0) || decide (c.acc ≥ 2000)) || decide (c.per < 0)) || decide (c.per ≥ 2000)) : Bool) = !cmB c := by
  unfold cmB
  rw [Bool.eq_iff_iff]
  simp only [Bool.or_eq_true, decide_eq_true_eq, Bool.not_eq_true', Bool.and_eq_false_iff, decide_eq_false_iff_not]
  omega

set_option maxRecDepth 20000 in
set_option maxHeartbeats 4000000 in
theorem ClaimRight_fn (C : List Cm) (P : List Pf) (hC : C.length < 2 ^ 62) (hP : P.length < 2 ^ 62) : Ctr Try.prog 40 [.rs 2 C.length (rowsM C), .rs 3 P.length (rowsP P)] [] (.b (rightCP C P)) := by
  refine fn_of_exec tabOk Try.func40 (by kernel_rfl) rfl (N := Try.f40.ntmps) rfl (res := [.tmp 4]) rfl rfl [] ?_
  repeat refine Or.inl ?_
  refine ⟨fun h => RetIs.b ?_, fun h => ?_⟩
  · have h : (decide ((C.length : Int) > 200) || decide ((P.length : Int) > 400)) = true := h
    simp only [Bool.or_eq_true, decide_eq_true_eq] at h
    exact (rightCP_size (by omega)).symm
  have h : (decide ((C.length : Int) > 200) || decide ((P.length : Int) > 400)) = false := h
  simp only [Bool.or_eq_false_iff, decide_eq_false_iff_not] at h
  repeat refine Or.inl ?_
  refine ⟨[], Nat × List (Cm × Bool), fun x => x.1 ≤ C.length ∧ (∀ j, j < x.1 → goodC C j = true) ∧ ∀ c, mget x.2 c = if seenB C c x.1 = true then some true else none, fun x => [⟨21, [], .i .i64 x.1⟩], fun x => [⟨1, [], mpL kfM (fun b : Bool => AV.b b) (dCm, false) x.2⟩], fun x => C.length - x.1,
    ⟨(0, []), [], ⟨Nat.zero_le _, fun j hj => absurd hj (Nat.not_lt_zero j), fun c => rfl⟩, rfl, rfl, rfl, rfl, rfl, ⟨rfl, rfl⟩, ⟨rfl, rfl, fun k hk => absurd hk (Nat.not_lt_zero k)⟩⟩, ?_⟩
  rintro ⟨k, L⟩ ⟨hk, hgood, hL⟩
  dsimp only at hk hgood hL
  refine .inl ⟨fun hc => ?_, fun hc => ?_⟩
  · have hc := dlt hc
    have hc : (k : Int) < C.length := hc
    have ek : (k : Int).toNat = k := Int.toNat_natCast k
    repeat refine Or.inl ?_
    refine ⟨⟨by dsimp only; omega, by dsimp only; omega⟩, ?_⟩
    have lk := lookOk_mget (L := L) (d := (dCm, false)) (vf := fun v : Bool => AV.b v) kfM_inj (C.getD (k : Int).toNat dCm) false
    have hs : (mget L (C.getD (k : Int).toNat dCm)).getD false = seenB C (C.getD k dCm) k := by
      rw [hL, ek]
      cases seenB C (C.getD k dCm) k <;> rfl
    repeat refine Or.inl ?_
    refine ⟨_, _, ⟨fun _ => ⟨fun _ _ => rfl, rfl, lk⟩, ?_⟩⟩
    refine ⟨fun h3 => RetIs.b ?_, fun h3 => ?_⟩
    · have h3 : (((((decide ((C.getD (k : Int).toNat dCm).acc < 0) || decide ((C.getD (k : Int).toNat dCm).acc ≥ 2000)) || decide ((C.getD (k : Int).toNat dCm).per < 0)) || decide ((C.getD (k : Int).toNat dCm).per ≥ 2000))) || (mget L (C.getD (k : Int).toNat dCm)).getD false) = true := h3
      rw [hs, cmB_calc, ek] at h3
      refine (rightCP_bad (k := k) (by omega) ?_).symm
      unfold goodC
      cases hx : cmB (C.getD k dCm) with
      | false => rfl
      | true =>
        rw [hx] at h3
        rw [show seenB C (C.getD k dCm) k = true from h3]
        rfl
    · have h3 : (((((decide ((C.getD (k : Int).toNat dCm).acc < 0) || decide ((C.getD (k : Int).toNat dCm).acc ≥ 2000)) || decide ((C.getD (k : Int).toNat dCm).per < 0)) || decide ((C.getD (k : Int).toNat dCm).per ≥ 2000))) || (mget L (C.getD (k : Int).toNat dCm)).getD false) = false := h3
      rw [hs, cmB_calc, ek, Bool.or_eq_false_iff, Bool.not_eq_false'] at h3
      refine ⟨_, _, _, _, _, ⟨fun _ _ => rfl, rfl, updOk_mset (L := L) (d := (dCm, false)) (vf := fun v : Bool => AV.b v) kfM_inj (C.getD (k : Int).toNat dCm) true⟩, ?_⟩
      have ao := AOEq.refl (mpL kfM (fun b : Bool => AV.b b) (dCm, false) (mset L (C.getD (k : Int).toNat dCm) true))
      refine ⟨(k + 1, mset L (C.getD (k : Int).toNat dCm) true), [], ⟨by dsimp only; omega, fun j hj => ?_, fun c => ?_⟩, by dsimp only; omega, rfl, rfl, rfl, rfl, rfl, ⟨rfl, wr (by omega) (by omega)⟩, ao⟩
      · have hj : j < k + 1 := hj
        by_cases hjk : j = k
        · subst hjk
          unfold goodC
          rw [h3.1, h3.2]
          rfl
        · exact hgood j (by omega)
      · show mget (mset L (C.getD (k : Int).toNat dCm) true) c = if seenB C c (k + 1) = true then some true else none
        rw [mget_mset, hL, ek, seenB_succ]
        by_cases hcc : c = C.getD k dCm
        · rw [if_pos hcc, cmEq_iff.2 hcc.symm, Bool.or_true, if_pos rfl]
        · rw [if_neg hcc, show cmEq (C.getD k dCm) c = false by rw [Bool.eq_false_iff]; exact fun h => hcc (cmEq_iff.1 h).symm, Bool.or_false]
  · have hc := dnlt hc
    have hc : (C.length : Int) ≤ k := hc
    obtain rfl : k = C.length := by omega
    repeat refine Or.inl ?_
    refine ⟨[], _, containsP1_fn P hP 88 [.i .i64 C.length] (fun p => !pfB C.length p) (fun x _ => rightP1_fn C.length x), ?_⟩
    refine RetIs.b ?_
    rw [rightCP_rest (by omega) (by omega) hgood]
    rw [Bool.eq_iff_iff, Bool.not_eq_true', List.any_eq_false, List.all_eq_true]
    exact forall_congr' fun x => forall_congr' fun _ => by simp

set_option maxRecDepth 20000 in
set_option maxHeartbeats 4000000 in
theorem rClaimRight_fn (C : List Cm) (P : List Pf) (hC : C.length < 2 ^ 62) (hP : P.length < 2 ^ 62) : Ctr Try.prog 41 [.rs 2 C.length (rowsM C), .rs 3 P.length (rowsP P)] [] (.b (rightCP C P)) := by
  refine fn_of_exec tabOk Try.func41 (by kernel_rfl) rfl (N := Try.f41.ntmps) rfl (res := [.tmp 4]) rfl rfl [] ?_
  repeat refine Or.inl ?_
  refine ⟨fun h => RetIs.b ?_, fun h => ?_⟩
  · have h : (decide ((C.length : Int) > 200) || decide ((P.length : Int) > 400)) = true := h
    simp only [Bool.or_eq_true, decide_eq_true_eq] at h
    exact (rightCP_size (by omega)).symm
  have h : (decide ((C.length : Int) > 200) || decide ((P.length : Int) > 400)) = false := h
  simp only [Bool.or_eq_false_iff, decide_eq_false_iff_not] at h
  repeat refine Or.inl ?_
  refine ⟨[], Nat, fun k => k ≤ C.length ∧ (∀ j, j < k → goodC C j = true), fun k => [⟨5, [], .i .i64 k⟩], fun _ => [], fun k => C.length - k,
    ⟨0, [], ⟨Nat.zero_le _, fun j hj => absurd hj (Nat.not_lt_zero j)⟩, rfl, rfl, rfl, rfl, rfl, ⟨rfl, rfl⟩, trivial⟩, ?_⟩
  rintro k ⟨hk, hgood⟩
  refine .inl ⟨fun hc => ?_, fun hc => ?_⟩
  · have hc := dlt hc
    have hc : (k : Int) < C.length := hc
    have ek : (k : Int).toNat = k := Int.toNat_natCast k
    repeat refine Or.inl ?_
    refine ⟨⟨by omega, by omega⟩, ?_⟩
    repeat refine Or.inl ?_
    refine ⟨fun h3 => RetIs.b ?_, fun h3 => ?_⟩
    · have h3 : ((((decide ((C.getD (k : Int).toNat dCm).acc < 0) || decide ((C.getD (k : Int).toNat dCm).acc ≥ 2000)) || decide ((C.getD (k : Int).toNat dCm).per < 0)) || decide ((C.getD (k : Int).toNat dCm).per ≥ 2000))) = true := h3
      rw [cmB_calc, ek, Bool.not_eq_true'] at h3
      refine (rightCP_bad (k := k) (by omega) ?_).symm
      unfold goodC
      rw [h3]
      rfl
    have h3 : ((((decide ((C.getD (k : Int).toNat dCm).acc < 0) || decide ((C.getD (k : Int).toNat dCm).acc ≥ 2000)) || decide ((C.getD (k : Int).toNat dCm).per < 0)) || decide ((C.getD (k : Int).toNat dCm).per ≥ 2000))) = false := h3
    rw [cmB_calc, ek, Bool.not_eq_false'] at h3
    repeat refine Or.inl ?_
    refine ⟨[], Nat, fun m => m ≤ k ∧ seenB C (C.getD k dCm) m = false, fun m => [⟨7, [], .i .i64 m⟩], fun _ => [], fun m => k - m,
      ⟨0, [], ⟨Nat.zero_le _, rfl⟩, rfl, rfl, rfl, rfl, rfl, ⟨rfl, rfl⟩, trivial⟩, ?_⟩
    rintro m ⟨hm, hns⟩
    refine .inl ⟨fun hc2 => ?_, fun hc2 => ?_⟩
    · have hc2 := dlt hc2
      have hc2 : (m : Int) < k := hc2
      have em : (m : Int).toNat = m := Int.toNat_natCast m
      repeat refine Or.inl ?_
      refine ⟨⟨by omega, by omega⟩, ⟨fun h4 => RetIs.b ?_, fun h4 => ?_⟩⟩
      · have h4 : (((C.getD (m : Int).toNat dCm).acc == (C.getD (k : Int).toNat dCm).acc) && ((C.getD (m : Int).toNat dCm).per == (C.getD (k : Int).toNat dCm).per)) = true := h4
        rw [em, ek, Bool.and_eq_true, beq_iff_eq, beq_iff_eq] at h4
        refine (rightCP_bad (k := k) (by omega) ?_).symm
        unfold goodC
        have : seenB C (C.getD k dCm) k = true := by
          unfold seenB
          rw [List.any_eq_true]
          exact ⟨m, List.mem_range.2 (by omega), cmEq_iff.2 (Cm.ext' h4.1 h4.2)⟩
        rw [this, Bool.not_true, Bool.and_false]
      · have h4 : (((C.getD (m : Int).toNat dCm).acc == (C.getD (k : Int).toNat dCm).acc) && ((C.getD (m : Int).toNat dCm).per == (C.getD (k : Int).toNat dCm).per)) = false := h4
        rw [em, ek] at h4
        refine ⟨m + 1, [], ⟨by omega, ?_⟩, by dsimp only; omega, rfl, rfl, rfl, rfl, rfl, ⟨rfl, wr (by omega) (by omega)⟩, trivial⟩
        rw [seenB_succ, hns, Bool.false_or]
        have b : ∀ x y : Int, decide (x = y) = (x == y) := fun x y => by rw [Bool.eq_iff_iff, decide_eq_true_eq, beq_iff_eq]
        unfold cmEq
        rw [b, b]
        exact h4
    · have hc2 := dnlt hc2
      have hc2 : (k : Int) ≤ m := hc2
      obtain rfl : m = k := by omega
      refine ⟨m + 1, [], ⟨by omega, fun j hj => ?_⟩, by dsimp only; omega, rfl, rfl, rfl, rfl, rfl, ⟨rfl, wr (by omega) (by omega)⟩, trivial⟩
      by_cases hjk : j = m
      · subst hjk
        unfold goodC
        rw [h3, hns]
        rfl
      · exact hgood j (by omega)
  have hc := dnlt hc
  have hc : (C.length : Int) ≤ k := hc
  obtain rfl : k = C.length := by omega
  have hrest := rightCP_rest (P := P) (by omega) (by omega) hgood
  repeat refine Or.inl ?_
  refine ⟨[], Nat, fun q => q ≤ P.length ∧ (∀ j, j < q → pfB C.length (P.getD j dPf) = true), fun q => [⟨8, [], .i .i64 q⟩], fun _ => [], fun q => P.length - q,
    ⟨0, [], ⟨Nat.zero_le _, fun j hj => absurd hj (Nat.not_lt_zero j)⟩, rfl, rfl, rfl, rfl, rfl, ⟨rfl, rfl⟩, trivial⟩, ?_⟩
  rintro q ⟨hq, hok⟩
  refine .inl ⟨fun hc => ?_, fun hc => ?_⟩
  · have hc := dlt hc
    have hc : (q : Int) < P.length := hc
    have eq : (q : Int).toNat = q := Int.toNat_natCast q
    have key : ∀ p : Pf, ((((((decide (p.kind < 0) || decide (p.kind ≥ 5)) || decide (p.a < 0)) || decide (p.a ≥ (C.length : Int))) || (((p.kind == 0) || (p.kind == 1)) && (p.b != 0))) || decide (p.b < 0)) || decide (p.b ≥ (C.length : Int))) = !pfB C.length p := fun p => by
      rw [Bool.eq_iff_iff, Bool.not_eq_true', ← Bool.not_eq_true, pfB_iff]
      simp only [Bool.or_eq_true, Bool.and_eq_true, decide_eq_true_eq, beq_iff_eq, bne_iff_ne]
      omega
    repeat refine Or.inl ?_
    refine ⟨⟨by omega, by omega⟩, ?_⟩
    repeat refine Or.inl ?_
    refine ⟨fun h4 => RetIs.b ?_, fun h4 => ?_⟩
    · have h4 := (key (P.getD (q : Int).toNat dPf)).symm.trans h4
      rw [eq, Bool.not_eq_true'] at h4
      rw [hrest]
      exact (not_all dPf (by omega) h4).symm
    · have h4 := (key (P.getD (q : Int).toNat dPf)).symm.trans h4
      rw [eq, Bool.not_eq_false'] at h4
      refine ⟨q + 1, [], ⟨by omega, fun j hj => ?_⟩, by dsimp only; omega, rfl, rfl, rfl, rfl, rfl, ⟨rfl, wr (by omega) (by omega)⟩, trivial⟩
      by_cases hjk : j = q
      · rw [hjk]; exact h4
      · exact hok j (by omega)
  · have hc := dnlt hc
    have hc : (P.length : Int) ≤ q := hc
    obtain rfl : q = P.length := by omega
    refine RetIs.b ?_
    rw [hrest]
    exact (all_upto dPf hok).symm
end Go.Proofs.Ytilhaifmfiobhaa
end

section
/-
  Claims and proofs: Clauses, both ways.
-/
namespace Go.Proofs.Ytilhaifmfiobhaa
open Go.Eng

def okCO (y : List Cl × Int) : List AO := if y.2 = 0 then [.row 25 2 y.1.length (rowsC y.1)] else []
def okCR (y : List Cl × Int) : AV := .tup [if y.2 = 0 then .so 0 else .val (.slice none 0 0), .i .i64 y.2]
theorem clausesY_bad {C : List Cm} {P : List Pf} (h : rightCP C P = false) : clausesY C P = ([], 1) := by
  unfold clausesY
  rw [h]
  rfl
theorem clausesY_big {C : List Cm} {P : List Pf} (h : rightCP C P = true) (h2 : 4000 < (clausesL C P).length) : clausesY C P = ([], 6) := by
  unfold clausesY
  rw [h, if_pos rfl, if_pos h2]
theorem clausesY_ok {C : List Cm} {P : List Pf} (h : rightCP C P = true) (h2 : (clausesL C P).length ≤ 4000) : clausesY C P = (clausesL C P, 0) := by
  unfold clausesY
  rw [h, if_pos rfl, if_neg (by omega)]
theorem pairsL_pos {C : List Cm} {k m : Nat} (h : (C.getD k dCm).acc = (C.getD m dCm).acc) : pairsL C k (m + 1) = pairsL C k m ++ [⟨2 * (m : Int) + 1, 2 * (k : Int) + 1⟩] := by
  rw [pairsL_succ, if_pos h]
theorem pairsL_neg {C : List Cm} {k m : Nat} (h : (C.getD k dCm).acc ≠ (C.getD m dCm).acc) : pairsL C k (m + 1) = pairsL C k m := by
  rw [pairsL_succ, if_neg h, List.append_nil]
theorem base_short {C : List Cm} {k m : Nat} (hC : C.length ≤ 200) (hk : k ≤ C.length) (hm : m ≤ 200) : (baseL C k ++ pairsL C k m).length ≤ 40400 := by
  have h1 := baseL_len C 200 k (by omega)
  have h2 := pairsL_len C k m
  have h3 : k * 200 ≤ 200 * 200 := Nat.mul_le_mul_right _ (by omega)
  rw [List.length_append]
  omega
theorem proofs_short {C : List Cm} {P : List Pf} {q : Nat} (hC : C.length ≤ 200) (hP : P.length ≤ 400) : (baseL C C.length ++ (P.take q).map clauseOf).length ≤ 40900 := by
  have h1 := base_short (m := 0) hC (Nat.le_refl _) (by omega)
  simp only [List.length_append, List.length_map, List.length_take] at h1 ⊢
  omega
theorem take_map_snoc (P : List Pf) {q : Nat} (h : q < P.length) : (P.take (q + 1)).map clauseOf = (P.take q).map clauseOf ++ [clauseOf (P.getD q dPf)] := by
  rw [List.take_succ_eq_append_getElem h, List.map_append]
  simp [List.getD, h]
theorem pf_small {C : List Cm} {P : List Pf} (h : RightCP C P) {q : Nat} (hq : q < P.length) : (0 ≤ (P.getD q dPf).a ∧ (P.getD q dPf).a < 1000000) ∧ (0 ≤ (P.getD q dPf).b ∧ (P.getD q dPf).b < 1000000) := by
  have h1 := h.pf _ (getD_memA dPf hq)
  have h2 := h.lc
  omega

set_option maxRecDepth 20000 in
set_option maxHeartbeats 4000000 in
theorem Clauses_fn (C : List Cm) (P : List Pf) (hC : C.length < 2 ^ 62) (hP : P.length < 2 ^ 62) : Ctr Try.prog 38 [.rs 2 C.length (rowsM C), .rs 3 P.length (rowsP P)] (okCO (clausesY C P)) (okCR (clausesY C P)) := by
  refine fn_of_exec tabOk Try.func38 (by kernel_rfl) rfl (N := Try.f38.ntmps) rfl (res := [.tmp 4, .tmp 5]) rfl rfl [] ?_
  repeat refine Or.inl ?_
  refine ⟨[], _, ClaimRight_fn C P hC hP, ?_⟩
  repeat refine Or.inl ?_
  refine ⟨fun h => ?_, fun h => ?_⟩
  · have h : (!rightCP C P) = true := h
    rw [clausesY_bad (show rightCP C P = false by simpa using h)]
    exact ⟨⟨[], ⟨⟨⟨rfl, rfl, AVEq.refl _⟩, trivial⟩, trivial, rfl⟩, rfl, trivial⟩⟩
  have h : (!rightCP C P) = false := h
  have hrt : rightCP C P = true := by simpa using h
  have hR := rightCP_iff.1 hrt
  have hlc := hR.lc
  have hlp := hR.lp
  repeat refine Or.inl ?_
  refine ⟨[(6, 25, 2)], Nat, fun k => k ≤ C.length, fun k => [⟨19, [], .i .i64 k⟩, ⟨6, [], .so 0⟩], fun k => [⟨0, [], .row 25 2 (baseL C k).length (rowsC (baseL C k))⟩], fun k => C.length - k,
    ⟨0, [], Nat.zero_le _, rfl, rfl, rfl, rfl, rfl, ⟨⟨rfl, rfl⟩, rfl⟩, ⟨rfl, rfl, rfl, fun j hj => absurd hj (Nat.not_lt_zero j)⟩⟩, ?_⟩
  intro k hk
  have hk : k ≤ C.length := hk
  refine .inl ⟨fun hc => ?_, fun hc => ?_⟩
  · have hc := dlt hc
    have hc : (k : Int) < C.length := hc
    have ek : (k : Int).toNat = k := Int.toNat_natCast k
    repeat refine Or.inl ?_
    refine ⟨⟨by omega, by omega⟩, ?_⟩
    repeat refine Or.inl ?_
    refine ⟨⟨by omega, by omega, by omega⟩, ?_⟩
    repeat refine Or.inl ?_
    refine ⟨[], Nat, fun m => m ≤ k, fun m => [⟨28, [], .i .i64 m⟩, ⟨6, [], .so 0⟩], fun m => [⟨0, [], .row 25 2 (baseL C k ++ pairsL C k m).length (rowsC (baseL C k ++ pairsL C k m))⟩], fun m => k - m,
      ⟨0, [], Nat.zero_le _, rfl, rfl, rfl, rfl, rfl, ⟨⟨rfl, rfl⟩, rfl⟩, ?_⟩, ?_⟩
    · have ao : AOEq (.row 25 2 (baseL C k ++ pairsL C k 0).length (rowsC (baseL C k ++ pairsL C k 0))) (.row 25 2 (baseL C k).length (rowsC (baseL C k))) := by
        rw [show pairsL C k 0 = [] from rfl, List.append_nil]
        exact AOEq.refl _
      exact ao
    intro m hm
    have hm : m ≤ k := hm
    have hsh := base_short (m := m) hlc hk (by omega)
    refine .inl ⟨fun hc2 => ?_, fun hc2 => ?_⟩
    · have hc2 := dlt hc2
      have hc2 : (m : Int) < (((k : Int) - 0).toNat : Int) := hc2
      have hmk : m < k := by omega
      have em : Int.toNat 0 + (m : Int).toNat = m := by rw [Int.toNat_natCast]; exact Nat.zero_add m
      repeat refine Or.inl ?_
      refine ⟨⟨by omega, by omega⟩, ?_⟩
      repeat refine Or.inl ?_
      refine ⟨fun h4 => ?_, fun h4 => ?_⟩
      · have h4 : ((C.getD (k : Int).toNat dCm).acc == (C.getD (Int.toNat 0 + (m : Int).toNat) dCm).acc) = true := h4
        rw [ek, em, beq_iff_eq] at h4
        repeat refine Or.inl ?_
        refine ⟨[], _, fails_fn (m : Int) (by omega) (by omega), ?_⟩
        repeat refine Or.inl ?_
        refine ⟨[], _, fails_fn (k : Int) (by omega) (by omega), ?_⟩
        refine ⟨fits (by omega), ?_⟩
        refine ⟨m + 1, [(0, 4)], hmk, by dsimp only; omega, rfl, rfl, rfl, rfl, rfl, ⟨⟨rfl, wr (by omega) (by omega)⟩, rfl⟩, ?_⟩
        exact snocC_row _ ⟨2 * (m : Int) + 1, 2 * (k : Int) + 1⟩ (by rw [pairsL_pos h4, List.append_assoc])
      · have h4 : ((C.getD (k : Int).toNat dCm).acc == (C.getD (Int.toNat 0 + (m : Int).toNat) dCm).acc) = false := h4
        rw [ek, em, beq_eq_false_iff_ne] at h4
        refine ⟨m + 1, [], hmk, by dsimp only; omega, rfl, rfl, rfl, rfl, rfl, ⟨⟨rfl, wr (by omega) (by omega)⟩, rfl⟩, ?_⟩
        have ao : AOEq (.row 25 2 (baseL C k ++ pairsL C k (m + 1)).length (rowsC (baseL C k ++ pairsL C k (m + 1)))) (.row 25 2 (baseL C k ++ pairsL C k m).length (rowsC (baseL C k ++ pairsL C k m))) := by
          rw [pairsL_neg h4]
          exact AOEq.refl _
        exact ao
    · have hc2 := dnlt hc2
      have hc2 : (((k : Int) - 0).toNat : Int) ≤ m := hc2
      obtain rfl : m = k := by omega
      refine ⟨m + 1, [], by dsimp only; omega, by dsimp only; omega, rfl, rfl, rfl, rfl, rfl, ⟨⟨rfl, wr (by omega) (by omega)⟩, rfl⟩, ?_⟩
      have ao : AOEq (.row 25 2 (baseL C (m + 1)).length (rowsC (baseL C (m + 1)))) (.row 25 2 (baseL C m ++ pairsL C m m).length (rowsC (baseL C m ++ pairsL C m m))) := by
        rw [baseL_succ]
        exact AOEq.refl _
      exact ao
  have hc := dnlt hc
  have hc : (C.length : Int) ≤ k := hc
  obtain rfl : k = C.length := by omega
  repeat refine Or.inl ?_
  refine ⟨[], Nat, fun q => q ≤ P.length, fun q => [⟨50, [], .i .i64 q⟩, ⟨6, [], .so 0⟩], fun q => [⟨0, [], .row 25 2 (baseL C C.length ++ (P.take q).map clauseOf).length (rowsC (baseL C C.length ++ (P.take q).map clauseOf))⟩], fun q => P.length - q,
    ⟨0, [], Nat.zero_le _, rfl, rfl, rfl, rfl, rfl, ⟨⟨rfl, rfl⟩, rfl⟩, ?_⟩, ?_⟩
  · have ao : AOEq (.row 25 2 (baseL C C.length ++ (P.take 0).map clauseOf).length (rowsC (baseL C C.length ++ (P.take 0).map clauseOf))) (.row 25 2 (baseL C C.length).length (rowsC (baseL C C.length))) := by
      rw [show (P.take 0).map clauseOf = [] by simp, List.append_nil]
      exact AOEq.refl _
    exact ao
  intro q hq
  have hq : q ≤ P.length := hq
  have hsh := proofs_short (q := q) hlc hlp
  refine .inl ⟨fun hc => ?_, fun hc => ?_⟩
  · have hc := dlt hc
    have hc : (q : Int) < P.length := hc
    have eq : (q : Int).toNat = q := Int.toNat_natCast q
    have hsm := pf_small hR (q := (q : Int).toNat) (by omega)
    repeat refine Or.inl ?_
    refine ⟨⟨by omega, by omega⟩, ?_⟩
    repeat refine Or.inl ?_
    refine ⟨[], _, clause_fn (P.getD (q : Int).toNat dPf) hsm.1 hsm.2, ?_⟩
    refine ⟨fits (by omega), ?_⟩
    refine ⟨q + 1, [(0, 3)], by dsimp only; omega, by dsimp only; omega, rfl, rfl, rfl, rfl, rfl, ⟨⟨rfl, wr (by omega) (by omega)⟩, rfl⟩, ?_⟩
    exact snocC_row _ (clauseOf (P.getD (q : Int).toNat dPf)) (by rw [take_map_snoc P (by omega), eq, List.append_assoc])
  · have hc := dnlt hc
    have hc : (P.length : Int) ≤ q := hc
    have et : P.take q = P := List.take_of_length_le (by omega)
    have ecl : baseL C C.length ++ (P.take q).map clauseOf = clausesL C P := by rw [et]; rfl
    have hsh2 : (clausesL C P).length ≤ 40900 := by rw [← ecl]; exact hsh
    rw [ecl]
    repeat refine Or.inl ?_
    refine ⟨fun h5 => ?_, fun h5 => ?_⟩
    · have h5 : decide (((clausesL C P).length : Int) > 4000) = true := h5
      rw [decide_eq_true_eq] at h5
      rw [clausesY_big hrt (by omega)]
      exact ⟨⟨[], ⟨⟨⟨rfl, rfl, AVEq.refl _⟩, trivial⟩, trivial, rfl⟩, rfl, trivial⟩⟩
    · have h5 : decide (((clausesL C P).length : Int) > 4000) = false := h5
      rw [decide_eq_false_iff_not] at h5
      rw [clausesY_ok hrt (by omega)]
      exact RetIs.so_i rfl rfl (fun _ _ => rfl) (fun _ _ => rfl)

set_option maxRecDepth 20000 in
set_option maxHeartbeats 4000000 in
theorem rClauses_fn (C : List Cm) (P : List Pf) (hC : C.length < 2 ^ 62) (hP : P.length < 2 ^ 62) : Ctr Try.prog 39 [.rs 2 C.length (rowsM C), .rs 3 P.length (rowsP P)] (okCO (clausesY C P)) (okCR (clausesY C P)) := by
  refine fn_of_exec tabOk Try.func39 (by kernel_rfl) rfl (N := Try.f39.ntmps) rfl (res := [.tmp 4, .tmp 5]) rfl rfl [] ?_
  repeat refine Or.inl ?_
  refine ⟨[], _, rClaimRight_fn C P hC hP, ?_⟩
  repeat refine Or.inl ?_
  refine ⟨fun h => ?_, fun h => ?_⟩
  · have h : (!rightCP C P) = true := h
    rw [clausesY_bad (show rightCP C P = false by simpa using h)]
    exact ⟨⟨[], ⟨⟨⟨rfl, rfl, AVEq.refl _⟩, trivial⟩, trivial, rfl⟩, rfl, trivial⟩⟩
  have h : (!rightCP C P) = false := h
  have hrt : rightCP C P = true := by simpa using h
  have hR := rightCP_iff.1 hrt
  have hlc := hR.lc
  have hlp := hR.lp
  repeat refine Or.inl ?_
  refine ⟨[(6, 25, 2)], Nat, fun k => k ≤ C.length, fun k => [⟨7, [], .i .i64 k⟩, ⟨6, [], .so 0⟩], fun k => [⟨0, [], .row 25 2 (baseL C k).length (rowsC (baseL C k))⟩], fun k => C.length - k,
    ⟨0, [], Nat.zero_le _, rfl, rfl, rfl, rfl, rfl, ⟨⟨rfl, rfl⟩, rfl⟩, ⟨rfl, rfl, rfl, fun j hj => absurd hj (Nat.not_lt_zero j)⟩⟩, ?_⟩
  intro k hk
  have hk : k ≤ C.length := hk
  refine .inl ⟨fun hc => ?_, fun hc => ?_⟩
  · have hc := dlt hc
    have hc : (k : Int) < C.length := hc
    have ek : (k : Int).toNat = k := Int.toNat_natCast k
    have wk : IntKind.i64.wrap (IntKind.i64.wrap (2 * (k : Int)) + 1) = 2 * k + 1 := by rw [wr (n := 2 * (k : Int)) (by omega) (by omega)]; exact wr (by omega) (by omega)
    repeat refine Or.inl ?_
    refine ⟨[], Nat, fun m => m ≤ k, fun m => [⟨8, [], .i .i64 m⟩, ⟨6, [], .so 0⟩], fun m => [⟨0, [], .row 25 2 (baseL C k ++ pairsL C k m).length (rowsC (baseL C k ++ pairsL C k m))⟩], fun m => k - m,
      ⟨0, [], Nat.zero_le _, rfl, rfl, rfl, rfl, rfl, ⟨⟨rfl, rfl⟩, rfl⟩, ?_⟩, ?_⟩
    · have ao : AOEq (.row 25 2 (baseL C k ++ pairsL C k 0).length (rowsC (baseL C k ++ pairsL C k 0))) (.row 25 2 (baseL C k).length (rowsC (baseL C k))) := by
        rw [show pairsL C k 0 = [] from rfl, List.append_nil]
        exact AOEq.refl _
      exact ao
    intro m hm
    have hm : m ≤ k := hm
    have hsh := base_short (m := m) hlc hk (by omega)
    refine .inl ⟨fun hc2 => ?_, fun hc2 => ?_⟩
    · have hc2 := dlt hc2
      have hc2 : (m : Int) < (k : Int) := hc2
      have hmk : m < k := by omega
      have em : (m : Int).toNat = m := Int.toNat_natCast m
      have wm : IntKind.i64.wrap (IntKind.i64.wrap (2 * (m : Int)) + 1) = 2 * m + 1 := by rw [wr (n := 2 * (m : Int)) (by omega) (by omega)]; exact wr (by omega) (by omega)
      repeat refine Or.inl ?_
      refine ⟨⟨by omega, by omega⟩, ⟨by omega, by omega⟩, ?_⟩
      repeat refine Or.inl ?_
      refine ⟨fun h4 => ?_, fun h4 => ?_⟩
      · have h4 : ((C.getD (m : Int).toNat dCm).acc == (C.getD (k : Int).toNat dCm).acc) = true := h4
        rw [ek, em, beq_iff_eq] at h4
        refine ⟨fits (by omega), ?_⟩
        refine ⟨m + 1, [(0, 2)], hmk, by dsimp only; omega, rfl, rfl, rfl, rfl, rfl, ⟨⟨rfl, wr (by omega) (by omega)⟩, rfl⟩, ?_⟩
        rw [wk, wm]
        exact snocC_row _ ⟨2 * (m : Int) + 1, 2 * (k : Int) + 1⟩ (by rw [pairsL_pos h4.symm, List.append_assoc])
      · have h4 : ((C.getD (m : Int).toNat dCm).acc == (C.getD (k : Int).toNat dCm).acc) = false := h4
        rw [ek, em, beq_eq_false_iff_ne] at h4
        refine ⟨m + 1, [], hmk, by dsimp only; omega, rfl, rfl, rfl, rfl, rfl, ⟨⟨rfl, wr (by omega) (by omega)⟩, rfl⟩, ?_⟩
        have ao : AOEq (.row 25 2 (baseL C k ++ pairsL C k (m + 1)).length (rowsC (baseL C k ++ pairsL C k (m + 1)))) (.row 25 2 (baseL C k ++ pairsL C k m).length (rowsC (baseL C k ++ pairsL C k m))) := by
          rw [pairsL_neg (fun h => h4 h.symm)]
          exact AOEq.refl _
        exact ao
    · have hc2 := dnlt hc2
      have hc2 : (k : Int) ≤ m := hc2
      obtain rfl : m = k := by omega
      refine ⟨m + 1, [], by dsimp only; omega, by dsimp only; omega, rfl, rfl, rfl, rfl, rfl, ⟨⟨rfl, wr (by omega) (by omega)⟩, rfl⟩, ?_⟩
      have ao : AOEq (.row 25 2 (baseL C (m + 1)).length (rowsC (baseL C (m + 1)))) (.row 25 2 (baseL C m ++ pairsL C m m).length (rowsC (baseL C m ++ pairsL C m m))) := by
        rw [baseL_succ]
        exact AOEq.refl _
      exact ao
  have hc := dnlt hc
  have hc : (C.length : Int) ≤ k := hc
  obtain rfl : k = C.length := by omega
  repeat refine Or.inl ?_
  refine ⟨[], Nat, fun q => q ≤ P.length, fun q => [⟨9, [], .i .i64 q⟩, ⟨6, [], .so 0⟩], fun q => [⟨0, [], .row 25 2 (baseL C C.length ++ (P.take q).map clauseOf).length (rowsC (baseL C C.length ++ (P.take q).map clauseOf))⟩], fun q => P.length - q,
    ⟨0, [], Nat.zero_le _, rfl, rfl, rfl, rfl, rfl, ⟨⟨rfl, rfl⟩, rfl⟩, ?_⟩, ?_⟩
  · have ao : AOEq (.row 25 2 (baseL C C.length ++ (P.take 0).map clauseOf).length (rowsC (baseL C C.length ++ (P.take 0).map clauseOf))) (.row 25 2 (baseL C C.length).length (rowsC (baseL C C.length))) := by
      rw [show (P.take 0).map clauseOf = [] by simp, List.append_nil]
      exact AOEq.refl _
    exact ao
  intro q hq
  have hq : q ≤ P.length := hq
  have hsh := proofs_short (q := q) hlc hlp
  refine .inl ⟨fun hc => ?_, fun hc => ?_⟩
  · have hc := dlt hc
    have hc : (q : Int) < P.length := hc
    have eq : (q : Int).toNat = q := Int.toNat_natCast q
    have hsm := pf_small hR (q := (q : Int).toNat) (by omega)
    repeat refine Or.inl ?_
    refine ⟨⟨by omega, by omega⟩, ?_⟩
    repeat refine Or.inl ?_
    refine ⟨[], _, rClause_fn (P.getD (q : Int).toNat dPf) hsm.1 hsm.2, ?_⟩
    refine ⟨fits (by omega), ?_⟩
    refine ⟨q + 1, [(0, 2)], by dsimp only; omega, by dsimp only; omega, rfl, rfl, rfl, rfl, rfl, ⟨⟨rfl, wr (by omega) (by omega)⟩, rfl⟩, ?_⟩
    exact snocC_row _ (clauseOf (P.getD (q : Int).toNat dPf)) (by rw [take_map_snoc P (by omega), eq, List.append_assoc])
  · have hc := dnlt hc
    have hc : (P.length : Int) ≤ q := hc
    have et : P.take q = P := List.take_of_length_le (by omega)
    have ecl : baseL C C.length ++ (P.take q).map clauseOf = clausesL C P := by rw [et]; rfl
    have hsh2 : (clausesL C P).length ≤ 40900 := by rw [← ecl]; exact hsh
    rw [ecl]
    repeat refine Or.inl ?_
    refine ⟨fun h5 => ?_, fun h5 => ?_⟩
    · have h5 : decide (((clausesL C P).length : Int) > 4000) = true := h5
      rw [decide_eq_true_eq] at h5
      rw [clausesY_big hrt (by omega)]
      exact ⟨⟨[], ⟨⟨⟨rfl, rfl, AVEq.refl _⟩, trivial⟩, trivial, rfl⟩, rfl, trivial⟩⟩
    · have h5 : decide (((clausesL C P).length : Int) > 4000) = false := h5
      rw [decide_eq_false_iff_not] at h5
      rw [clausesY_ok hrt (by omega)]
      exact RetIs.so_i rfl rfl (fun _ _ => rfl) (fun _ _ => rfl)
end Go.Proofs.Ytilhaifmfiobhaa
end

section
/-
  Claims and proofs: copies, lists without one number, and what contradicts.
-/
namespace Go.Proofs.Ytilhaifmfiobhaa
open Go.Eng

instance : DecidableEq Cl := fun x y => if h : x.a = y.a ∧ x.b = y.b then isTrue (by cases x; cases y; simp at h; rw [h.1, h.2]) else isFalse (by rintro rfl; exact h ⟨rfl, rfl⟩)
theorem catI0 (f : Nat → List AV) (o : List Int) : ∀ q, q < o.length → catG 0 f (rowsI o) q = rowsI o q := by
  intro q _
  unfold catG
  rw [if_neg (by omega), Nat.sub_zero]
set_option maxRecDepth 20000 in
theorem cloneI_fn (l : List Int) (hl : l.length ≤ 1000000) : Ctr Try.prog 92 [.rs 1 l.length (rowsI l)] [.row 3 1 l.length (rowsI l)] (.so 0) := by
  refine fn_of_exec tabOk Try.func92 (by kernel_rfl) rfl (N := Try.f92.ntmps) rfl (res := [.tmp 2]) rfl rfl [(999999, [.nl 2 3 1])] ?_
  refine .inl fun c hc => ⟨fun h => ?_, fun h => ⟨fits (by omega), ?_⟩⟩
  · have h0 : l.length = 0 := hc (by cases c <;> first | rfl | cases h)
    exact RetIs.so rfl h0.symm (fun k hk => by omega) (fun k hk => by omega)
  · exact RetIs.so rfl (Nat.zero_add _) (fun k hk => catI0 _ l k hk) (fun _ _ => rfl)

/-! ### a list without one number -/
def without (x : Int) (S : List Int) : List Int := S.filter fun k => decide (k ≠ x)
set_option maxRecDepth 20000 in
theorem indexI1_fn (l : List Int) (hl : l.length < 2^62) (fid : FuncId) (c1 : List AV) (p : Int → Bool) (hp : ∀ x ∈ l, Ctr Try.prog fid [.i .i64 x, .rp c1] [] (.b (p x))) :
    Ctr Try.prog 121 [.rs 1 l.length (rowsI l), .fn fid [.rp c1]] [] (.i .i64 (idxF p l)) := by
  refine fn_of_exec tabOk Try.func121 (by kernel_rfl) rfl (N := Try.f121.ntmps) rfl (res := [.tmp 4]) rfl rfl [] ?_
  refine .inl ⟨[], Nat, fun k => k ≤ l.length ∧ ∀ j, j < k → p (l.getD j 0) = false, fun k => [⟨8, [], .i .i64 k⟩], fun _ => [], fun k => l.length - k,
    ⟨0, [], ⟨Nat.zero_le _, fun j hj => by omega⟩, rfl, rfl, rfl, rfl, rfl, ⟨rfl, rfl⟩, trivial⟩, ?_⟩
  intro k hk
  obtain ⟨hk, hno⟩ := hk
  refine .inl ⟨fun hc => ?_, fun hc => ?_⟩
  · have hc := dlt hc
    refine .inl ⟨by omega, .inl ⟨[], _, hp (l.getD k 0) (getD_memA 0 (by omega)), ⟨fun h => ?_, fun h => ?_⟩⟩⟩
    · refine RetIs.i ?_
      exact (idxF_some 0 p l k (by omega) hno h).symm
    · refine ⟨k + 1, [], ⟨by omega, fun j hj => ?_⟩, by dsimp only; omega, rfl, rfl, rfl, rfl, rfl, ⟨rfl, wr (by omega) (by omega)⟩, trivial⟩
      by_cases hjk : j = k
      · subst hjk; exact h
      · exact hno j (by omega)
  · have hc := dnlt hc
    refine RetIs.i ?_
    exact (idxF_none 0 p l fun j hj => hno j (by omega)).symm
end Go.Proofs.Ytilhaifmfiobhaa
end

section
/-
  Claims and proofs: Conflict.
-/
namespace Go.Proofs.Ytilhaifmfiobhaa
open Go.Eng

end Go.Proofs.Ytilhaifmfiobhaa
end

section
/-
  Claims and proofs: the reference's Conflict; Bits; Agrees.
-/
namespace Go.Proofs.Ytilhaifmfiobhaa
open Go.Eng

theorem getD_snocP (o : List Pf) (c : Pf) (q : Nat) : (o ++ [c]).getD q dPf = if q < o.length then o.getD q dPf else if q = o.length then c else dPf := by
  simp only [List.getD]
  by_cases h : q < o.length
  · rw [if_pos h, List.getElem?_append_left h]
  · rw [if_neg h, List.getElem?_append_right (by omega)]
    by_cases h2 : q = o.length
    · rw [if_pos h2, h2]; simp
    · rw [if_neg h2, List.getElem?_eq_none (by simp; omega)]; rfl
theorem catP2 (o : List Pf) (c : Pf) : ∀ q, q < (o ++ [c]).length → catG o.length (rowsP o) (rowOf 3 c.av) q = rowsP (o ++ [c]) q := by
  intro q hq
  unfold catG rowsP
  rw [getD_snocP]
  by_cases h : q < o.length
  · rw [if_pos h, if_pos h]
  · rw [if_neg h, if_neg h]
    have : q = o.length := by simp at hq; omega
    subst this
    rw [Nat.sub_self, if_pos rfl]
    rfl
/-- Clauses, as the kinds of its results say it. -/
theorem Clauses_or {C : List Cm} {P : List Pf} : (okCP C P = true ∧ clausesY C P = (clausesL C P, 0)) ∨ (okCP C P = false ∧ ∃ k : Int, k ≠ 0 ∧ clausesY C P = ([], k)) := by
  cases hok : okCP C P with
  | true => exact .inl ⟨rfl, okCP_cl hok⟩
  | false =>
    obtain ⟨h1, h2⟩ := not_okCP_cl hok
    exact .inr ⟨rfl, (clausesY C P).2, h2, Prod.ext h1 rfl⟩
theorem okC_no {k : Int} (h : k ≠ 0) : okCO ([], k) = [] ∧ okCR ([], k) = .tup [.val (.slice none 0 0), .i .i64 k] := by
  unfold okCO okCR
  rw [if_neg h, if_neg h]
  exact ⟨rfl, rfl⟩

end Go.Proofs.Ytilhaifmfiobhaa
end

section
/-
  Claims and proofs: what is known of conflicts; plain Lean, no program in sight.
-/
namespace Go.Proofs.Ytilhaifmfiobhaa
open Go.Eng

end Go.Proofs.Ytilhaifmfiobhaa
end

section
/-
  Claims and proofs: the small examples; ClaimTells.
-/
namespace Go.Proofs.Ytilhaifmfiobhaa
open Go.Eng

theorem three3 {p : Nat → Prop} (h0 : p 0) (h1 : p 1) (h2 : p 2) : ∀ k, k < 3 → p k := by
  intro k hk
  match k, hk with
  | 0, _ => exact h0
  | 1, _ => exact h1
  | 2, _ => exact h2
end Go.Proofs.Ytilhaifmfiobhaa
end

section
/-
  ClaimConflict.
-/
namespace Go.Proofs.Ytilhaifmfiobhaa
open Go.Eng

theorem cl_ctr {C : List Cm} {P : List Pf} (hC : C.length < 2 ^ 62) (hP : P.length < 2 ^ 62) (hok : okCP C P = true) :
    Ctr Try.prog 38 [.rs 2 C.length (rowsM C), .rs 3 P.length (rowsP P)] [.row 25 2 (clausesL C P).length (rowsC (clausesL C P))] (.tup [.so 0, .i .i64 0]) := by
  have := Clauses_fn C P hC hP
  rw [okCP_cl hok] at this
  exact this
end Go.Proofs.Ytilhaifmfiobhaa
end

section
/-
  Rights: copies of proofs, proofs without one, numbers without those of another list; grants.
-/
namespace Go.Proofs.Ytilhaifmfiobhaa
open Go.Eng

/-! ### numbers that are not struck -/
def keepF (p : Int → Bool) (S : List Int) : List Int := S.filter fun k => !p k
theorem keepF_take (p : Int → Bool) (S : List Int) {k : Nat} (h : k < S.length) : keepF p (S.take (k + 1)) = if p (S.getD k 0) = true then keepF p (S.take k) else keepF p (S.take k) ++ [S.getD k 0] := by
  unfold keepF
  rw [List.take_succ_eq_append_getElem h, List.filter_append]
  have e : S.getD k 0 = S[k] := by simp [List.getD, h]
  rw [← e]
  by_cases hx : p (S.getD k 0) = true
  · rw [if_pos hx, List.filter_cons_of_neg (by rw [hx]; decide)]; simp
  · rw [if_neg hx, List.filter_cons_of_pos (by simpa using hx)]; simp
theorem keepF_len (p : Int → Bool) (S : List Int) : (keepF p S).length ≤ S.length := List.length_filter_le _ _
theorem firstF_at {S : List Int} {p : Int → Bool} (h : ∃ x ∈ S, p x = true) : ∃ k, k < S.length ∧ p (S.getD k 0) = true ∧ (∀ j, j < k → p (S.getD j 0) = false) ∧ idxF p S = k := by
  have key : ∀ m, m ≤ S.length → (∀ j, j < m → p (S.getD j 0) = false) ∨ ∃ k, k < m ∧ p (S.getD k 0) = true ∧ ∀ j, j < k → p (S.getD j 0) = false := by
    intro m
    induction m with
    | zero => exact fun _ => .inl fun j hj => by omega
    | succ m ih =>
      intro hm
      rcases ih (by omega) with h1 | ⟨k, h1, h2, h3⟩
      · by_cases he : p (S.getD m 0) = true
        · exact .inr ⟨m, by omega, he, h1⟩
        · refine .inl fun j hj => ?_
          by_cases hjm : j = m
          · rw [hjm]; simpa using he
          · exact h1 j (by omega)
      · exact .inr ⟨k, by omega, h2, h3⟩
  rcases key S.length (Nat.le_refl _) with h1 | ⟨k, h1, h2, h3⟩
  · obtain ⟨x, hx, hpx⟩ := h
    obtain ⟨j, hj, e⟩ := mem_getDX hx
    have := h1 j hj
    rw [e, hpx] at this
    cases this
  · exact ⟨k, h1, h2, h3, idxF_some 0 _ S k h1 h3 h2⟩
theorem keepF_head {S : List Int} {p : Int → Bool} : ∀ {k : Nat}, k ≤ S.length → (∀ j, j < k → p (S.getD j 0) = false) → keepF p (S.take k) = S.take k := by
  intro k hk h
  unfold keepF
  rw [List.filter_eq_self]
  intro y hy
  obtain ⟨j, hj, e⟩ := mem_getDX hy
  rw [List.length_take] at hj
  have : S.getD j 0 = y := by
    rw [← e]
    simp only [List.getD]
    rw [List.getElem?_take_of_lt (by omega)]
  rw [← this, h j (by omega)]
  rfl
/-- The row while the numbers are moved. -/
def movedF (p : Int → Bool) (S : List Int) (j q : Nat) : Int := if q < (keepF p (S.take j)).length then (keepF p (S.take j)).getD q 0 else S.getD q 0

set_option maxRecDepth 20000 in
set_option maxHeartbeats 4000000 in
theorem delF_some (S : List Int) (hS : S.length ≤ 1000000) (fid : FuncId) (c1 : List AV) (p : Int → Bool) (hp : ∀ x ∈ S, Ctr Try.prog fid [.i .i64 x, .rp c1] [] (.b (p x))) (hx : ∃ x ∈ S, p x = true) :
    CtrM Try.prog 91 false [.row 3 1 S.length (rowsI S)] [.so 0, .fn fid [.rp c1]] (fun _ : Unit => True) (fun _ => [.dead]) (fun _ => [.row 3 1 (keepF p S).length (rowsI (keepF p S))]) (fun _ => .so 1) := by
  refine fn_of_execM tabOk Try.func91 (by kernel_rfl) rfl (N := Try.f91.ntmps) rfl (res := [.tmp 4]) rfl false false [.row 3 1 S.length (rowsI S)] _ _ _ _ rfl (fun h => by cases h) [(999999, [.own 4])] ?_
  obtain ⟨k0, hk0, hk1, hk2, hk3⟩ := firstF_at hx
  repeat refine Or.inl ?_
  refine ⟨[], _, indexI1_fn S (by omega) fid c1 p hp, ?_⟩
  rw [hk3]
  repeat refine Or.inl ?_
  refine ⟨fun h => ?_, fun _ => ?_⟩
  · have h : ((k0 : Int) == -1) = true := h
    rw [beq_iff_eq] at h
    omega
  have w0 : keepF p (S.take k0) = S.take k0 := keepF_head (by omega) hk2
  have w1 : keepF p (S.take (k0 + 1)) = S.take k0 := by rw [keepF_take p S hk0, if_pos hk1, w0]
  have l0 : (S.take k0).length = k0 := by rw [List.length_take]; omega
  repeat refine Or.inl ?_
  refine ⟨[], Nat, fun j => k0 < j ∧ j ≤ S.length, fun j => [⟨6, [], .i .i64 j⟩, ⟨5, [], .i .i64 (keepF p (S.take j)).length⟩], fun j => [⟨0, [], .row 3 1 S.length fun q => [.i .i64 (movedF p S j q)]⟩], fun j => S.length - j,
    ⟨k0 + 1, [], ⟨by omega, by omega⟩, rfl, rfl, rfl, rfl, rfl, ⟨⟨rfl, wr (by omega) (by omega)⟩, ⟨rfl, ?_⟩⟩, ⟨rfl, rfl, rfl, fun q hq => ?_⟩⟩, ?_⟩
  · rw [w1, l0]
  · show [AV.i .i64 (S.getD q 0)] = [AV.i .i64 (movedF p S (k0 + 1) q)]
    unfold movedF
    rw [w1, l0]
    split
    · rename_i hq2
      have : (S.take k0).getD q 0 = S.getD q 0 := by
        simp only [List.getD]
        rw [List.getElem?_take_of_lt hq2]
      rw [this]
    · rfl
  rintro j ⟨hj1, hj2⟩
  have hwl : (keepF p (S.take j)).length < j := by
    have : ∀ d, k0 + 1 + d ≤ S.length → (keepF p (S.take (k0 + 1 + d))).length < k0 + 1 + d := by
      intro d
      induction d with
      | zero => intro _; rw [Nat.add_zero, w1, l0]; omega
      | succ d ih =>
        intro hd
        have := ih (by omega)
        rw [show k0 + 1 + (d + 1) = (k0 + 1 + d) + 1 by omega, keepF_take p S (by omega)]
        split
        · omega
        · rw [List.length_append]; simp; omega
    have := this (j - (k0 + 1)) (by omega)
    rwa [show k0 + 1 + (j - (k0 + 1)) = j by omega] at this
  refine .inl ⟨fun hc => ?_, fun hc => ?_⟩
  · have hc := dlt hc
    have hc : (j : Int) < S.length := hc
    have ej : (j : Int).toNat = j := Int.toNat_natCast j
    have hgj : movedF p S j (j : Int).toNat = S.getD j 0 := by
      unfold movedF
      rw [ej, if_neg (by omega)]
    have hwt := keepF_take p S (k := j) (by omega)
    have hjm : movedF p S j (j : Int).toNat ∈ S := by rw [hgj]; exact getD_memA 0 (by omega)
    repeat refine Or.inl ?_
    refine ⟨⟨by omega, by omega⟩, by omega, ?_⟩
    repeat refine Or.inl ?_
    refine ⟨[], _, hp _ (hjm), ?_⟩
    repeat refine Or.inl ?_
    refine ⟨fun h3 => ?_, fun h3 => ?_⟩
    · have h3 : (!(p (movedF p S j (j : Int).toNat))) = true := h3
      rw [hgj, Bool.not_eq_true'] at h3
      rw [if_neg (by rw [h3]; decide)] at hwt
      refine ⟨⟨by omega, by omega⟩, by omega, ?_⟩
      refine ⟨j + 1, [], ⟨by omega, by omega⟩, by dsimp only; omega, rfl, rfl, rfl, rfl, rfl, ⟨⟨rfl, wr (by omega) (by omega)⟩, ⟨rfl, ?_⟩⟩, ⟨rfl, rfl, rfl, fun q hq => ?_⟩⟩
      · rw [hwt, List.length_append, wr (by omega) (by omega)]
        rfl
      · show (if q = ((keepF p (S.take j)).length : Int).toNat then Go.Eng.over 0 [AV.i .i64 (movedF p S j (j : Int).toNat)] [AV.i .i64 (movedF p S j q)] else [AV.i .i64 (movedF p S j q)]) = [AV.i .i64 (movedF p S (j + 1) q)]
        rw [Int.toNat_natCast, hgj]
        unfold movedF
        rw [hwt, getD_snocI, List.length_append, List.length_singleton]
        by_cases h1 : q = (keepF p (S.take j)).length
        · have e1 : (if q < (keepF p (S.take j)).length + 1 then (if q < (keepF p (S.take j)).length then (keepF p (S.take j)).getD q 0 else if q = (keepF p (S.take j)).length then S.getD j 0 else 0) else S.getD q 0) = S.getD j 0 := by
            rw [if_pos (show q < (keepF p (S.take j)).length + 1 by omega), if_neg (show ¬ q < (keepF p (S.take j)).length by omega), if_pos h1]
          rw [e1, if_pos h1]
          rfl
        · rw [if_neg h1]
          by_cases h2 : q < (keepF p (S.take j)).length
          · rw [if_pos h2, if_pos (show q < (keepF p (S.take j)).length + 1 by omega), if_pos h2]
          · rw [if_neg h2, if_neg (show ¬ q < (keepF p (S.take j)).length + 1 by omega)]
    · have h3 : (!(p (movedF p S j (j : Int).toNat))) = false := h3
      rw [hgj, Bool.not_eq_false'] at h3
      rw [if_pos h3] at hwt
      refine ⟨j + 1, [], ⟨by omega, by omega⟩, by dsimp only; omega, rfl, rfl, rfl, rfl, rfl, ⟨⟨rfl, wr (by omega) (by omega)⟩, ⟨rfl, by rw [hwt]⟩⟩, ⟨rfl, rfl, rfl, fun q hq => ?_⟩⟩
      show [AV.i .i64 (movedF p S j q)] = [AV.i .i64 (movedF p S (j + 1) q)]
      unfold movedF
      rw [hwt]
  · have hc := dnlt hc
    have hc : (S.length : Int) ≤ j := hc
    obtain rfl : j = S.length := by omega
    have et : S.take S.length = S := List.take_length
    repeat refine Or.inl ?_
    refine ⟨⟨by omega, by omega, by omega⟩, ?_⟩
    repeat refine Or.inl ?_
    refine ⟨⟨by omega, by omega, by omega⟩, ?_⟩
    refine ⟨⟨(), [(1, 1)], trivial, ⟨⟨⟨rfl, rfl, rfl⟩, trivial⟩, ⟨⟨rfl, rfl, trivial, trivial⟩, ⟨rfl, rfl, trivial, ⟨rfl, rfl, ?_, fun q hq => ?_⟩⟩, trivial⟩, rfl⟩, rfl, fun _ => ⟨rfl, trivial, fun _ _ => rfl⟩⟩⟩
    · rw [et]
      omega
    · have hq : q < (keepF p S).length := hq
      show (if ((keepF p (S.take S.length)).length : Int).toNat ≤ q ∧ q < ((keepF p (S.take S.length)).length : Int).toNat + ((S.length : Int) - (keepF p (S.take S.length)).length).toNat then _ else [AV.i .i64 (movedF p S S.length q)]) = [AV.i .i64 ((keepF p S).getD q 0)]
      rw [if_neg (by rw [et]; omega)]
      unfold movedF
      rw [et, if_pos hq]

set_option maxRecDepth 20000 in
theorem delF_none (S : List Int) (hS : S.length ≤ 1000000) (fid : FuncId) (c1 : List AV) (p : Int → Bool) (hp : ∀ x ∈ S, Ctr Try.prog fid [.i .i64 x, .rp c1] [] (.b (p x))) (hno : ∀ x ∈ S, p x = false) :
    CtrM Try.prog 91 false [.row 3 1 S.length (rowsI S)] [.so 0, .fn fid [.rp c1]] (fun _ : Unit => True) (fun _ => [.row 3 1 S.length (rowsI S)]) (fun _ => []) (fun _ => .so 0) := by
  refine fn_of_execM tabOk Try.func91 (by kernel_rfl) rfl (N := Try.f91.ntmps) rfl (res := [.tmp 4]) rfl false false [.row 3 1 S.length (rowsI S)] _ _ _ _ rfl (fun h => by cases h) [] ?_
  have hi : idxF p S = -1 := idxF_none 0 p S fun j hj => hno _ (getD_memX hj)
  repeat refine Or.inl ?_
  refine ⟨[], _, indexI1_fn S (by omega) fid c1 p hp, ?_⟩
  rw [hi]
  repeat refine Or.inl ?_
  refine ⟨fun _ => ?_, fun h => by cases h⟩
  exact ⟨⟨(), [], trivial, ⟨⟨⟨rfl, rfl, rfl⟩, trivial⟩, ⟨⟨rfl, rfl, trivial, ⟨rfl, rfl, rfl, fun _ _ => rfl⟩⟩, trivial⟩, rfl⟩, rfl, fun _ => ⟨rfl, fun _ _ => rfl⟩⟩⟩

/-! ### one list without the numbers of another -/
def minusL (a b : List Int) : List Int := keepF (hasN b) a
set_option maxRecDepth 20000 in
theorem differ1_fn (b : List Int) (hb : b.length < 2^62) (x : Int) : Ctr Try.prog 127 [.i .i64 x, .rp [.rs 1 b.length (rowsI b)]] [] (.b (hasN b x)) := by
  refine fn_of_exec tabOk Try.func127 (by kernel_rfl) rfl (N := Try.f127.ntmps) rfl (res := [.tmp 3]) rfl rfl [] ?_
  repeat refine Or.inl ?_
  refine ⟨[], _, contains_fn b hb x, ?_⟩
  exact RetIs.b rfl

/-! ### copies of proofs, and proofs without one -/
theorem catP0 (f : Nat → List AV) (o : List Pf) : ∀ q, q < o.length → catG 0 f (rowsP o) q = rowsP o q := by
  intro q _
  unfold catG
  rw [if_neg (by omega), Nat.sub_zero]
set_option maxRecDepth 20000 in
theorem cloneP_fn (l : List Pf) (hl : l.length ≤ 1000000) : Ctr Try.prog 111 [.rs 3 l.length (rowsP l)] [.row 55 3 l.length (rowsP l)] (.so 0) := by
  refine fn_of_exec tabOk Try.func111 (by kernel_rfl) rfl (N := Try.f111.ntmps) rfl (res := [.tmp 2]) rfl rfl [(999999, [.nl 2 55 3])] ?_
  refine .inl fun c hc => ⟨fun h => ?_, fun h => ⟨fits (by omega), ?_⟩⟩
  · have h0 : l.length = 0 := hc (by cases c <;> first | rfl | cases h)
    exact RetIs.so rfl h0.symm (fun k hk => by omega) (fun k hk => by omega)
  · exact RetIs.so rfl (Nat.zero_add _) (fun k hk => catP0 _ l k hk) (fun _ _ => rfl)

theorem getD_erase (P : List Pf) (i q : Nat) : (P.eraseIdx i).getD q dPf = if q < i then P.getD q dPf else P.getD (q + 1) dPf := by
  simp only [List.getD]
  rw [List.getElem?_eraseIdx]
  split <;> rfl
set_option maxRecDepth 20000 in
set_option maxHeartbeats 4000000 in
theorem deleteP_fn (P : List Pf) (hP : P.length ≤ 1000000) (i : Nat) (hi : i < P.length) (j : Int) (hj : j = (i : Int) + 1) :
    CtrM Try.prog 114 false [.row 55 3 P.length (rowsP P)] [.so 0, .i .i64 i, .i .i64 j] (fun _ : Unit => True) (fun _ => [.dead]) (fun _ => [.row 55 3 (P.eraseIdx i).length (rowsP (P.eraseIdx i))]) (fun _ => .so 1) := by
  refine fn_of_execM tabOk Try.func114 (by kernel_rfl) rfl (N := Try.f114.ntmps) rfl (res := [.tmp 6]) rfl false false [.row 55 3 P.length (rowsP P)] _ _ _ _ rfl (fun h => by cases h) [(999999, [.own 6])] ?_
  subst hj
  repeat refine Or.inl ?_
  refine ⟨⟨by omega, by omega, by omega, by omega⟩, ?_⟩
  repeat refine Or.inl ?_
  refine ⟨fun h => ?_, fun _ => ?_⟩
  · have h : ((i : Int) == (i : Int) + 1) = true := h
    rw [beq_iff_eq] at h
    omega
  repeat refine Or.inl ?_
  refine ⟨⟨by omega, by omega, by omega⟩, ?_⟩
  repeat refine Or.inl ?_
  refine ⟨⟨by omega, by omega, by omega⟩, ?_⟩
  repeat refine Or.inl ?_
  refine ⟨by omega, ?_⟩
  repeat refine Or.inl ?_
  refine ⟨⟨by omega, by omega, by omega⟩, ?_⟩
  have hel : (P.eraseIdx i).length = P.length - 1 := by rw [List.length_eraseIdx, if_pos hi]
  refine ⟨⟨(), [(1, 2)], trivial, ⟨⟨⟨rfl, rfl, rfl⟩, trivial⟩, ⟨⟨rfl, rfl, trivial, trivial⟩, ⟨rfl, rfl, trivial, ⟨rfl, rfl, ?_, fun q hq => ?_⟩⟩, trivial⟩, rfl⟩, rfl, fun _ => ⟨rfl, trivial, fun _ _ => rfl⟩⟩⟩
  · rw [hel]
    omega
  · have hq : q < (P.eraseIdx i).length := hq
    have e0 : q + Int.toNat 0 = q := rfl
    dsimp only
    rw [e0, if_neg (by rw [hel] at hq; omega)]
    unfold overG rowsP
    rw [getD_erase]
    by_cases h : q < i
    · rw [if_pos h, if_neg (by omega)]
    · rw [if_neg h, if_pos (by rw [hel] at hq; omega)]
      congr 2
      omega
end Go.Proofs.Ytilhaifmfiobhaa
end

section
/-
  Rights: grants, and who has a right by them; plain Lean first, then the small functions.
-/
namespace Go.Proofs.Ytilhaifmfiobhaa
open Go.Eng

/-! ### grants -/
def badG (g : Gt) : Bool := ((((decide (g.grp < 0) || decide (g.grp ≥ 500)) || decide (g.per < 0)) || decide (g.per ≥ 2000)) || decide (g.rig < 0)) || decide (g.rig > 15)
def validG (G : List Gt) : Bool := !G.any badG
theorem badG_no {g : Gt} : badG g = false ↔ (0 ≤ g.grp ∧ g.grp < 500) ∧ (0 ≤ g.per ∧ g.per < 2000) ∧ (0 ≤ g.rig ∧ g.rig ≤ 15) := by
  unfold badG
  simp only [Bool.or_eq_false_iff, decide_eq_false_iff_not]
  constructor
  · rintro ⟨⟨⟨⟨⟨h1, h2⟩, h3⟩, h4⟩, h5⟩, h6⟩
    omega
  · rintro ⟨⟨h1, h2⟩, ⟨h3, h4⟩, h5, h6⟩
    refine ⟨⟨⟨⟨⟨?_, ?_⟩, ?_⟩, ?_⟩, ?_⟩, ?_⟩ <;> omega
theorem validG_mem {G : List Gt} (h : validG G = true) {g : Gt} (hg : g ∈ G) : (0 ≤ g.grp ∧ g.grp < 500) ∧ (0 ≤ g.per ∧ g.per < 2000) ∧ (0 ≤ g.rig ∧ g.rig ≤ 15) := by
  unfold validG at h
  rw [Bool.not_eq_true', List.any_eq_false] at h
  have := h g hg
  exact badG_no.1 (by simpa using this)
theorem validG_of {G : List Gt} (h : ∀ g ∈ G, badG g = false) : validG G = true := by
  unfold validG
  rw [Bool.not_eq_true', List.any_eq_false]
  intro g hg
  rw [h g hg]
  decide
theorem validG_snoc {G : List Gt} {g : Gt} : validG (G ++ [g]) = (validG G && !badG g) := by
  unfold validG
  rw [List.any_append, Bool.not_or]
  simp
def bitN (x : Int) (i : Nat) : Bool := x.toNat.testBit i
/-- Whether a grant says so. -/
def grB (grp p : Int) (i : Nat) (g : Gt) : Bool := ((g.grp == grp) && (g.per == p)) && bitN g.rig i
/-- Whether a person has a right in a group. -/
def hasG (G : List Gt) (grp p r : Int) : Bool := (List.range 4).all fun i => !bitN r i || G.any (grB grp p i)
theorem hasG_iff {G : List Gt} {grp p r : Int} : hasG G grp p r = true ↔ ∀ i, i < 4 → bitN r i = true → ∃ g ∈ G, g.grp = grp ∧ g.per = p ∧ bitN g.rig i = true := by
  unfold hasG grB
  simp only [List.all_eq_true, List.mem_range, Bool.or_eq_true, Bool.not_eq_true', List.any_eq_true, Bool.and_eq_true, beq_iff_eq]
  constructor
  · intro h i hi hb
    rcases h i hi with h1 | ⟨g, hg, h1⟩
    · rw [hb] at h1; cases h1
    · exact ⟨g, hg, h1.1.1, h1.1.2, h1.2⟩
  · intro h i hi
    cases hb : bitN r i with
    | false => exact .inl rfl
    | true =>
      obtain ⟨g, hg, h1, h2, h3⟩ := h i hi hb
      exact .inr ⟨g, hg, ⟨h1, h2⟩, h3⟩
theorem bit_ex {r : Int} (h1 : 1 ≤ r) (h2 : r ≤ 15) : ∃ i, i < 4 ∧ bitN r i = true := by
  have : r = 1 ∨ r = 2 ∨ r = 3 ∨ r = 4 ∨ r = 5 ∨ r = 6 ∨ r = 7 ∨ r = 8 ∨ r = 9 ∨ r = 10 ∨ r = 11 ∨ r = 12 ∨ r = 13 ∨ r = 14 ∨ r = 15 := by omega
  rcases this with rfl | rfl | rfl | rfl | rfl | rfl | rfl | rfl | rfl | rfl | rfl | rfl | rfl | rfl | rfl <;> first | exact ⟨0, by decide, by decide⟩ | exact ⟨1, by decide, by decide⟩ | exact ⟨2, by decide, by decide⟩ | exact ⟨3, by decide, by decide⟩
/-! ### what the grants of a group come to -/
def sumStep (grp : Int) (L : List (Int × Int)) (g : Gt) : List (Int × Int) := if g.grp = grp then mset L g.per (bitsI .or .i64 ((mget L g.per).getD 0) g.rig) else L
def sumsL (G : List Gt) (grp : Int) : List (Int × Int) := G.foldl (sumStep grp) []
theorem sumsL_take (G : List Gt) (grp : Int) {k : Nat} (h : k < G.length) : sumsL (G.take (k + 1)) grp = sumStep grp (sumsL (G.take k) grp) (G.getD k dGt) := by
  unfold sumsL
  rw [List.take_succ_eq_append_getElem h, List.foldl_append]
  simp [List.getD, h]
theorem sumsL_snoc (G : List Gt) (g : Gt) (grp : Int) : sumsL (G ++ [g]) grp = sumStep grp (sumsL G grp) g := by
  unfold sumsL
  rw [List.foldl_append]
  rfl
structure SumP (G : List Gt) (grp : Int) : Prop where
  rng : ∀ p, 0 ≤ (mget (sumsL G grp) p).getD 0 ∧ (mget (sumsL G grp) p).getD 0 ≤ 15
  bit : ∀ p i, bitN ((mget (sumsL G grp) p).getD 0) i = true ↔ ∃ g ∈ G, g.grp = grp ∧ g.per = p ∧ bitN g.rig i = true
  nd : (mkeys (sumsL G grp)).Nodup
theorem sumP (grp : Int) : ∀ n : Nat, ∀ G : List Gt, G.length = n → validG G = true → SumP G grp
  | 0, G, h, _ => by
    obtain rfl := List.eq_nil_of_length_eq_zero h
    refine ⟨fun p => ⟨Int.le_refl _, by show (0 : Int) ≤ 15; decide⟩, fun p i => ⟨fun h => ?_, fun ⟨g, hg, _⟩ => by cases hg⟩, List.nodup_nil⟩
    have h : (0 : Nat).testBit i = true := h
    simp at h
  | n + 1, G, h, hv => by
    obtain ⟨H, g, rfl⟩ : ∃ H g, G = H ++ [g] := ⟨G.dropLast, G.getLast (by intro e; rw [e] at h; cases h), (List.dropLast_concat_getLast _).symm⟩
    rw [validG_snoc, Bool.and_eq_true] at hv
    have ih := sumP grp n H (by simpa using h) hv.1
    have hg := badG_no.1 (by simpa using hv.2)
    have e := sumsL_snoc H g grp
    unfold sumStep at e
    by_cases hgr : g.grp = grp
    · rw [if_pos hgr] at e
      have hr := ih.rng g.per
      have hor := bits_or (x := (mget (sumsL H grp) g.per).getD 0) (y := g.rig) (by omega) (by omega)
      have hb : ∀ i, bitN (bitsI .or .i64 ((mget (sumsL H grp) g.per).getD 0) g.rig) i = (bitN ((mget (sumsL H grp) g.per).getD 0) i || bitN g.rig i) := fun i => by
        rw [hor]
        unfold bitN
        rw [Int.toNat_natCast, Nat.testBit_or]
      refine ⟨fun p => ?_, fun p i => ?_, by rw [e]; exact nodup_mset ih.nd _ _⟩
      · rw [e, mget_mset]
        by_cases hp : p = g.per
        · rw [if_pos hp, Option.getD_some, hor]
          have : ((mget (sumsL H grp) g.per).getD 0).toNat ||| g.rig.toNat < 2 ^ 4 := Nat.or_lt_two_pow (by omega) (by omega)
          omega
        · rw [if_neg hp]
          exact ih.rng p
      · rw [e, mget_mset]
        by_cases hp : p = g.per
        · rw [if_pos hp, Option.getD_some, hb, Bool.or_eq_true, ← hp, ih.bit p i]
          constructor
          · rintro (⟨g2, h1, h2⟩ | h1)
            · exact ⟨g2, List.mem_append_left _ h1, h2⟩
            · exact ⟨g, by simp, hgr, hp.symm, h1⟩
          · rintro ⟨g2, h1, h2, h3, h4⟩
            rcases List.mem_append.1 h1 with h1 | h1
            · exact .inl ⟨g2, h1, h2, h3, h4⟩
            · rw [List.mem_singleton.1 h1] at h4
              exact .inr h4
        · rw [if_neg hp, ih.bit p i]
          constructor
          · rintro ⟨g2, h1, h2⟩
            exact ⟨g2, List.mem_append_left _ h1, h2⟩
          · rintro ⟨g2, h1, h2, h3, h4⟩
            rcases List.mem_append.1 h1 with h1 | h1
            · exact ⟨g2, h1, h2, h3, h4⟩
            · rw [List.mem_singleton.1 h1] at h3
              exact absurd h3.symm hp
    · rw [if_neg hgr] at e
      refine ⟨fun p => by rw [e]; exact ih.rng p, fun p i => ?_, by rw [e]; exact ih.nd⟩
      rw [e, ih.bit p i]
      constructor
      · rintro ⟨g2, h1, h2⟩
        exact ⟨g2, List.mem_append_left _ h1, h2⟩
      · rintro ⟨g2, h1, h2, h3⟩
        rcases List.mem_append.1 h1 with h1 | h1
        · exact ⟨g2, h1, h2, h3⟩
        · rw [List.mem_singleton.1 h1] at h2
          exact absurd h2 hgr
/-- What is said of a person, by the sum of the grants. -/
def saidB (s r : Int) : Bool := bitsI .and .i64 s r == r
theorem saidB_iff {s r : Int} (hs : 0 ≤ s ∧ s ≤ 15) (hr : 0 ≤ r ∧ r ≤ 15) : saidB s r = true ↔ ∀ i, i < 4 → bitN r i = true → bitN s i = true := by
  unfold saidB
  rw [bits_and (by omega) (by omega), beq_iff_eq]
  have hr2 : r = (r.toNat : Int) := by omega
  constructor
  · intro h i _ hb
    have h : s.toNat &&& r.toNat = r.toNat := by omega
    unfold bitN at hb ⊢
    rw [← h, Nat.testBit_and, Bool.and_eq_true] at hb
    exact hb.1
  · intro h
    have : s.toNat &&& r.toNat = r.toNat := by
      refine Nat.eq_of_testBit_eq fun i => ?_
      rw [Nat.testBit_and]
      cases hb : r.toNat.testBit i with
      | false => rw [Bool.and_false]
      | true =>
        rw [Bool.and_true]
        have hi : i < 4 := by
          rcases Nat.lt_or_ge i 4 with h4 | h4
          · exact h4
          · have : r.toNat < 2 ^ i := Nat.lt_of_lt_of_le (show r.toNat < 2 ^ 4 by omega) (Nat.pow_le_pow_right (by decide) h4)
            rw [Nat.testBit_lt_two_pow this] at hb
            cases hb
        exact h i hi hb
    omega
theorem said_has {G : List Gt} (hv : validG G = true) {grp p r : Int} (h1 : 1 ≤ r) (h2 : r ≤ 15) : ((mget (sumsL G grp) p).isSome && saidB ((mget (sumsL G grp) p).getD 0) r) = hasG G grp p r := by
  have S := sumP grp _ G rfl hv
  have hs := saidB_iff (S.rng p) (show 0 ≤ r ∧ r ≤ 15 by omega)
  have hb : saidB ((mget (sumsL G grp) p).getD 0) r = hasG G grp p r := by
    rw [Bool.eq_iff_iff, hs, hasG_iff]
    constructor
    · exact fun h i hi hb => (S.bit p i).1 (h i hi hb)
    · exact fun h i hi hb => (S.bit p i).2 (h i hi hb)
  rw [hb]
  cases hm : mget (sumsL G grp) p with
  | some v => rfl
  | none =>
    rw [← hb, hm]
    have : saidB ((none : Option Int).getD 0) r = false := by
      rw [← Bool.not_eq_true, saidB_iff ⟨by decide, by decide⟩ (by omega)]
      intro h
      obtain ⟨i, hi, hb⟩ := bit_ex h1 h2
      have := h i hi hb
      unfold bitN at this
      simp at this
    rw [this]
    rfl

/-! ### the small functions -/
set_option maxRecDepth 20000 in
theorem valid1_fn (g : Gt) : Ctr Try.prog 130 [.ag g.av] [] (.b (badG g)) := by
  refine fn_of_exec tabOk Try.func130 (by kernel_rfl) rfl (N := Try.f130.ntmps) rfl (res := [.tmp 2]) rfl rfl [] ?_
  exact RetIs.b rfl
set_option maxRecDepth 20000 in
theorem valid_fn (G : List Gt) (hG : G.length < 2^62) : Ctr Try.prog 124 [.rs 3 G.length (rowsG G)] [] (.b (validG G)) := by
  refine fn_of_exec tabOk Try.func124 (by kernel_rfl) rfl (N := Try.f124.ntmps) rfl (res := [.tmp 2]) rfl rfl [] ?_
  repeat refine Or.inl ?_
  refine ⟨[], _, containsG0_fn G hG 130 badG (fun x _ => valid1_fn x), ?_⟩
  exact RetIs.b rfl
theorem few27_fn (C : List Cm) (P : List Pf) (G : List Gt) : Ctr Try.prog 59 [.rs 2 C.length (rowsM C), .rs 3 P.length (rowsP P), .rs 3 G.length (rowsG G)] [] (.b ((decide ((C.length : Int) ≤ 8) && decide ((P.length : Int) ≤ 10)) && decide ((G.length : Int) ≤ 12))) := by
  refine fn_of_exec tabOk Try.func59 (by kernel_rfl) rfl (N := Try.f59.ntmps) rfl (res := [.tmp 6]) rfl rfl [] ?_
  exact RetIs.b rfl
end Go.Proofs.Ytilhaifmfiobhaa
end
