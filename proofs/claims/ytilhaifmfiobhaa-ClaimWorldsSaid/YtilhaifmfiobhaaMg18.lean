/-
  Several texts in one: Y10.
-/
import Derived.Test.YtilhaifmfiobhaaMg17

section
/-
  ClaimWorlds.
-/
namespace Go.Proofs.Ytilhaifmfiobhaa
open Go.Eng

/-- The assignment of n claims with a number: the first claim has the least weight. -/
def bitL (n k : Nat) : List Bool := (List.range n).map fun i => decide (k / 2 ^ i % 2 = 1)
theorem bitL_len (n k : Nat) : (bitL n k).length = n := by simp [bitL]
theorem bitL_succ (n k : Nat) : bitL (n + 1) k = bitL n k ++ [decide (k / 2 ^ n % 2 = 1)] := by
  unfold bitL
  rw [List.range_succ, List.map_append]
  rfl
/-- Each assignment has a number. -/
theorem bitL_all : ∀ (n : Nat) (vs : List Bool), vs.length = n → ∃ k, k < 2 ^ n ∧ bitL n k = vs
  | 0, vs, h => ⟨0, by decide, by rw [List.eq_nil_of_length_eq_zero h]; rfl⟩
  | n + 1, vs, h => by
    obtain ⟨us, b, rfl, hu⟩ := snoc_of h
    obtain ⟨k, hk, e⟩ := bitL_all n us hu
    have hp : 2 ^ (n + 1) = 2 ^ n + 2 ^ n := by rw [Nat.pow_succ]; omega
    have low : ∀ j, bitL n (k + 2 ^ n * j) = bitL n k := fun j => by
      unfold bitL
      refine List.map_congr_left fun i hi => ?_
      have hi := List.mem_range.1 hi
      have e2 : 2 ^ n * j = 2 ^ i * (2 * (2 ^ (n - i - 1) * j)) := by
        have : 2 ^ n = 2 ^ i * (2 * 2 ^ (n - i - 1)) := by
          rw [← Nat.pow_succ', ← Nat.pow_add]
          congr 1
          omega
        rw [this, Nat.mul_assoc, Nat.mul_assoc]
      rw [e2, Nat.add_mul_div_left _ _ (Nat.pow_pos (by decide)), Nat.add_mul_mod_self_left]
    cases b with
    | false =>
      refine ⟨k, by omega, ?_⟩
      rw [bitL_succ, e, Nat.div_eq_of_lt hk]
      rfl
    | true =>
      refine ⟨k + 2 ^ n * 1, by omega, ?_⟩
      rw [bitL_succ, low, e, Nat.add_mul_div_left _ _ (Nat.pow_pos (by decide)), Nat.div_eq_of_lt hk]
      rfl
theorem shr_nat {k i : Nat} (hi : i ≤ 60) : (k : Int).fdiv (2 ^ (min (i : Int).toNat IntKind.i64.bits)) = ((k / 2 ^ i : Nat) : Int) := by
  have h1 : min (i : Int).toNat IntKind.i64.bits = i := by
    rw [Int.toNat_natCast]
    exact Nat.min_eq_left (by show i ≤ 64; omega)
  rw [h1, show (2 : Int) ^ i = ((2 ^ i : Nat) : Int) by simp, Int.fdiv_eq_ediv_of_nonneg _ (Int.natCast_nonneg _)]
  exact (Int.natCast_ediv k (2 ^ i)).symm
theorem snocB (o : List Bool) (c : Bool) : ∀ q, q < (o ++ [c]).length → catG o.length (rowsB o) (rowOf 1 [.b c]) q = rowsB (o ++ [c]) q := by
  intro q hq
  unfold catG rowsB
  rw [getD_snoc']
  by_cases h : q < o.length
  · rw [if_pos h, if_pos h]
  · rw [if_neg h, if_neg h]
    have : q = o.length := by simp at hq; omega
    subst this
    rw [Nat.sub_self, if_pos rfl]
    rfl
theorem snocB_row (o : List Bool) (c : Bool) {l : List Bool} (hl : l = o ++ [c]) : AOEq (.row 4 1 l.length (rowsB l)) (.row 4 1 (o.length + 1) (catG o.length (rowsB o) (rowOf 1 [.b c]))) := by
  subst hl
  exact ⟨rfl, rfl, by simp, snocB o c⟩

set_option maxRecDepth 20000 in
set_option maxHeartbeats 1000000 in
theorem Bits_fn (n k : Nat) (hn : n ≤ 60) (hk : k < 2 ^ 61) : Ctr Try.prog 47 [.i .i64 n, .i .i64 k] [.row 4 1 (bitL n k).length (rowsB (bitL n k))] (.so 0) := by
  refine fn_of_exec tabOk Try.func47 (by kernel_rfl) rfl (N := Try.f47.ntmps) rfl (res := [.tmp 4]) rfl rfl [] ?_
  repeat refine Or.inl ?_
  refine ⟨[(5, 4, 1)], Nat, fun i => i ≤ n, fun i => [⟨6, [], .i .i64 i⟩, ⟨5, [], .so 0⟩], fun i => [⟨0, [], .row 4 1 (bitL i k).length (rowsB (bitL i k))⟩], fun i => n - i,
    ⟨0, [], Nat.zero_le _, rfl, rfl, rfl, rfl, rfl, ⟨⟨rfl, rfl⟩, rfl⟩, ⟨rfl, rfl, rfl, fun j hj => absurd hj (Nat.not_lt_zero j)⟩⟩, ?_⟩
  intro i hi
  have hi : i ≤ n := hi
  have hbl := bitL_len i k
  refine .inl ⟨fun hc => ?_, fun hc => ?_⟩
  · have hc := dlt hc
    have hc : (i : Int) < n := hc
    have sh := shr_nat (k := k) (i := i) (by omega)
    have hq : k / 2 ^ i < 2 ^ 61 := Nat.lt_of_le_of_lt (Nat.div_le_self _ _) hk
    repeat refine Or.inl ?_
    refine ⟨by omega, fits (by omega), ?_⟩
    refine ⟨i + 1, [(0, 2)], by dsimp only; omega, by dsimp only; omega, rfl, rfl, rfl, rfl, rfl, ⟨⟨rfl, wr (by omega) (by omega)⟩, rfl⟩, ?_⟩
    rw [sh]
    refine snocB_row _ (bitsI .and .i64 ((k / 2 ^ i : Nat) : Int) 1 == 1) ?_
    rw [bitL_succ]
    congr 2
    generalize k / 2 ^ i = w at hq ⊢
    rw [Bool.eq_iff_iff, decide_eq_true_eq, beq_iff_eq, bits_even (by omega) (by omega)]
    omega
  · have hc := dnlt hc
    have hc : (n : Int) ≤ i := hc
    obtain rfl : i = n := by omega
    exact RetIs.so rfl rfl (fun _ _ => rfl) (fun _ _ => rfl)

theorem holdsP0 {vals : List Bool} {p : Pf} (h : p.kind = 0) : holdsP vals p = isT vals p.a := if_pos h
theorem holdsP1 {vals : List Bool} {p : Pf} (h : p.kind = 1) : holdsP vals p = !isT vals p.a := by unfold holdsP; rw [if_neg (by omega), if_pos h]
theorem holdsP2 {vals : List Bool} {p : Pf} (h : p.kind = 2) : holdsP vals p = (isT vals p.a || isT vals p.b) := by unfold holdsP; rw [if_neg (by omega), if_neg (by omega), if_pos h]
theorem holdsP3 {vals : List Bool} {p : Pf} (h : p.kind = 3) : holdsP vals p = (!isT vals p.a || !isT vals p.b) := by unfold holdsP; rw [if_neg (by omega), if_neg (by omega), if_neg (by omega), if_pos h]
theorem holdsP4 {vals : List Bool} {p : Pf} (h0 : p.kind ≠ 0) (h1 : p.kind ≠ 1) (h2 : p.kind ≠ 2) (h3 : p.kind ≠ 3) : holdsP vals p = (!isT vals p.a || isT vals p.b) := by unfold holdsP; rw [if_neg h0, if_neg h1, if_neg h2, if_neg h3]
/-- Two claims about one account are both true. -/
def clashB (C : List Cm) (vals : List Bool) (k i : Nat) : Bool := decide ((C.getD i dCm).acc = (C.getD k dCm).acc) && (vals.getD i false && vals.getD k false)
theorem agreesB_bad {C : List Cm} {P : List Pf} {vals : List Bool} {k i : Nat} (hk : k < C.length) (hi : i < k) (h : clashB C vals k i = true) : agreesB C P vals = false := by
  rw [Bool.eq_false_iff]
  intro hf
  unfold agreesB at hf
  rw [Bool.and_eq_true] at hf
  have := List.all_eq_true.1 (List.all_eq_true.1 hf.1 k (List.mem_range.2 hk)) i (List.mem_range.2 hi)
  unfold clashB at h
  rw [h] at this
  cases this
theorem agreesB_rest {C : List Cm} {P : List Pf} {vals : List Bool} (h : ∀ k, k < C.length → ∀ i, i < k → clashB C vals k i = false) : agreesB C P vals = P.all (holdsP vals) := by
  unfold agreesB
  rw [show ((List.range C.length).all fun k => (List.range k).all fun i => !(decide ((C.getD i dCm).acc = (C.getD k dCm).acc) && (vals.getD i false && vals.getD k false))) = true from
    List.all_eq_true.2 fun k hk => List.all_eq_true.2 fun i hi => by
      have := h k (List.mem_range.1 hk) i (List.mem_range.1 hi)
      unfold clashB at this
      rw [this]
      rfl]
  rfl

set_option maxRecDepth 20000 in
set_option maxHeartbeats 4000000 in
theorem Agrees_fn (C : List Cm) (P : List Pf) (vals : List Bool) (hR : RightCP C P) (hv : vals.length = C.length) :
    Ctr Try.prog 48 [.rs 2 C.length (rowsM C), .rs 3 P.length (rowsP P), .rs 1 vals.length (rowsB vals)] [] (.b (agreesB C P vals)) := by
  refine fn_of_exec tabOk Try.func48 (by kernel_rfl) rfl (N := Try.f48.ntmps) rfl (res := [.tmp 6]) rfl rfl [] ?_
  have hlc := hR.lc
  have hlp := hR.lp
  repeat refine Or.inl ?_
  refine ⟨[], Nat, fun k => k ≤ C.length ∧ ∀ j, j < k → ∀ i, i < j → clashB C vals j i = false, fun k => [⟨7, [], .i .i64 k⟩], fun _ => [], fun k => C.length - k,
    ⟨0, [], ⟨Nat.zero_le _, fun j hj => absurd hj (Nat.not_lt_zero j)⟩, rfl, rfl, rfl, rfl, rfl, ⟨rfl, rfl⟩, trivial⟩, ?_⟩
  rintro k ⟨hk, hno⟩
  refine .inl ⟨fun hc => ?_, fun hc => ?_⟩
  · have hc := dlt hc
    have hc : (k : Int) < C.length := hc
    have ek : (k : Int).toNat = k := Int.toNat_natCast k
    repeat refine Or.inl ?_
    refine ⟨[], Nat, fun i => i ≤ k ∧ ∀ j, j < i → clashB C vals k j = false, fun i => [⟨8, [], .i .i64 i⟩], fun _ => [], fun i => k - i,
      ⟨0, [], ⟨Nat.zero_le _, fun j hj => absurd hj (Nat.not_lt_zero j)⟩, rfl, rfl, rfl, rfl, rfl, ⟨rfl, rfl⟩, trivial⟩, ?_⟩
    rintro i ⟨hi, hni⟩
    refine .inl ⟨fun hc2 => ?_, fun hc2 => ?_⟩
    · have hc2 := dlt hc2
      have hc2 : (i : Int) < k := hc2
      have ei : (i : Int).toNat = i := Int.toNat_natCast i
      have key : ((((C.getD (i : Int).toNat dCm).acc == (C.getD (k : Int).toNat dCm).acc) && vals.getD (i : Int).toNat false) && vals.getD (k : Int).toNat false) = clashB C vals k i := by
        rw [ei, ek]
        unfold clashB
        rw [Bool.and_assoc]
        congr 1
      repeat refine Or.inl ?_
      refine ⟨⟨by omega, by omega⟩, ⟨by omega, by omega⟩, fun _ => ⟨by omega, by omega⟩, fun _ => ⟨by omega, by omega⟩, ⟨fun h => RetIs.b ?_, fun h => ?_⟩⟩
      · have h := key.symm.trans h
        exact (agreesB_bad (by omega) (by omega) h).symm
      · have h := key.symm.trans h
        refine ⟨i + 1, [], ⟨by omega, fun j hj => ?_⟩, by dsimp only; omega, rfl, rfl, rfl, rfl, rfl, ⟨rfl, wr (by omega) (by omega)⟩, trivial⟩
        by_cases hji : j = i
        · rw [hji]; exact h
        · exact hni j (by omega)
    · have hc2 := dnlt hc2
      have hc2 : (k : Int) ≤ i := hc2
      obtain rfl : i = k := by omega
      refine ⟨i + 1, [], ⟨by omega, fun j hj => ?_⟩, by dsimp only; omega, rfl, rfl, rfl, rfl, rfl, ⟨rfl, wr (by omega) (by omega)⟩, trivial⟩
      by_cases hji : j = i
      · rw [hji]; exact hni
      · exact hno j (by omega)
  have hc := dnlt hc
  have hc : (C.length : Int) ≤ k := hc
  obtain rfl : k = C.length := by omega
  have hrest := agreesB_rest (P := P) hno
  repeat refine Or.inl ?_
  refine ⟨[], Nat, fun q => q ≤ P.length ∧ ∀ j, j < q → holdsP vals (P.getD j dPf) = true, fun q => [⟨9, [], .i .i64 q⟩], fun _ => [], fun q => P.length - q,
    ⟨0, [], ⟨Nat.zero_le _, fun j hj => absurd hj (Nat.not_lt_zero j)⟩, rfl, rfl, rfl, rfl, rfl, ⟨rfl, rfl⟩, trivial⟩, ?_⟩
  rintro q ⟨hq, hok⟩
  refine .inl ⟨fun hc => ?_, fun hc => ?_⟩
  · have hc := dlt hc
    have hc : (q : Int) < P.length := hc
    have eq : (q : Int).toNat = q := Int.toNat_natCast q
    have hp := hR.pf _ (getD_memA dPf (show (q : Int).toNat < P.length by omega))
    repeat refine Or.inl ?_
    refine ⟨⟨by omega, by omega⟩, ?_⟩
    refine .inr ⟨[], Unit, fun _ => True, fun _ => [⟨11, [], .b (holdsP vals (P.getD (q : Int).toNat dPf))⟩], fun _ => [], ?_, fun _ _ => ?_⟩
    · repeat refine Or.inl ?_
      refine ⟨fun h0 => ?_, fun h0 => ?_⟩
      · have h0 : ((P.getD (q : Int).toNat dPf).kind == 0) = true := h0
        repeat refine Or.inl ?_
        refine ⟨⟨by omega, by omega⟩, ?_⟩
        exact ⟨(), [], trivial, rfl, rfl, rfl, rfl, rfl, (holdsP0 (beq_iff_eq.1 h0)).symm, trivial⟩
      have h0 : ((P.getD (q : Int).toNat dPf).kind == 0) = false := h0
      repeat refine Or.inl ?_
      refine ⟨fun h1 => ?_, fun h1 => ?_⟩
      · have h1 : ((P.getD (q : Int).toNat dPf).kind == 1) = true := h1
        repeat refine Or.inl ?_
        refine ⟨⟨by omega, by omega⟩, ?_⟩
        exact ⟨(), [], trivial, rfl, rfl, rfl, rfl, rfl, (holdsP1 (beq_iff_eq.1 h1)).symm, trivial⟩
      have h1 : ((P.getD (q : Int).toNat dPf).kind == 1) = false := h1
      repeat refine Or.inl ?_
      refine ⟨fun h2 => ?_, fun h2 => ?_⟩
      · have h2 : ((P.getD (q : Int).toNat dPf).kind == 2) = true := h2
        repeat refine Or.inl ?_
        refine ⟨⟨by omega, by omega⟩, fun _ => ⟨by omega, by omega⟩, ?_⟩
        exact ⟨(), [], trivial, rfl, rfl, rfl, rfl, rfl, (holdsP2 (beq_iff_eq.1 h2)).symm, trivial⟩
      have h2 : ((P.getD (q : Int).toNat dPf).kind == 2) = false := h2
      repeat refine Or.inl ?_
      refine ⟨fun h3 => ?_, fun h3 => ?_⟩
      · have h3 : ((P.getD (q : Int).toNat dPf).kind == 3) = true := h3
        repeat refine Or.inl ?_
        refine ⟨⟨by omega, by omega⟩, fun _ => ⟨by omega, by omega⟩, ?_⟩
        exact ⟨(), [], trivial, rfl, rfl, rfl, rfl, rfl, (holdsP3 (beq_iff_eq.1 h3)).symm, trivial⟩
      have h3 : ((P.getD (q : Int).toNat dPf).kind == 3) = false := h3
      repeat refine Or.inl ?_
      refine ⟨⟨by omega, by omega⟩, fun _ => ⟨by omega, by omega⟩, ?_⟩
      exact ⟨(), [], trivial, rfl, rfl, rfl, rfl, rfl, (holdsP4 (beq_eq_false_iff_ne.1 h0) (beq_eq_false_iff_ne.1 h1) (beq_eq_false_iff_ne.1 h2) (beq_eq_false_iff_ne.1 h3)).symm, trivial⟩
    repeat refine Or.inl ?_
    refine ⟨fun h => RetIs.b ?_, fun h => ?_⟩
    · have h : (!holdsP vals (P.getD (q : Int).toNat dPf)) = true := h
      rw [hrest]
      exact (not_all dPf (j := (q : Int).toNat) (by omega) (by simpa using h)).symm
    · have h : (!holdsP vals (P.getD (q : Int).toNat dPf)) = false := h
      rw [eq, Bool.not_eq_false'] at h
      refine ⟨q + 1, [], ⟨by omega, fun j hj => ?_⟩, by dsimp only; omega, rfl, rfl, rfl, rfl, rfl, ⟨rfl, wr (by omega) (by omega)⟩, trivial⟩
      by_cases hji : j = q
      · rw [hji]; exact h
      · exact hok j (by omega)
  · have hc := dnlt hc
    have hc : (P.length : Int) ≤ q := hc
    obtain rfl : q = P.length := by omega
    refine RetIs.b ?_
    rw [hrest]
    exact (all_upto dPf hok).symm

set_option maxRecDepth 20000 in
set_option maxHeartbeats 4000000 in
theorem claimWorlds_fn (C : List Cm) (P : List Pf) : Ctr Try.prog 10 [.rs 2 C.length (rowsM C), .rs 3 P.length (rowsP P)] [] (.b true) := by
  refine fn_of_exec tabOk Try.func10 (by kernel_rfl) rfl (N := Try.f10.ntmps) rfl (res := [.tmp 4]) rfl rfl [] ?_
  repeat refine Or.inl ?_
  refine ⟨[], _, smallC_fn, ?_⟩
  repeat refine Or.inl ?_
  refine ⟨[], _, few_fn C P 7 14, ?_⟩
  repeat refine Or.inl ?_
  refine ⟨[], _, fun hg => rClaimRight_fn C P (by have := few_false hg.1; omega) (by have := few_false hg.1; omega), ?_⟩
  repeat refine Or.inl ?_
  refine ⟨fun _ => RetIs.b rfl, fun h => ?_⟩
  have h : (!(decide ((C.length : Int) ≤ 7) && decide ((P.length : Int) ≤ 14)) || !rightCP C P) = false := h
  rw [Bool.or_eq_false_iff, Bool.not_eq_false' (b := rightCP C P)] at h
  obtain ⟨hfew, hr⟩ := h
  obtain ⟨hC, hP⟩ := few_false hfew
  have hR := rightCP_iff.1 hr
  have hok := ok_small hR (by omega)
  have hlen := (okCP_iff.1 hok).2
  have hRL := clausesL_right hR hlen
  have cl := Clauses_fn C P (by omega) (by omega)
  rw [okCP_cl hok] at cl
  have cl : Ctr Try.prog 38 [.rs 2 C.length (rowsM C), .rs 3 P.length (rowsP P)] [.row 25 2 (clausesL C P).length (rowsC (clausesL C P))] (.tup [.so 0, .i .i64 0]) := cl
  have hs := shl_one (n := C.length) (by omega)
  have h2p : (2 : Nat) ^ C.length ≤ 2 ^ 20 := Nat.pow_le_pow_right (by decide) (by omega)
  repeat refine Or.inl ?_
  refine ⟨_, _, cl, ?_⟩
  repeat refine Or.inl ?_
  refine ⟨fun h => (by cases h), fun _ => ?_⟩
  repeat refine Or.inl ?_
  refine ⟨[], Nat, fun k => k ≤ 2 ^ C.length, fun k => [⟨9, [], .i .i64 k⟩, ⟨8, [], .b ((List.range k).any fun j => agreesB C P (bitL C.length j))⟩], fun _ => [], fun k => 2 ^ C.length - k,
    ⟨0, [], Nat.zero_le _, rfl, rfl, rfl, rfl, rfl, ⟨⟨rfl, rfl⟩, rfl⟩, trivial⟩, ?_⟩
  intro k hk
  have hk : k ≤ 2 ^ C.length := hk
  refine .inl ⟨by omega, ⟨fun hc => ?_, fun hc => ?_⟩⟩
  · have hc := dlt hc
    rw [hs] at hc
    have hc : (k : Int) < ((2 ^ C.length : Nat) : Int) := hc
    have hbl := bitL_len C.length k
    repeat refine Or.inl ?_
    refine ⟨_, _, Bits_fn C.length k (by omega) (by omega), ?_⟩
    repeat refine Or.inl ?_
    refine ⟨[], _, Agrees_fn C P (bitL C.length k) hR hbl, ?_⟩
    repeat refine Or.inl ?_
    refine ⟨[], _, Check_fn (clausesL C P) (by omega) C.length (bitL C.length k) (by omega), ?_⟩
    repeat refine Or.inl ?_
    refine ⟨fun h => ?_, fun _ => ?_⟩
    · have h : (agreesB C P (bitL C.length k) != checkB (clausesL C P) C.length (bitL C.length k)) = true := h
      rw [agrees_check hR hlen hbl, bne_self_eq_false] at h
      cases h
    refine ⟨k + 1, [], by dsimp only; omega, by dsimp only; omega, rfl, rfl, rfl, rfl, rfl, ⟨⟨rfl, wr (by omega) (by omega)⟩, ?_⟩, trivial⟩
    show (((List.range k).any fun j => agreesB C P (bitL C.length j)) || agreesB C P (bitL C.length k)) = (List.range (k + 1)).any fun j => agreesB C P (bitL C.length j)
    rw [List.range_succ, List.any_append]
    simp
  have hc := dnlt hc
  rw [hs] at hc
  have hc : ((2 ^ C.length : Nat) : Int) ≤ (k : Int) := hc
  obtain rfl : k = 2 ^ C.length := by omega
  have hany : ((List.range (2 ^ C.length)).any fun j => agreesB C P (bitL C.length j)) = (firstL (clausesL C P) C.length []).isSome := by
    rw [Bool.eq_iff_iff, firstL_isSome, List.any_eq_true]
    constructor
    · rintro ⟨j, _, h⟩
      rw [← agrees_check hR hlen (bitL_len _ _)] at h
      have := (checkB_iff.1 h).2
      rw [Int.toNat_natCast] at this
      exact ⟨_, this⟩
    · rintro ⟨vals, g⟩
      obtain ⟨j, hj, e⟩ := bitL_all C.length vals g.len
      refine ⟨j, List.mem_range.2 hj, ?_⟩
      rw [← agrees_check hR hlen (bitL_len _ _), e, checkB_iff]
      exact ⟨hRL, by rw [Int.toNat_natCast]; exact g⟩
  rw [hany]
  have f := Conflict_fn C P (by omega) (by omega)
  refine .inr (.inr ⟨false, [], rfl, _, _, _, _, _, Solve_fn (clausesL C P) (by omega) C.length, fun y hy => ?_⟩)
  cases e : firstL (clausesL C P) C.length [] with
  | some vs =>
    obtain rfl := SolvK.of_sat hy (rightB_iff.2 hRL) e
    have en : conflictY C P = none := (conY_none hok).2 (by unfold hasW; rw [hok, e]; rfl)
    rw [en] at f
    repeat refine Or.inl ?_
    refine ⟨_, _, fun _ => f, ?_⟩
    exact RetIs.b rfl
  | none =>
    obtain ⟨c, rfl, _⟩ := SolvK.of_uns hy (rightB_iff.2 hRL) e
    cases ec : conflictY C P with
    | none =>
      have := (conY_none hok).1 ec
      unfold hasW at this
      rw [e, Bool.and_comm] at this
      cases this
    | some l =>
      obtain ⟨_, hS, _⟩ := conY_some hok ec
      have hne : 0 < l.length := List.length_pos_iff.2 (confS_ne hS)
      have hz : ((l.length : Int) == 0) = false := by rw [beq_eq_false_iff_ne]; omega
      rw [ec] at f
      repeat refine Or.inl ?_
      refine ⟨_, _, fun _ => f, ?_⟩
      refine RetIs.b ?_
      show ((true && (false == ((17 : Int) == 0))) && (false == ((l.length : Int) == 0))) = true
      rw [hz]
      rfl
end Go.Proofs.Ytilhaifmfiobhaa
end
