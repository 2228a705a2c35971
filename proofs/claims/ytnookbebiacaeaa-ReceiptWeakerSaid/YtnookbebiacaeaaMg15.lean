/-
  Several texts in one: Rc8.
-/
import Derived.Test.YtnookbebiacaeaaMg14

section
/-
  Receipts: ReceiptTells, ReceiptWeaker, ReceiptAdds.
-/
namespace Go.Proofs.Ytnookbebiacaeaa
open Go.Eng

theorem lessN_le (l : List Note) (k : Nat) : (lessN l k).length ≤ l.length := by
  unfold lessN
  rw [List.length_append, List.length_take, List.length_drop]
  omega
/-! ### ReceiptWeaker -/
theorem mem_lessN {l : List Note} {k : Nat} {n : Note} (h : n ∈ lessN l k) : n ∈ l := by
  unfold lessN at h
  rcases List.mem_append.1 h with h | h
  · exact List.mem_of_mem_take h
  · exact List.mem_of_mem_drop h
theorem subN_of {a l : List Note} (h : ∀ n ∈ a, n ∈ l) : subN a l := fun n hn => ⟨n, h n hn, rfl⟩
theorem valid_of {a l : List Note} (hv : valid l = true) (h : ∀ n ∈ a, n ∈ l) (hl : a.length ≤ l.length) : valid a = true := by
  have := valid_all hv
  have hlen : l.length ≤ 1000 := by
    unfold valid at hv
    simp at hv
    exact hv.1
  unfold valid
  rw [Bool.and_eq_true, decide_eq_true_eq, Bool.not_eq_true', List.any_eq_false]
  refine ⟨by omega, fun n hn => ?_⟩
  rw [this n (h n hn)]
  decide
theorem Low_mono {a l : List Note} (hv : valid l = true) (h : ∀ n ∈ a, n ∈ l) (hl : a.length ≤ l.length) (b : Bool) (m w : Int) : Low a b m w ≤ Low l b m w := by
  unfold Low
  rw [if_pos hv, if_pos (valid_of hv h hl)]
  exact low_sub (subN_of h) b m w
theorem right_valid {l : List Note} {b : Bool} (h : Right l b = true) : valid l = true := by
  unfold Right at h
  rw [Bool.and_eq_true] at h
  exact h.1
theorem weak_named {l now : List Note} {b : Bool} {n : Note} (hn : n ∈ l) (hnot : n.n = false) : ((weakL l now b).any fun y => (y.m == n.m) && (y.w == n.w)) = decide (Low l b n.m n.w > Low now b n.m n.w) := by
  rw [Bool.eq_iff_iff, List.any_eq_true, decide_eq_true_eq]
  constructor
  · rintro ⟨y, hy, h⟩
    rw [Bool.and_eq_true, beq_iff_eq, beq_iff_eq] at h
    obtain ⟨x, hx, h1, rfl⟩ := ((weakL_is l now b).mem y).1 hy
    unfold isWk at h1
    rw [Bool.and_eq_true, decide_eq_true_eq] at h1
    have e1 : x.m = n.m := h.1
    have e2 : x.w = n.w := h.2
    rw [← e1, ← e2]
    exact h1.2
  · intro h
    refine ⟨wk l b n, ((weakL_is l now b).mem _).2 ⟨n, hn, ?_, rfl⟩, ?_⟩
    · unfold isWk
      rw [hnot, decide_eq_true h]
      rfl
    · show ((n.m == n.m) && (n.w == n.w)) = true
      rw [beq_self_eq_true, beq_self_eq_true]
      rfl
theorem weak_at {l now : List Note} {b : Bool} {k : Nat} (hk : k < (weakL l now b).length) : ((weakL l now b).getD k dN).n = false ∧ ((weakL l now b).getD k dN).s = 0 ∧ ((weakL l now b).getD k dN).l = Low l b ((weakL l now b).getD k dN).m ((weakL l now b).getD k dN).w := by
  obtain ⟨n, _, _, e⟩ := ((weakL_is l now b).mem _).1 (getD_memN hk)
  rw [e]
  exact ⟨rfl, rfl, rfl⟩
set_option maxRecDepth 20000 in
set_option maxHeartbeats 8000000 in
theorem receiptWeaker_fn (l : List Note) (b : Bool) (i : Int) : Ctr Try.prog 4 [.rs 5 l.length (rowsN l), .b b, .i .i64 i] [] (.b true) := by
  refine fn_of_exec tabOk Try.func4 (by kernel_rfl) rfl (N := Try.f4.ntmps) rfl (res := [.tmp 6]) rfl rfl [] ?_
  repeat refine Or.inl ?_
  refine ⟨[], _, smallN_fn, ?_⟩
  repeat refine Or.inl ?_
  refine ⟨fun _ => RetIs.b rfl, fun hf => ?_⟩
  have hf : decide ((l.length : Int) > 14) = false := hf
  rw [decide_eq_false_iff_not] at hf
  have hw := Withdraw_fn l (by omega) i
  by_cases hi : i < 0 ∨ (l.length : Int) ≤ i
  · have e : withY l i = ([], 4) := if_pos hi
    rw [e] at hw
    repeat refine Or.inl ?_
    refine ⟨_, _, hw, ?_⟩
    repeat refine Or.inl ?_
    exact ⟨fun _ => RetIs.b rfl, fun h => (by cases h)⟩
  have e : withY l i = (lessN l i.toNat, 0) := if_neg hi
  rw [e] at hw
  have hsub : ∀ n ∈ lessN l i.toNat, n ∈ l := fun n h => mem_lessN h
  have hle := lessN_le l i.toNat
  generalize lessN l i.toNat = now at hw hsub hle
  have a3 := weakL_len l now b
  have hasc := (weakL_is l now b).asc
  repeat refine Or.inl ?_
  refine ⟨_, _, hw, ?_⟩
  repeat refine Or.inl ?_
  refine ⟨fun h => (by cases h), fun _ => ?_⟩
  repeat refine Or.inl ?_
  refine ⟨_, _, Weaker_fn l now (by omega) (by omega) b, ?_⟩
  repeat refine Or.inl ?_
  refine ⟨[], Nat, fun k => k ≤ (weakL l now b).length, fun k => [⟨11, [], .i .i64 k⟩], fun _ => [], fun k => (weakL l now b).length - k,
    ⟨0, [], Nat.zero_le _, rfl, rfl, rfl, rfl, rfl, ⟨rfl, rfl⟩, trivial⟩, ?_⟩
  intro k hk
  have hk : k ≤ (weakL l now b).length := hk
  refine .inl ⟨fun hc => ?_, fun hc => ?_⟩
  · have hc := dlt hc
    have hc : (k : Int) < (weakL l now b).length := hc
    have ek : (k : Int).toNat = k := Int.toNat_natCast k
    obtain ⟨w1, w2, w3⟩ := weak_at (l := l) (now := now) (b := b) (k := k) (by omega)
    have wk : decide ((k : Int) > 0) = true → IntKind.i64.wrap ((k : Int) - 1) = ((k - 1 : Nat) : Int) ∧ 0 < k := fun h => by
      rw [decide_eq_true_eq] at h
      rw [wr (by omega) (by omega)]
      omega
    repeat refine Or.inl ?_
    refine ⟨⟨by omega, by omega⟩, by omega, ?_⟩
    repeat refine Or.inl ?_
    refine ⟨[], _, fun _ => Low_fn l (by omega) b ((weakL l now b).getD (k : Int).toNat dN).m ((weakL l now b).getD (k : Int).toNat dN).w, ?_⟩
    refine ⟨fun hg => ⟨by rw [(wk hg.1).1]; omega, by rw [(wk hg.1).1]; omega⟩, fun hg => by rw [(wk hg.1).1]; omega, fun hg => ⟨by rw [(wk hg.2.1).1]; omega, by rw [(wk hg.2.1).1]; omega⟩, fun hg => by rw [(wk hg.2.1).1]; omega, fun hg => ⟨by rw [(wk hg.2.2.1).1]; omega, by rw [(wk hg.2.2.1).1]; omega⟩, fun hg => by rw [(wk hg.2.2.1).1]; omega, ?_⟩
    repeat refine Or.inl ?_
    refine ⟨fun h => ?_, fun _ => ?_⟩
    · exfalso
      have h : (((((weakL l now b).getD (k : Int).toNat dN).n || (((weakL l now b).getD (k : Int).toNat dN).s != 0)) || (((weakL l now b).getD (k : Int).toNat dN).l != Low l b ((weakL l now b).getD (k : Int).toNat dN).m ((weakL l now b).getD (k : Int).toNat dN).w)) || (decide ((k : Int) > 0) && (decide (((weakL l now b).getD (IntKind.i64.wrap ((k : Int) - 1)).toNat dN).m > ((weakL l now b).getD (k : Int).toNat dN).m) || ((((weakL l now b).getD (IntKind.i64.wrap ((k : Int) - 1)).toNat dN).m == ((weakL l now b).getD (k : Int).toNat dN).m) && decide (((weakL l now b).getD (IntKind.i64.wrap ((k : Int) - 1)).toNat dN).w ≥ ((weakL l now b).getD (k : Int).toNat dN).w))))) = true := h
      rw [ek, w1, w2, ← w3, bne_self_eq_false, bne_self_eq_false] at h
      have h : (decide ((k : Int) > 0) && (decide (((weakL l now b).getD (IntKind.i64.wrap ((k : Int) - 1)).toNat dN).m > ((weakL l now b).getD k dN).m) || ((((weakL l now b).getD (IntKind.i64.wrap ((k : Int) - 1)).toNat dN).m == ((weakL l now b).getD k dN).m) && decide (((weakL l now b).getD (IntKind.i64.wrap ((k : Int) - 1)).toNat dN).w ≥ ((weakL l now b).getD k dN).w)))) = true := h
      rw [Bool.and_eq_true] at h
      obtain ⟨h1, h2⟩ := h
      obtain ⟨e1, e2⟩ := wk h1
      rw [e1, Int.toNat_natCast, Bool.or_eq_true, Bool.and_eq_true, decide_eq_true_eq, decide_eq_true_eq, beq_iff_eq] at h2
      have := ltN_iff.1 (getD_pw hasc (show k - 1 < k by omega) (by omega))
      omega
    · exact ⟨k + 1, [], by dsimp only; omega, by dsimp only; omega, rfl, rfl, rfl, rfl, rfl, ⟨rfl, wr (by omega) (by omega)⟩, trivial⟩
  repeat refine Or.inl ?_
  refine ⟨[], _, Right_fn l (by omega) b, ?_⟩
  repeat refine Or.inl ?_
  refine ⟨[], Nat, fun k => k ≤ l.length, fun k => [⟨14, [], .i .i64 k⟩], fun _ => [], fun k => l.length - k,
    ⟨0, [], Nat.zero_le _, rfl, rfl, rfl, rfl, rfl, ⟨rfl, rfl⟩, trivial⟩, ?_⟩
  intro k hk
  have hk : k ≤ l.length := hk
  refine .inl ⟨fun hc => ?_, fun hc => RetIs.b rfl⟩
  have hc := dlt hc
  have hc : (k : Int) < l.length := hc
  have ek : (k : Int).toNat = k := Int.toNat_natCast k
  repeat refine Or.inl ?_
  refine ⟨⟨by omega, by omega⟩, ?_⟩
  repeat refine Or.inl ?_
  refine ⟨fun h => ?_, fun h => ?_⟩
  · exact ⟨k + 1, [], by dsimp only; omega, by dsimp only; omega, rfl, rfl, rfl, rfl, rfl, ⟨rfl, wr (by omega) (by omega)⟩, trivial⟩
  have h : (l.getD (k : Int).toNat dN).n = false := h
  have hmem : l.getD (k : Int).toNat dN ∈ l := getD_memN (by omega)
  have hnm := weak_named (now := now) (b := b) hmem h
  repeat refine Or.inl ?_
  refine ⟨[], Nat, fun j => j ≤ (weakL l now b).length, fun j => [⟨16, [], .i .i64 j⟩, ⟨15, [], .b (((weakL l now b).take j).any fun y => (y.m == (l.getD (k : Int).toNat dN).m) && (y.w == (l.getD (k : Int).toNat dN).w))⟩], fun _ => [], fun j => (weakL l now b).length - j,
    ⟨0, [], Nat.zero_le _, rfl, rfl, rfl, rfl, rfl, ⟨⟨rfl, rfl⟩, rfl⟩, trivial⟩, ?_⟩
  intro j hj
  have hj : j ≤ (weakL l now b).length := hj
  refine .inl ⟨fun hc2 => ?_, fun hc2 => ?_⟩
  · have hc2 := dlt hc2
    have hc2 : (j : Int) < (weakL l now b).length := hc2
    have ej : (j : Int).toNat = j := Int.toNat_natCast j
    repeat refine Or.inl ?_
    refine ⟨fun _ => ⟨by omega, by omega⟩, fun _ => by omega, fun _ => ⟨by omega, by omega⟩, fun _ => ⟨by omega, by omega⟩, fun _ => by omega, fun _ => ⟨by omega, by omega⟩, ?_⟩
    refine ⟨j + 1, [], by dsimp only; omega, by dsimp only; omega, rfl, rfl, rfl, rfl, rfl, ⟨⟨rfl, wr (by omega) (by omega)⟩, ?_⟩, trivial⟩
    rw [any_upto_succ dN _ _ _ (by omega), ej]
    rfl
  have hc2 := dnlt hc2
  have hc2 : ((weakL l now b).length : Int) ≤ j := hc2
  obtain rfl : j = (weakL l now b).length := by omega
  repeat refine Or.inl ?_
  refine ⟨⟨by omega, by omega⟩, ⟨by omega, by omega⟩, ?_⟩
  repeat refine Or.inl ?_
  refine ⟨[], _, Low_fn l (by omega) b (l.getD (k : Int).toNat dN).m (l.getD (k : Int).toNat dN).w, ?_⟩
  repeat refine Or.inl ?_
  refine ⟨⟨by omega, by omega⟩, ⟨by omega, by omega⟩, ?_⟩
  repeat refine Or.inl ?_
  refine ⟨[], _, Low_fn now (by omega) b (l.getD (k : Int).toNat dN).m (l.getD (k : Int).toNat dN).w, ?_⟩
  repeat refine Or.inl ?_
  refine ⟨fun h2 => ?_, fun _ => ?_⟩
  · exfalso
    have h2 : (((((weakL l now b).take (weakL l now b).length).any fun y => (y.m == (l.getD (k : Int).toNat dN).m) && (y.w == (l.getD (k : Int).toNat dN).w)) != decide (Low l b (l.getD (k : Int).toNat dN).m (l.getD (k : Int).toNat dN).w > Low now b (l.getD (k : Int).toNat dN).m (l.getD (k : Int).toNat dN).w)) || (Right l b && decide (Low l b (l.getD (k : Int).toNat dN).m (l.getD (k : Int).toNat dN).w < Low now b (l.getD (k : Int).toNat dN).m (l.getD (k : Int).toNat dN).w))) = true := h2
    rw [List.take_length, hnm, bne_self_eq_false, Bool.false_or, Bool.and_eq_true, decide_eq_true_eq] at h2
    have := Low_mono (right_valid h2.1) hsub hle b (l.getD (k : Int).toNat dN).m (l.getD (k : Int).toNat dN).w
    omega
  · exact ⟨k + 1, [], by dsimp only; omega, by dsimp only; omega, rfl, rfl, rfl, rfl, rfl, ⟨rfl, wr (by omega) (by omega)⟩, trivial⟩
end Go.Proofs.Ytnookbebiacaeaa
end
