/-
  Several texts in one: Rc9.
-/
import Derived.Test.YtnookbebiacaeaaMg14

section
/-
  Receipts: ReceiptAdds.
-/
namespace Go.Proofs.Ytnookbebiacaeaa
open Go.Eng

theorem right_one' (n : Note) (b : Bool) : Right [n] b = valid [n] := by
  unfold Right
  cases hv : valid [n] with
  | false => rfl
  | true =>
    have h := valid_all hv n (by simp)
    unfold vnote at h
    simp at h
    rw [Bool.true_and, Bool.not_eq_true', List.any_eq_false]
    intro x hx
    have : x = n := by simpa using hx
    subst this
    unfold bad low high
    simp only [List.foldl_cons, List.foldl_nil]
    cases hn : x.n with
    | false => simp
    | true =>
      have h1 : says x b x.m x.w = false := by unfold says; rw [hn]; rfl
      have h2 : den x x.m x.w = true := by unfold den; rw [hn]; simp
      have e1 : IntKind.i64.wrap (x.l - 1) = x.l - 1 := wr (by omega) (by omega)
      simp only [h1, h2, e1]
      simp
      omega
theorem add_cases {l : List Note} (hl : l.length ≤ 13) (n : Note) (b : Bool) : (addY l n b = (l ++ [n], 0) ∧ Right l b = true ∧ Right (l ++ [n]) b = true) ∨
    ∃ k : Int, k ≠ 0 ∧ addY l n b = ([], k) ∧ (Right l b && Right (l ++ [n]) b) = false ∧ (k = 17 → Right l b = true ∧ valid [n] = true) := by
  unfold addY
  split
  · rename_i h
    refine .inr ⟨1, by decide, rfl, ?_, fun h => absurd h (by decide)⟩
    rw [← Bool.not_eq_true, Bool.and_eq_true]
    rintro ⟨h1, h2⟩
    rw [h1, right_one, (valid_left (right_valid h2)).2] at h
    cases h
  · rename_i h
    rw [Bool.not_eq_true, Bool.or_eq_false_iff, Bool.not_eq_false', Bool.not_eq_false', right_one] at h
    split
    · omega
    · split
      · rename_i h2
        exact .inr ⟨17, by decide, rfl, by rw [h2, Bool.and_false], fun _ => h⟩
      · rename_i h2
        exact .inl ⟨rfl, h.1, by simpa using h2⟩
theorem lessN_last (l : List Note) (n : Note) : lessN (l ++ [n]) l.length = l := by
  unfold lessN
  simp
theorem weak_none {l : List Note} {n : Note} {b : Bool} (hv : valid (l ++ [n]) = true) : weakL l (l ++ [n]) b = [] := by
  refine IsWeak.uniq (weakL_is l (l ++ [n]) b) ⟨.nil, fun x => ⟨fun h => (by cases h), fun ⟨y, hy, h, _⟩ => ?_⟩⟩
  exfalso
  unfold isWk at h
  rw [Bool.and_eq_true, decide_eq_true_eq] at h
  have := Low_mono hv (a := l) (fun n hn => by simp [hn]) (by simp) b y.m y.w
  omega
theorem high_new {l : List Note} {n : Note} (hv : valid (l ++ [n]) = true) (hn : n.n = true) : High (l ++ [n]) n.m n.w < n.l := by
  unfold High
  rw [if_pos hv]
  have := ((high_ge n.m n.w _ (l ++ [n]) (valid_all hv)).1 (Int.le_refl _)).2 n (by simp) (by unfold den; rw [hn]; simp)
  omega
theorem low_new {l : List Note} {n : Note} {b : Bool} (hv : valid (l ++ [n]) = true) (hn : n.n = false) : Low (l ++ [n]) b n.m n.w ≥ n.l := by
  unfold Low
  rw [if_pos hv]
  exact ((low_le b n.m n.w _ (l ++ [n])).1 (Int.le_refl _)).2 n (by simp) (by unfold says; rw [hn]; simp)
theorem less_bad {l : List Note} {b : Bool} {i : Int} (hl : l.length ≤ 13) (r : Bool) (hr : Right l b = true → r = Right (withY l i).1 b) (hr2 : Right l b = true → 0 ≤ i ∧ i < l.length → Right (withY l i).1 b = true) :
    ((((withY l i).2 == 0) != (decide (i ≥ 0) && decide (i < (l.length : Int)))) || (((withY l i).2 == 0) && (((((withY l i).1.length : Int) != IntKind.i64.wrap ((l.length : Int) - 1))) || (Right l b && !r)))) = false := by
  by_cases hi : i < 0 ∨ (l.length : Int) ≤ i
  · have e : withY l i = ([], 4) := if_pos hi
    rw [e]
    have : (decide (i ≥ 0) && decide (i < (l.length : Int))) = false := by
      rw [Bool.and_eq_false_iff, decide_eq_false_iff_not, decide_eq_false_iff_not]
      omega
    rw [this]
    rfl
  · have e : withY l i = (lessN l i.toNat, 0) := if_neg hi
    have hlen := lessN_len (l := l) (k := i.toNat) (by omega)
    have h1 : (decide (i ≥ 0) && decide (i < (l.length : Int))) = true := by
      rw [Bool.and_eq_true, decide_eq_true_eq, decide_eq_true_eq]
      omega
    have h2 : ((((withY l i).1.length : Int) != IntKind.i64.wrap ((l.length : Int) - 1))) = false := by
      rw [e, wr (by omega) (by omega), bne_eq_false_iff_eq]
      show ((lessN l i.toNat).length : Int) = _
      omega
    have h3 : (Right l b && !r) = false := by
      cases hR : Right l b with
      | false => rfl
      | true => rw [hr hR, hr2 hR (by omega)]; rfl
    rw [h1, h2, h3, e]
    rfl
theorem right_less {l : List Note} {b : Bool} {i : Int} (h : Right l b = true) (hi : 0 ≤ i ∧ i < l.length) : Right (withY l i).1 b = true := by
  have e : withY l i = (lessN l i.toNat, 0) := if_neg (by omega)
  rw [e]
  have hv := right_valid h
  exact right_sub (valid_of hv (fun n hn => mem_lessN hn) (lessN_le _ _)) hv (subN_of fun n hn => mem_lessN hn) b h
set_option maxRecDepth 20000 in
set_option maxHeartbeats 8000000 in
theorem receiptAdds_fn (l : List Note) (n : Note) (b : Bool) (i : Int) : Ctr Try.prog 7 [.rs 5 l.length (rowsN l), .ag n.av, .b b, .i .i64 i] [] (.b true) := by
  refine fn_of_exec tabOk Try.func7 (by kernel_rfl) rfl (N := Try.f7.ntmps) rfl (res := [.tmp 8]) rfl rfl [] ?_
  repeat refine Or.inl ?_
  refine ⟨[], _, smallN_fn, ?_⟩
  repeat refine Or.inl ?_
  refine ⟨fun _ => RetIs.b rfl, fun hf => ?_⟩
  have hf : decide ((l.length : Int) > 13) = false := hf
  rw [decide_eq_false_iff_not] at hf
  have hlen : (l ++ [n]).length = 0 + l.length + 1 := by simp
  have hA : ∀ f, AVEq (.rs 5 (l ++ [n]).length (rowsN (l ++ [n]))) (.rs 5 (0 + l.length + 1) (catG (0 + l.length) (catG 0 f (rowsN l)) (rowOf 5 n.av))) := fun f => ⟨rfl, hlen.symm, fun k hk => by
    have := rsnocN l n k hk
    rw [← this]
    rfl⟩
  have cR : ∀ f, Ctr Try.prog 36 [.rs 5 (0 + l.length + 1) (catG (0 + l.length) (catG 0 f (rowsN l)) (rowOf 5 n.av)), .b b] [] (.b (Right (l ++ [n]) b)) := fun f => Ctr.of_eq (args := [.rs 5 (l ++ [n]).length (rowsN (l ++ [n])), .b b]) ⟨hA f, AVEq.refl _⟩ (Right_fn (l ++ [n]) (by omega) b)
  have c1 : Ctr Try.prog 36 [.rs 5 1 (rowOf 5 n.av), .b b] [] (.b (valid [n])) := by
    have := Ctr.of_eq (args := [.rs 5 [n].length (rowsN [n]), .b b]) (args' := [.rs 5 1 (rowOf 5 n.av), .b b]) ⟨onesN n, AVEq.refl _⟩ (Right_fn [n] (by simp) b)
    rwa [right_one'] at this
  have hadd := Add_fn l (by omega) n b
  have hwith := Withdraw_fn l (by omega) i
  have a2 := withY_len l i
  rcases add_cases (l := l) (by omega) n b with ⟨e, hR, hR2⟩ | ⟨k, hk, e, hno, h17⟩
  rotate_left
  · rw [e] at hadd
    have hk2 : (k == 0) = false := beq_eq_false_iff_ne.2 hk
    have hk3 : (k != 0) = true := bne_iff_ne.2 hk
    repeat refine Or.inl ?_
    refine ⟨_, _, hadd, ?_⟩
    repeat refine Or.inl ?_
    refine ⟨fits (by omega), fits (by omega), ?_⟩
    repeat refine Or.inl ?_
    refine ⟨[], _, Right_fn l (by omega) b, ?_⟩
    repeat refine Or.inl ?_
    refine ⟨[], _, fun _ => cR _, ?_⟩
    repeat refine Or.inl ?_
    refine ⟨[], _, fun _ => c1, ?_⟩
    repeat refine Or.inl ?_
    refine ⟨fun h => ?_, fun _ => ?_⟩
    · exfalso
      have h : ((((k == 0) != (Right l b && Right (l ++ [n]) b)) || ((k != 0) && false)) || ((k == 17) && (!Right l b || !valid [n]))) = true := h
      rw [hk2, hno, Bool.and_false] at h
      have h : ((k == 17) && (!Right l b || !valid [n])) = true := h
      rw [Bool.and_eq_true, beq_iff_eq] at h
      obtain ⟨h1, h2⟩ := h
      obtain ⟨h3, h4⟩ := h17 h1
      rw [h3, h4] at h2
      cases h2
    repeat refine Or.inl ?_
    refine ⟨_, _, hwith, ?_⟩
    repeat refine Or.inl ?_
    refine ⟨[], _, fun _ => Right_fn (withY l i).1 (by omega) b, ?_⟩
    repeat refine Or.inl ?_
    refine ⟨fun h => absurd ((less_bad (by omega) (Right (withY l i).1 b) (fun _ => rfl) right_less).symm.trans h) (by decide), fun _ => ?_⟩
    repeat refine Or.inl ?_
    exact ⟨fun _ => RetIs.b rfl, fun h => absurd (hk3.symm.trans h) (by decide)⟩
  rw [e] at hadd
  have hv := right_valid hR2
  have hback := Withdraw_fn (l ++ [n]) (by omega) (l.length : Int)
  have eb : withY (l ++ [n]) (l.length : Int) = (l, 0) := by
    unfold withY
    rw [if_neg (by omega), Int.toNat_natCast, lessN_last]
  rw [eb] at hback
  have hweak := Weaker_fn l (l ++ [n]) (by omega) (by omega) b
  rw [weak_none hv] at hweak
  have csame : ∀ f, Ctr Try.prog 27 [.rs 5 (l ++ [n]).length (rowsN (l ++ [n])), .rs 5 (0 + l.length + 1) (catG (0 + l.length) (catG 0 f (rowsN l)) (rowOf 5 n.av))] [] (.b true) := fun f => Ctr.of_eq (args := [.rs 5 (l ++ [n]).length (rowsN (l ++ [n])), .rs 5 (l ++ [n]).length (rowsN (l ++ [n]))]) ⟨AVEq.refl _, hA f⟩ (same_self (l ++ [n]) (by omega))
  repeat refine Or.inl ?_
  refine ⟨_, _, hadd, ?_⟩
  repeat refine Or.inl ?_
  refine ⟨fits (by omega), fits (by omega), ?_⟩
  repeat refine Or.inl ?_
  refine ⟨[], _, Right_fn l (by omega) b, ?_⟩
  repeat refine Or.inl ?_
  refine ⟨[], _, fun _ => cR _, ?_⟩
  repeat refine Or.inl ?_
  refine ⟨[], _, fun _ => c1, ?_⟩
  repeat refine Or.inl ?_
  refine ⟨fun h => ?_, fun _ => ?_⟩
  · exfalso
    have h : (((((0 : Int) == 0) != (Right l b && Right (l ++ [n]) b)) || (((0 : Int) != 0) && decide (((l ++ [n]).length : Int) > 0))) || (((0 : Int) == 17) && (!Right l b || !valid [n]))) = true := h
    rw [hR, hR2] at h
    cases h
  repeat refine Or.inl ?_
  refine ⟨_, _, hwith, ?_⟩
  repeat refine Or.inl ?_
  refine ⟨[], _, fun _ => Right_fn (withY l i).1 (by omega) b, ?_⟩
  repeat refine Or.inl ?_
  refine ⟨fun h => absurd ((less_bad (by omega) (Right (withY l i).1 b) (fun _ => rfl) right_less).symm.trans h) (by decide), fun _ => ?_⟩
  repeat refine Or.inl ?_
  refine ⟨fun h => (by cases h), fun _ => ?_⟩
  repeat refine Or.inl ?_
  refine ⟨_, _, hback, ?_⟩
  repeat refine Or.inl ?_
  refine ⟨[], _, csame _, ?_⟩
  repeat refine Or.inl ?_
  refine ⟨[], _, fun _ => same_self l (by omega), ?_⟩
  repeat refine Or.inl ?_
  refine ⟨_, _, fun _ => hweak, ?_⟩
  repeat refine Or.inl ?_
  refine ⟨fun h => (by cases h), fun _ => ?_⟩
  repeat refine Or.inl ?_
  refine ⟨fun h => ?_, fun h => ?_⟩
  · have h : n.n = true := h
    repeat refine Or.inl ?_
    refine ⟨[], _, fun _ => High_fn (l ++ [n]) (by omega) b n.m n.w, ?_⟩
    refine RetIs.b ?_
    show (true && decide (High (l ++ [n]) n.m n.w < n.l)) = true
    rw [decide_eq_true (high_new hv h)]
    rfl
  · have h : n.n = false := h
    repeat refine Or.inl ?_
    refine ⟨[], _, fun _ => Low_fn (l ++ [n]) (by omega) b n.m n.w, ?_⟩
    refine RetIs.b ?_
    show (true && decide (Low (l ++ [n]) b n.m n.w ≥ n.l)) = true
    rw [decide_eq_true (low_new hv h)]
    rfl
end Go.Proofs.Ytnookbebiacaeaa
end
