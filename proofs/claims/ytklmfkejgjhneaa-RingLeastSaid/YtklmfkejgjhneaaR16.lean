/-
  RingLeast: no closed bridge is closed for nothing.
-/
import Derived.Test.YtklmfkejgjhneaaR16p
namespace Go.Proofs.Ytklmfkejgjhneaa
open Go.Eng

theorem snocL (c : List Int) (m : Int) : ∀ k, k < (c ++ [m]).length → catG (0 + c.length) (catG 0 (rowOf 1 []) (rowsI c)) (rowOf 1 [.i .i64 m]) k = rowsI (c ++ [m]) k := by
  intro k hk
  rw [← snocZ c m k hk]
  unfold catG
  rw [Nat.zero_add]
  by_cases h : k < c.length
  · rw [if_pos h, if_pos h, if_neg (Nat.not_lt_zero k)]
    rfl
  · rw [if_neg h, if_neg h]
theorem moreL_succ (c : List Int) (i : Int) (k : Nat) : moreL c i (k + 1) = if (decide ((k : Int) = i) || hasN c (k : Int)) = true then moreL c i k ++ [(k : Int)] else moreL c i k := by
  unfold moreL
  rw [List.range_succ, List.filter_append, List.map_append]
  cases h : (decide ((k : Int) = i) || hasN c (k : Int)) with
  | true => simp [List.filter, h]
  | false => simp [List.filter, h]
theorem moreL_len (c : List Int) (i : Int) (k : Nat) : (moreL c i k).length ≤ k := by
  unfold moreL
  rw [List.length_map]
  exact Nat.le_trans (List.length_filter_le _ _) (by simp)
theorem lessL_len {c : List Int} {k : Nat} (hk : k < c.length) : (lessL c k).length + 1 = c.length := by
  unfold lessL
  rw [List.length_append, List.length_take, List.length_drop]
  omega
theorem lessL_get (c : List Int) (k q : Nat) (hk : k < c.length) : (lessL c k).getD q 0 = if q < k then c.getD q 0 else c.getD (q + 1) 0 := by
  unfold lessL
  simp only [List.getD]
  by_cases h : q < k
  · rw [if_pos h, List.getElem?_append_left (by rw [List.length_take]; omega), List.getElem?_take, if_pos h]
  · rw [if_neg h, List.getElem?_append_right (by rw [List.length_take]; omega), List.getElem?_drop, List.length_take]
    congr 2
    omega
theorem less_row (c : List Int) (Z : Int) (hZ : Z.toNat < c.length) (h0 : 0 ≤ Z) : AVEq (.rs 1 (lessL c Z.toNat).length (rowsI (lessL c Z.toNat)))
    (.rs 1 (0 + (Z - 0).toNat + ((c.length : Int) - (Z + 1)).toNat) (catG (0 + (Z - 0).toNat) (catG 0 (rowOf (0 + 1) []) fun q => rowsI c (Int.toNat 0 + q)) fun q => rowsI c ((Z + 1).toNat + q))) := by
  have hl := lessL_len hZ
  refine ⟨rfl, by omega, fun q hq => ?_⟩
  unfold catG rowsI
  rw [lessL_get c _ _ hZ]
  by_cases h : q < Z.toNat
  · rw [if_pos (by omega), if_neg (Nat.not_lt_zero q), if_pos h]
    have e : Int.toNat 0 + (q - 0) = q := by omega
    dsimp only
    rw [e]
  · rw [if_neg (by omega), if_neg h]
    have e : (Z + 1).toNat + (q - (0 + (Z - 0).toNat)) = q + 1 := by omega
    dsimp only
    rw [e]

set_option maxRecDepth 20000 in
set_option maxHeartbeats 2000000 in
theorem ringLeast_fn (B : List Bri) (n : Int) (Q : List Int) (s : Int) (hs : (Lit.int .u8 s).wf = true) : Ctr Try.prog 17 [.rs 3 B.length (rowsB B), .i .i64 n, .rs 1 Q.length (rowsI Q), .i .u8 s] [] (.b true) := by
  refine fn_of_exec tabOk Try.func17 (by kernel_rfl) rfl (N := Try.f17.ntmps) rfl (res := [.tmp 8]) rfl rfl [] ?_
  refine .inl ⟨[], _, smallR_fn, ?_⟩
  repeat refine Or.inl ?_
  refine ⟨[], _, fun hg => rRightB_fn B (by
    have hg : (decide ((B.length : Int) > 40) || decide ((Q.length : Int) > 20)) = false := hg.1
    rw [Bool.or_eq_false_iff, decide_eq_false_iff_not] at hg
    omega) n, ?_⟩
  refine ⟨fun hf => RetIs.b rfl, fun hf => ?_⟩
  have hf : ((decide ((B.length : Int) > 40) || decide ((Q.length : Int) > 20)) || !validB B n) = false := hf
  simp only [Bool.or_eq_false_iff, decide_eq_false_iff_not, Bool.not_eq_false'] at hf
  have hV := validB_iff.1 hf.2
  have hB : B.length ≤ 40 := by omega
  have hh := hV.hi
  have hlo := hV.lo
  refine .inr (.inr ⟨false, [], rfl, List Int × List Int × Int, _, _, _, _, Cut_fn B (by omega) n, fun y hy => ?_⟩)
  cases hch : chosenB B with
  | none =>
    have h2 := (hy.bad hf.2 hch).1
    obtain ⟨y1, y2⟩ := y
    dsimp only at h2
    subst h2
    repeat refine Or.inl ?_
    refine ⟨fun _ => RetIs.b rfl, fun h => ?_⟩
    have h : ((19 : Int) != 0) = false := h
    exact absurd h (by decide)
  | some t =>
    obtain ⟨o, c⟩ := t
    have hC := cut_ok hV hch
    have hy2 := hy.el fun _ => by rw [hch]; exact fun h => by cases h
    have e : cutY B n = (c, ranksL B o n, 0) := by
      unfold cutY
      rw [if_pos hf.2, hch]
    rw [e] at hy2
    subst hy2
    have hlen := hy.len
    dsimp only at hlen
    have hRl : ((ranksL B o n).length : Int) = n := by unfold ranksL; rw [rankIt_len, List.length_replicate]; omega
    have hless := fun k (hk : k < c.length) => less_bad hC hk (ranksL B o n)
    have hless2 := fun k (hk : k < c.length) => less_bad hC hk Q
    have hmore := fun i => more_bad hV (c := c) hRl (i := i)
    generalize ranksL B o n = R at *
    repeat refine Or.inl ?_
    refine ⟨fun h => ?_, fun _ => ?_⟩
    · have h : ((0 : Int) != 0) = true := h
      exact absurd h (by decide)
    repeat refine Or.inl ?_
    refine ⟨[], Nat, fun k => k ≤ c.length, fun k => [⟨13, [], .i .i64 k⟩], fun _ => [], fun k => c.length - k,
      ⟨0, [], Nat.zero_le _, rfl, rfl, rfl, rfl, rfl, ⟨rfl, rfl⟩, trivial⟩, ?_⟩
    intro k hk
    refine .inl ⟨fun hc => ?_, fun hc => ?_⟩
    · have hc : decide ((k : Int) < (c.length : Int)) = true := hc
      have hc := dlt hc
      have ek : (k : Int).toNat = k := Int.toNat_natCast k
      have w : IntKind.i64.wrap ((k : Int) + 1) = ((k + 1 : Nat) : Int) := wr (by omega) (by omega)
      have hi := hC.cin _ (getD_memD 0 (show k < c.length by omega))
      rw [← ek] at hi
      have hb := hV.br hi.1
      have hmem : c.getD (k : Int).toNat 0 ∈ c := by rw [ek]; exact getD_memD 0 (by omega)
      have q1 : (k : Int) < (c.length : Int) := by omega
      have q2 : (k : Int).toNat < c.length := by omega
      repeat refine Or.inl ?_
      refine ⟨⟨by omega, q1⟩, q2, fun _ => ⟨by omega, q1⟩, fun _ => q2, ⟨fun h => ?_, fun _ => ?_⟩⟩
      · have h : (decide (c.getD (k : Int).toNat 0 < 0) || decide (c.getD (k : Int).toNat 0 ≥ B.length)) = true := h
        simp only [Bool.or_eq_true, decide_eq_true_eq] at h
        omega
      have hmo : ∀ i, i ∈ othersL B c B.length ↔ i ∈ o := fun i => by rw [mem_others, hC.mem]
      have hback : hasN (RoundsL B c (br B (c.getD (k : Int).toNat 0)).to) (br B (c.getD (k : Int).toNat 0)).fr = true := by
        rw [RoundsL_eq hV ⟨hb.2.2.1, by omega⟩, hasN_iff, mem_ReachL hV (others_ok B c) hb.2.2.1 hb.2.2.2]
        exact (hC.cr _ hmem).mono fun u v => (Ed_congr hmo u v).2
      have hrl := RoundsL_len B c (B.getD (c.getD (k : Int).toNat 0).toNat dB).to
      repeat refine Or.inl ?_
      refine ⟨⟨by omega, q1⟩, q2, ⟨hi.1.1, hi.1.2⟩, ?_⟩
      repeat refine Or.inl ?_
      refine ⟨_, _, fun _ => Rounds_fn B (by omega) c (by omega) (B.getD (c.getD (k : Int).toNat 0).toNat dB).to, ?_⟩
      repeat refine Or.inl ?_
      refine ⟨[], _, fun _ => hasR_fn (RoundsL B c (B.getD (c.getD (k : Int).toNat 0).toNat dB).to) (by omega) (B.getD (c.getD (k : Int).toNat 0).toNat dB).fr, ?_⟩
      repeat refine Or.inl ?_
      refine ⟨fun h => ?_, fun _ => ?_⟩
      · have h : (!(br B (c.getD (k : Int).toNat 0)).own || !hasN (RoundsL B c (br B (c.getD (k : Int).toNat 0)).to) (br B (c.getD (k : Int).toNat 0)).fr) = true := h
        rw [hi.2, hback] at h
        cases h
      exact ⟨k + 1, [], by dsimp only; omega, by dsimp only; omega, rfl, rfl, rfl, rfl, rfl, ⟨rfl, w⟩, trivial⟩
    have hc : decide ((k : Int) < (c.length : Int)) = false := hc
    have hc := dnlt hc
    obtain rfl : k = c.length := by omega
    refine .inr ⟨[], Unit, fun _ => True, fun _ => [], fun _ => [], ?_, fun _ _ => ?_⟩
    · repeat refine Or.inl ?_
      refine ⟨fun h => ?_, fun h => ?_⟩
      · have h : decide ((c.length : Int) > 0) = true := h
        rw [decide_eq_true_eq] at h
        have hs2 : (decide (IntKind.u8.min ≤ s) && decide (s ≤ IntKind.u8.max)) = true := hs
        have e1 : IntKind.u8.min = 0 := rfl
        have e2 : IntKind.u8.max = 255 := rfl
        rw [e1, e2, Bool.and_eq_true, decide_eq_true_eq, decide_eq_true_eq] at hs2
        have hw : IntKind.i64.wrap s = s := wr (by omega) (by omega)
        have hZ : 0 ≤ (IntKind.i64.wrap s).tmod (c.length : Int) ∧ (IntKind.i64.wrap s).tmod (c.length : Int) < c.length := by
          rw [hw]
          exact ⟨Int.tmod_nonneg _ hs2.1, Int.tmod_lt_of_pos s (by omega)⟩
        have hw2 : IntKind.i64.wrap ((IntKind.i64.wrap s).tmod (c.length : Int) + 1) = (IntKind.i64.wrap s).tmod (c.length : Int) + 1 := wr (by omega) (by omega)
        refine ⟨by dsimp only; omega, ?_⟩
        refine ⟨⟨by omega, by dsimp only; omega, by dsimp only; omega⟩, fits (by dsimp only; omega), ⟨by dsimp only; omega, by dsimp only; omega, by dsimp only; omega⟩, fits (by dsimp only; omega), ?_⟩
        have hZn : ((IntKind.i64.wrap s).tmod (c.length : Int)).toNat < c.length := by omega
        have hl0 := hless _ hZn
        have hl2 := hless2 _ hZn
        have hlen1 : (lessL c ((IntKind.i64.wrap s).tmod (c.length : Int)).toNat).length + 1 = c.length := lessL_len hZn
        have hL : AVEq (.rs 1 (lessL c ((IntKind.i64.wrap s).tmod (c.length : Int)).toNat).length (rowsI (lessL c ((IntKind.i64.wrap s).tmod (c.length : Int)).toNat)))
            (.rs 1 (0 + ((IntKind.i64.wrap s).tmod (c.length : Int) - 0).toNat + ((c.length : Int) - IntKind.i64.wrap ((IntKind.i64.wrap s).tmod (c.length : Int) + 1)).toNat)
              (catG (0 + ((IntKind.i64.wrap s).tmod (c.length : Int) - 0).toNat) (catG 0 (rowOf (0 + 1) []) fun q => rowsI c (Int.toNat 0 + q)) fun q => rowsI c ((IntKind.i64.wrap ((IntKind.i64.wrap s).tmod (c.length : Int) + 1)).toNat + q))) := by
          rw [hw2]
          exact less_row c _ hZn hZ.1
        repeat refine Or.inl ?_
        refine ⟨[], _, Ctr.of_eq (args := [.rs 3 B.length (rowsB B), .i .i64 n, .rs 1 (lessL c ((IntKind.i64.wrap s).tmod (c.length : Int)).toNat).length (rowsI (lessL c ((IntKind.i64.wrap s).tmod (c.length : Int)).toNat)), .rs 1 R.length (rowsI R)]) ⟨AVEq.refl _, AVEq.refl _, hL, AVEq.refl _⟩ (Check_fn B (by omega) n (lessL c ((IntKind.i64.wrap s).tmod (c.length : Int)).toNat) (by omega) R (by omega)), ?_⟩
        repeat refine Or.inl ?_
        refine ⟨[], _, fun _ => Ctr.of_eq (args := [.rs 3 B.length (rowsB B), .i .i64 n, .rs 1 (lessL c ((IntKind.i64.wrap s).tmod (c.length : Int)).toNat).length (rowsI (lessL c ((IntKind.i64.wrap s).tmod (c.length : Int)).toNat)), .rs 1 Q.length (rowsI Q)]) ⟨AVEq.refl _, AVEq.refl _, hL, AVEq.refl _⟩ (Check_fn B (by omega) n (lessL c ((IntKind.i64.wrap s).tmod (c.length : Int)).toNat) (by omega) Q (by omega)), ?_⟩
        refine ⟨fun h6 => ?_, fun _ => ?_⟩
        · have h6 : ((checkV B n (lessL c ((IntKind.i64.wrap s).tmod (c.length : Int)).toNat) R == 0) || (checkV B n (lessL c ((IntKind.i64.wrap s).tmod (c.length : Int)).toNat) Q == 0)) = true := h6
          rw [Bool.or_eq_true, beq_iff_eq, beq_iff_eq] at h6
          exact (h6.elim hl0 hl2).elim
        exact ⟨(), [], trivial, rfl, rfl, rfl, rfl, rfl, trivial, trivial⟩
      exact ⟨(), [], trivial, rfl, rfl, rfl, rfl, rfl, trivial, trivial⟩
    repeat refine Or.inl ?_
    refine ⟨[], Nat, fun k => k ≤ B.length, fun k => [⟨17, [], .i .i64 k⟩], fun _ => [], fun k => B.length - k,
      ⟨0, [], Nat.zero_le _, rfl, rfl, rfl, rfl, rfl, ⟨rfl, rfl⟩, trivial⟩, ?_⟩
    intro k hk
    refine .inl ⟨fun hc => ?_, fun hc => RetIs.b rfl⟩
    have hc := dlt hc
    have ek : (k : Int).toNat = k := Int.toNat_natCast k
    have w : IntKind.i64.wrap ((k : Int) + 1) = ((k + 1 : Nat) : Int) := wr (by omega) (by omega)
    repeat refine Or.inl ?_
    refine ⟨⟨by omega, by omega⟩, ?_⟩
    have hcl : c.length ≤ 200 := hlen.1
    have hbk := hV.br (show 0 ≤ (k : Int) ∧ (k : Int) < B.length from ⟨by omega, by omega⟩)
    have hargs : AVEq (.rs 1 (c ++ [(k : Int)]).length (rowsI (c ++ [(k : Int)]))) (.rs 1 (0 + c.length + 1) (catG (0 + c.length) (catG 0 (rowOf 1 []) (rowsI c)) (rowOf 1 [.i .i64 (k : Int)]))) :=
      ⟨rfl, by simp, fun q hq => snocL c (k : Int) q hq⟩
    have hrl := RoundsL_len B (c ++ [(k : Int)]) (B.getD (k : Int).toNat dB).to
    repeat refine Or.inl ?_
    refine ⟨_, _, fun _ => hasR_fn c (by omega) (k : Int), ?_⟩
    refine ⟨fun _ => fits (by dsimp only; omega), fun _ => fits (by dsimp only; omega), fun _ => ⟨by omega, by omega⟩, ?_⟩
    repeat refine Or.inl ?_
    refine ⟨_, _, fun _ => Ctr.of_eq (args := [.rs 3 B.length (rowsB B), .rs 1 (c ++ [(k : Int)]).length (rowsI (c ++ [(k : Int)])), .i .i64 (B.getD (k : Int).toNat dB).to]) ⟨AVEq.refl _, hargs, AVEq.refl _⟩ (Rounds_fn B (by omega) (c ++ [(k : Int)]) (by simp; omega) (B.getD (k : Int).toNat dB).to), ?_⟩
    refine ⟨fun _ => ⟨by omega, by omega⟩, ?_⟩
    repeat refine Or.inl ?_
    refine ⟨_, _, fun _ => hasR_fn (RoundsL B (c ++ [(k : Int)]) (B.getD (k : Int).toNat dB).to) (by omega) (B.getD (k : Int).toNat dB).fr, ?_⟩
    refine ⟨fun h7 => ?_, fun h7 => ?_⟩
    · exact ⟨k + 1, [], by dsimp only; omega, by dsimp only; omega, rfl, rfl, rfl, rfl, rfl, ⟨rfl, w⟩, trivial⟩
    have h7 : ((!(br B (k : Int)).own || hasN c (k : Int)) || hasN (RoundsL B (c ++ [(k : Int)]) (br B (k : Int)).to) (br B (k : Int)).fr) = false := h7
    simp only [Bool.or_eq_false_iff] at h7
    have hm18 := hmore (k : Int) ⟨by omega, by omega⟩ fun hr => by
      have h8 := h7.2
      rw [RoundsL_eq hV ⟨hbk.2.2.1, by omega⟩, Bool.eq_false_iff] at h8
      exact h8 (hasN_iff.2 ((mem_ReachL hV (others_ok B _) hbk.2.2.1 hbk.2.2.2).2 hr))
    repeat refine Or.inl ?_
    refine ⟨[(18, 3, 1)], Nat, fun m => m ≤ B.length, fun m => [⟨19, [], .i .i64 m⟩, ⟨18, [], .so 7⟩], fun m => [⟨7, [], .row 3 1 (moreL c k m).length (rowsI (moreL c k m))⟩], fun m => B.length - m,
      ⟨0, [], Nat.zero_le _, rfl, rfl, rfl, rfl, rfl, ⟨⟨rfl, rfl⟩, rfl⟩, ⟨rfl, rfl, rfl, fun j hj => by cases hj⟩⟩, ?_⟩
    intro m hm
    have hml := moreL_len c k m
    refine .inl ⟨fun hc2 => ?_, fun hc2 => ?_⟩
    · have hc2 := dlt hc2
      have hs := moreL_succ c k m
      have w2 : IntKind.i64.wrap ((m : Int) + 1) = ((m + 1 : Nat) : Int) := wr (by omega) (by omega)
      repeat refine Or.inl ?_
      refine ⟨_, _, fun _ => hasR_fn c (by omega) (m : Int), ⟨fun h9 => ?_, fun h9 => ?_⟩⟩
      · have h9 : (((m : Int) == (k : Int)) || hasN c (m : Int)) = true := h9
        rw [if_pos (show (decide ((m : Int) = (k : Int)) || hasN c (m : Int)) = true from h9)] at hs
        exact ⟨fits (by omega), m + 1, [(7, 9)], by dsimp only; omega, by dsimp only; omega, rfl, rfl, rfl, rfl, rfl, ⟨⟨rfl, w2⟩, rfl⟩, snocZ_row _ _ hs⟩
      · have h9 : (((m : Int) == (k : Int)) || hasN c (m : Int)) = false := h9
        rw [if_neg (by rw [show (decide ((m : Int) = (k : Int)) || hasN c (m : Int)) = false from h9]; decide)] at hs
        exact ⟨m + 1, [], by dsimp only; omega, by dsimp only; omega, rfl, rfl, rfl, rfl, rfl, ⟨⟨rfl, w2⟩, rfl⟩, same_row hs⟩
    have hc2 := dnlt hc2
    obtain rfl : m = B.length := by omega
    repeat refine Or.inl ?_
    refine ⟨[], _, Check_fn B (by omega) n (moreL c k B.length) (by omega) R (by omega), ⟨fun h10 => ?_, fun _ => ?_⟩⟩
    · have h10 : (checkV B n (moreL c k B.length) R != 18) = true := h10
      rw [hm18] at h10
      cases h10
    exact ⟨k + 1, [], by dsimp only; omega, by dsimp only; omega, rfl, rfl, rfl, rfl, rfl, ⟨rfl, w⟩, trivial⟩
end Go.Proofs.Ytklmfkejgjhneaa
