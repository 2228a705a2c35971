/-
  Bridges: Check of the reference.
-/
import Derived.Test.YtklmfkejgjhneaaR8
namespace Go.Proofs.Ytklmfkejgjhneaa
open Go.Eng

set_option maxRecDepth 20000 in
set_option maxHeartbeats 2000000 in
theorem rCheck_fn (B : List Bri) (hB : B.length < 1000000) (n : Int) (c : List Int) (hcl : c.length < 1000000) (R : List Int) (_hR : R.length < 1000000) :
    Ctr Try.prog 61 [.rs 3 B.length (rowsB B), .i .i64 n, .rs 1 c.length (rowsI c), .rs 1 R.length (rowsI R)] [] (.i .i64 (checkV B n c R)) := by
  refine fn_of_exec tabOk Try.func61 (by kernel_rfl) rfl (N := Try.f61.ntmps) rfl (res := [.tmp 8]) rfl rfl [] ?_
  repeat refine Or.inl ?_
  refine ⟨[], _, rRightB_fn B (by omega) n, ⟨fun h => ?_, fun h => ?_⟩⟩
  · have h : (!validB B n) = true := h
    refine RetIs.i ?_
    unfold checkV
    rw [if_pos (by simpa using h)]
  have h : (!validB B n) = false := h
  have h : validB B n = true := by simpa using h
  have hV := validB_iff.1 h
  have hBl := hV.len
  have hh := hV.hi
  repeat refine Or.inl ?_
  refine ⟨fun h2 => ?_, fun h2 => ?_⟩
  · have h2 : ((R.length : Int) != n) = true := h2
    refine RetIs.i ?_
    unfold checkV
    rw [if_neg (by rw [h]; decide), if_pos h2]
  have h2 : ((R.length : Int) != n) = false := h2
  have hRn : (R.length : Int) = n := by simpa using h2
  have hcv : checkV B n c R = if (List.range c.length).any (cAt B c) = true then 18 else
      if (othersL B c B.length).any (upB B R) = true then 18 else if c.any (looseB B (othersL B c B.length)) = true then 18 else 0 := by
    unfold checkV
    rw [if_neg (by rw [h]; decide), if_neg (by rw [h2]; decide)]
  rw [hcv]
  repeat refine Or.inl ?_
  refine ⟨[], Nat, fun k => k ≤ c.length ∧ (List.range k).any (cAt B c) = false, fun k => [⟨9, [], .i .i64 k⟩], fun _ => [], fun k => c.length - k,
    ⟨0, [], ⟨Nat.zero_le _, rfl⟩, rfl, rfl, rfl, rfl, rfl, ⟨rfl, rfl⟩, trivial⟩, ?_⟩
  rintro k ⟨hk, hno⟩
  refine .inl ⟨fun hc => ?_, fun hc => ?_⟩
  · have hc := dlt hc
    have ek : (k : Int).toNat = k := Int.toNat_natCast k
    have w : IntKind.i64.wrap ((k : Int) + 1) = ((k + 1 : Nat) : Int) := wr (by omega) (by omega)
    have hs := range_any (p := cAt B c) k
    rw [hno, Bool.false_or] at hs
    have w2 : IntKind.i64.wrap ((k : Int) - 1) = (k : Int) - 1 := wr (by omega) (by omega)
    have e1 : c.getD (IntKind.i64.wrap ((k : Int) - 1)).toNat 0 = c.getD (k - 1) 0 := by
      rw [w2]
      congr 1
      omega
    repeat refine Or.inl ?_
    refine ⟨⟨by omega, by omega⟩, fun _ => ⟨by omega, by omega⟩, fun hg => ?_, fun _ => ⟨by omega, by omega⟩, ?_⟩
    · have hg : decide ((k : Int) > 0) = true := hg.1
      rw [decide_eq_true_eq] at hg
      exact ⟨by omega, by omega⟩
    have hcat : cAt B c k = (((decide (c.getD (k : Int).toNat 0 < 0) || decide (c.getD (k : Int).toNat 0 ≥ B.length)) || (decide ((k : Int) > 0) && decide (c.getD (IntKind.i64.wrap ((k : Int) - 1)).toNat 0 ≥ c.getD (k : Int).toNat 0))) || !(br B (c.getD (k : Int).toNat 0)).own) := by
      rw [e1, ek]
      rfl
    repeat refine Or.inl ?_
    refine ⟨fun h3 => ?_, fun h3 => ?_⟩
    · have h3 : ((decide (c.getD (k : Int).toNat 0 < 0) || decide (c.getD (k : Int).toNat 0 ≥ B.length)) || (decide ((k : Int) > 0) && decide (c.getD (IntKind.i64.wrap ((k : Int) - 1)).toNat 0 ≥ c.getD (k : Int).toNat 0))) = true := h3
      rw [h3, Bool.true_or] at hcat
      refine RetIs.i ?_
      rw [if_pos (range_any_yes (by omega) hcat)]
    have h3 : ((decide (c.getD (k : Int).toNat 0 < 0) || decide (c.getD (k : Int).toNat 0 ≥ B.length)) || (decide ((k : Int) > 0) && decide (c.getD (IntKind.i64.wrap ((k : Int) - 1)).toNat 0 ≥ c.getD (k : Int).toNat 0))) = false := h3
    rw [h3, Bool.false_or] at hcat
    rw [Bool.or_eq_false_iff, Bool.or_eq_false_iff, decide_eq_false_iff_not, decide_eq_false_iff_not] at h3
    have hi : 0 ≤ c.getD (k : Int).toNat 0 ∧ c.getD (k : Int).toNat 0 < B.length := by
      have := h3.1
      omega
    repeat refine Or.inl ?_
    refine ⟨⟨by omega, by omega⟩, ⟨hi.1, hi.2⟩, ?_⟩
    repeat refine Or.inl ?_
    refine ⟨fun h4 => ?_, fun h4 => ?_⟩
    · have h4 : (!(br B (c.getD (k : Int).toNat 0)).own) = true := h4
      rw [h4] at hcat
      refine RetIs.i ?_
      rw [if_pos (range_any_yes (by omega) hcat)]
    · have h4 : (!(br B (c.getD (k : Int).toNat 0)).own) = false := h4
      rw [h4] at hcat
      exact ⟨k + 1, [], ⟨by omega, by rw [hs, hcat]⟩, by dsimp only; omega, rfl, rfl, rfl, rfl, rfl, ⟨rfl, w⟩, trivial⟩
  have hc := dnlt hc
  obtain rfl : k = c.length := by omega
  rw [if_neg (by rw [hno]; decide)]
  have hcr : ∀ i ∈ c, 0 ≤ i ∧ i < B.length := by
    intro i hi
    obtain ⟨q, hq, rfl⟩ := List.getElem_of_mem hi
    have h3 : cAt B c q = false := by
      rw [Bool.eq_false_iff]
      intro h4
      rw [range_any_yes hq h4] at hno
      cases hno
    unfold cAt at h3
    have e : c.getD q 0 = c[q] := by simp [List.getD, hq]
    rw [e, Bool.or_eq_false_iff, Bool.or_eq_false_iff, Bool.or_eq_false_iff, decide_eq_false_iff_not, decide_eq_false_iff_not] at h3
    omega
  have hol := others_len B c B.length
  have hct := rOpen_fn B hB c (by omega)
  have hO := others_ok B c
  generalize othersL B c B.length = o at *
  clear hc hk hno hcv
  refine .inl ⟨_, _, hct, ?_⟩
  repeat refine Or.inl ?_
  refine ⟨[], Nat, fun k => k ≤ o.length ∧ (o.take k).any (upB B R) = false, fun k => [⟨11, [], .i .i64 k⟩], fun _ => [], fun k => o.length - k,
    ⟨0, [], ⟨Nat.zero_le _, rfl⟩, rfl, rfl, rfl, rfl, rfl, ⟨rfl, rfl⟩, trivial⟩, ?_⟩
  rintro k ⟨hk, hno⟩
  refine .inl ⟨fun hc => ?_, fun hc => ?_⟩
  · have hc := dlt hc
    have ek : (k : Int).toNat = k := Int.toNat_natCast k
    have w : IntKind.i64.wrap ((k : Int) + 1) = ((k + 1 : Nat) : Int) := wr (by omega) (by omega)
    have hmem : o.getD (k : Int).toNat 0 ∈ o := by rw [ek]; exact getD_memD 0 (by omega)
    have hi := hO _ hmem
    have hb := hV.br hi
    have f1 : 0 ≤ (B.getD (o.getD (k : Int).toNat 0).toNat dB).fr := hb.1
    have f2 : (B.getD (o.getD (k : Int).toNat 0).toNat dB).fr < n := hb.2.1
    have f3 : 0 ≤ (B.getD (o.getD (k : Int).toNat 0).toNat dB).to := hb.2.2.1
    have f4 : (B.getD (o.getD (k : Int).toNat 0).toNat dB).to < n := hb.2.2.2
    have hs := any_takeD 0 o (upB B R) k (by omega)
    rw [hno, Bool.false_or] at hs
    repeat refine Or.inl ?_
    refine ⟨⟨by omega, by omega⟩, by omega, ⟨hi.1, hi.2⟩, ?_⟩
    repeat refine Or.inl ?_
    refine ⟨⟨f1, by omega⟩, ⟨f3, by omega⟩, ?_⟩
    repeat refine Or.inl ?_
    refine ⟨fun h3 => ?_, fun h3 => ?_⟩
    · have h3 : upB B R (o.getD (k : Int).toNat 0) = true := h3
      rw [ek] at h3
      refine RetIs.i ?_
      rw [if_pos (any_atD 0 o _ k (by omega) h3)]
    · have h3 : upB B R (o.getD (k : Int).toNat 0) = false := h3
      rw [ek] at h3
      exact ⟨k + 1, [], ⟨by omega, by rw [hs, h3]⟩, by dsimp only; omega, rfl, rfl, rfl, rfl, rfl, ⟨rfl, w⟩, trivial⟩
  have hc := dnlt hc
  obtain rfl : k = o.length := by omega
  rw [List.take_length] at hno
  rw [if_neg (by rw [hno]; decide)]
  clear hc hk hno
  repeat refine Or.inl ?_
  refine ⟨[], Nat, fun k => k ≤ c.length ∧ (c.take k).any (looseB B o) = false, fun k => [⟨13, [], .i .i64 k⟩], fun _ => [], fun k => c.length - k,
    ⟨0, [], ⟨Nat.zero_le _, rfl⟩, rfl, rfl, rfl, rfl, rfl, ⟨rfl, rfl⟩, trivial⟩, ?_⟩
  rintro k ⟨hk, hno⟩
  refine .inl ⟨fun hc => ?_, fun hc => ?_⟩
  · have hc := dlt hc
    have ek : (k : Int).toNat = k := Int.toNat_natCast k
    have w : IntKind.i64.wrap ((k : Int) + 1) = ((k + 1 : Nat) : Int) := wr (by omega) (by omega)
    have hmem : c.getD (k : Int).toNat 0 ∈ c := by rw [ek]; exact getD_memD 0 (by omega)
    have hi := hcr _ hmem
    have hb := hV.br hi
    have f1 : 0 ≤ (B.getD (c.getD (k : Int).toNat 0).toNat dB).fr := hb.1
    have f2 : (B.getD (c.getD (k : Int).toNat 0).toNat dB).fr < n := hb.2.1
    have f3 : 0 ≤ (B.getD (c.getD (k : Int).toNat 0).toNat dB).to := hb.2.2.1
    have f4 : (B.getD (c.getD (k : Int).toNat 0).toNat dB).to < n := hb.2.2.2
    have hs := any_takeD 0 c (looseB B o) k (by omega)
    rw [hno, Bool.false_or] at hs
    have hrl := ReachL_len B o (B.getD (c.getD (k : Int).toNat 0).toNat dB).to
    have hm : hasN (ReachL B o (B.getD (c.getD (k : Int).toNat 0).toNat dB).to) (B.getD (c.getD (k : Int).toNat 0).toNat dB).fr = reachB B o (br B (c.getD (k : Int).toNat 0)).to (br B (c.getD (k : Int).toNat 0)).fr := by
      rw [Bool.eq_iff_iff, hasN_iff, mem_ReachL hV hO f3 f4]
      exact (reachB_iff hV hO f3 f4 f1).symm
    repeat refine Or.inl ?_
    refine ⟨⟨by omega, by omega⟩, ⟨hi.1, hi.2⟩, ?_⟩
    repeat refine Or.inl ?_
    refine ⟨_, _, rReach_fn B n hV o hO (by omega) (B.getD (c.getD (k : Int).toNat 0).toNat dB).to f3 f4, ?_⟩
    repeat refine Or.inl ?_
    refine ⟨_, _, hasR_fn (ReachL B o (B.getD (c.getD (k : Int).toNat 0).toNat dB).to) (by omega) (B.getD (c.getD (k : Int).toNat 0).toNat dB).fr, ?_⟩
    repeat refine Or.inl ?_
    refine ⟨fun h3 => ?_, fun h3 => ?_⟩
    · have h3 : (!hasN (ReachL B o (B.getD (c.getD (k : Int).toNat 0).toNat dB).to) (B.getD (c.getD (k : Int).toNat 0).toNat dB).fr) = true := h3
      rw [hm] at h3
      have h3 : looseB B o (c.getD (k : Int).toNat 0) = true := h3
      rw [ek] at h3
      refine RetIs.i ?_
      rw [if_pos (any_atD 0 c _ k (by omega) h3)]
    · have h3 : (!hasN (ReachL B o (B.getD (c.getD (k : Int).toNat 0).toNat dB).to) (B.getD (c.getD (k : Int).toNat 0).toNat dB).fr) = false := h3
      rw [hm] at h3
      have h3 : looseB B o (c.getD (k : Int).toNat 0) = false := h3
      rw [ek] at h3
      exact ⟨k + 1, [], ⟨by omega, by rw [hs, h3]⟩, by dsimp only; omega, rfl, rfl, rfl, rfl, rfl, ⟨rfl, w⟩, trivial⟩
  have hc := dnlt hc
  obtain rfl : k = c.length := by omega
  rw [List.take_length] at hno
  refine RetIs.i ?_
  rw [if_neg (by rw [hno]; decide)]
end Go.Proofs.Ytklmfkejgjhneaa
