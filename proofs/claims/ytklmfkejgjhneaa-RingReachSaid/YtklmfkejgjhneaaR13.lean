/-
  RingReach: what a message reaches.
-/
import Derived.Test.YtklmfkejgjhneaaR12
namespace Go.Proofs.Ytklmfkejgjhneaa
open Go.Eng

theorem ReachL_nil {B : List Bri} {n : Int} (hV : Valid B n) {a : Int} (h0 : 0 ≤ a) (h1 : a < n) : ReachL B [] a = [a] := by
  refine ascExtR (ReachL_asc B [] a) (List.pairwise_singleton _ _) fun b => ?_
  rw [mem_ReachL hV (fun i hi => by cases hi) h0 h1, List.mem_singleton]
  constructor
  · intro h
    exact h.none fun u v ⟨i, hi, _⟩ => by cases hi
  · rintro rfl
    exact .refl
theorem allRow_others (B : List Bri) : othersL B ((List.range B.length).map fun q : Nat => (q : Int)) B.length = [] := by
  rw [List.eq_nil_iff_forall_not_mem]
  intro i hi
  rw [mem_others] at hi
  apply hi.2
  rw [List.mem_map]
  exact ⟨i.toNat, List.mem_range.2 (by omega), by omega⟩
def nums (k : Nat) : List Int := (List.range k).map fun q : Nat => (q : Int)
theorem nums_len (k : Nat) : (nums k).length = k := by simp [nums]
theorem nums_succ (k : Nat) : nums (k + 1) = nums k ++ [(k : Int)] := by
  unfold nums
  rw [List.range_succ, List.map_append]
  rfl
def intoL (B : List Bri) (L o : List Int) (x a : Int) (j : Nat) : Bool := (x == a) || (o.take j).any fun i => ((br B i).to == x && (br B i).fr != x) && hasN L (br B i).fr
theorem into_all {B : List Bri} {n : Int} (hV : Valid B n) {o : List Int} (hO : OkO B o) {a x : Int} (h0 : 0 ≤ a) (h1 : a < n) (hx : x ∈ ReachL B o a) : intoL B (ReachL B o a) o x a o.length = true := by
  rw [mem_ReachL hV hO h0 h1] at hx
  unfold intoL
  rw [List.take_length, Bool.or_eq_true, List.any_eq_true, beq_iff_eq]
  rcases hx.last with h | ⟨u, h2, ⟨i, hi, rfl, rfl⟩, h4⟩
  · exact .inl h
  · refine .inr ⟨i, hi, ?_⟩
    rw [Bool.and_eq_true, Bool.and_eq_true, beq_iff_eq, bne_iff_ne, hasN_iff, mem_ReachL hV hO h0 h1]
    exact ⟨⟨rfl, h4⟩, h2⟩
theorem reach_closed {B : List Bri} {n : Int} (hV : Valid B n) {o : List Int} (hO : OkO B o) {a i : Int} (h0 : 0 ≤ a) (h1 : a < n) (hi : i ∈ o) (hx : (br B i).fr ∈ ReachL B o a) : hasN (ReachL B o a) (br B i).to = true := by
  rw [hasN_iff]
  rw [mem_ReachL hV hO h0 h1] at hx ⊢
  exact hx.step ⟨i, hi, rfl, rfl⟩
theorem reach_less {B : List Bri} {n : Int} (hV : Valid B n) (c : List Int) (m : Int) {a x : Int} (h0 : 0 ≤ a) (h1 : a < n) (hx : x ∈ ReachL B (othersL B (c ++ [m]) B.length) a) : x ∈ ReachL B (othersL B c B.length) a := by
  rw [mem_ReachL hV (others_ok B _) h0 h1] at hx ⊢
  refine hx.mono ?_
  rintro u v ⟨i, hi, h2⟩
  rw [mem_others] at hi
  exact ⟨i, mem_others.2 ⟨hi.1, fun h => hi.2 (List.mem_append_left _ h)⟩, h2⟩
theorem snocC (c : List Int) (m : Int) : ∀ k, k < (c ++ [m]).length → catG (0 + c.length) (catG 0 (rowOf 1 []) (rowsI c)) (rowOf 1 [.i .i64 m]) k = rowsI (c ++ [m]) k := by
  intro k hk
  rw [← snocZ c m k hk]
  unfold catG
  rw [Nat.zero_add]
  by_cases h : k < c.length
  · rw [if_pos h, if_pos h, if_neg (Nat.not_lt_zero k)]
    rfl
  · rw [if_neg h, if_neg h]

set_option maxRecDepth 20000 in
set_option maxHeartbeats 2000000 in
theorem ringReach_fn (B : List Bri) (c : List Int) (a m : Int) : Ctr Try.prog 19 [.rs 3 B.length (rowsB B), .rs 1 c.length (rowsI c), .i .i64 a, .i .i64 m] [] (.b true) := by
  refine fn_of_exec tabOk Try.func19 (by kernel_rfl) rfl (N := Try.f19.ntmps) rfl (res := [.tmp 8]) rfl rfl [] ?_
  refine .inl ⟨[], _, smallR_fn, ?_⟩
  repeat refine Or.inl ?_
  refine ⟨[], _, fun hg => rRightB_fn B (by
    have hg : (decide ((B.length : Int) > 40) || decide ((c.length : Int) > 50)) = false := hg.1
    rw [Bool.or_eq_false_iff, decide_eq_false_iff_not] at hg
    omega) 12, ?_⟩
  refine ⟨fun hf => RetIs.b rfl, fun hf => ?_⟩
  have hf : ((((decide ((B.length : Int) > 40) || decide ((c.length : Int) > 50)) || !validB B 12) || decide (a < 0)) || decide (a ≥ 12)) = false := hf
  simp only [Bool.or_eq_false_iff, decide_eq_false_iff_not, Bool.not_eq_false'] at hf
  have hV := validB_iff.1 hf.1.1.2
  have hB : B.length ≤ 40 := by omega
  have hcl : c.length ≤ 50 := by omega
  have h0 : 0 ≤ a := by omega
  have h1 : a < 12 := by omega
  have hRc := Rounds_fn B (by omega) c (by omega) a
  have hopen := rOpen_fn B (by omega) c (by omega)
  have hless := Rounds_fn B (by omega) (c ++ [m]) (by simp; omega) a
  have hsub := fun x => reach_less (x := x) hV c m h0 h1
  rw [RoundsL_eq hV ⟨h0, h1⟩] at hRc hless
  have hO := others_ok B c
  have hol := others_len B c B.length
  generalize othersL B c B.length = o at *
  have hLasc := ReachL_asc B o a
  have hLl := ReachL_len B o a
  have hLm := fun b => mem_ReachL hV hO h0 h1 (b := b)
  have hLr := fun b (h : b ∈ ReachL B o a) => rch_node hV hO h0 h1 ((hLm b).1 h)
  have hinto := fun x => into_all hV hO h0 h1 (x := x)
  have hclo := fun i => reach_closed hV hO h0 h1 (i := i)
  have hself : hasN (ReachL B o a) a = true := by rw [hasN_iff, hLm]; exact .refl
  generalize ReachL B o a = L at *
  have hL2 := ReachL_len B (othersL B (c ++ [m]) B.length) a
  generalize ReachL B (othersL B (c ++ [m]) B.length) a = L2 at *
  refine .inl ⟨_, _, hRc, ?_⟩
  repeat refine Or.inl ?_
  refine ⟨[], _, hasR_fn L (by omega) a, ?_⟩
  refine ⟨fun h => ?_, fun _ => ?_⟩
  · have h : (!hasN L a) = true := h
    rw [hself] at h
    cases h
  refine .inl ⟨_, _, hopen, ?_⟩
  repeat refine Or.inl ?_
  refine ⟨[], Nat, fun k => k ≤ L.length, fun k => [⟨12, [], .i .i64 k⟩], fun _ => [], fun k => L.length - k,
    ⟨0, [], Nat.zero_le _, rfl, rfl, rfl, rfl, rfl, ⟨rfl, rfl⟩, trivial⟩, ?_⟩
  intro k hk
  refine .inl ⟨fun hc => ?_, fun hc => ?_⟩
  · have hc := dlt hc
    have ek : (k : Int).toNat = k := Int.toNat_natCast k
    have w : IntKind.i64.wrap ((k : Int) + 1) = ((k + 1 : Nat) : Int) := wr (by omega) (by omega)
    have w2 : IntKind.i64.wrap ((k : Int) - 1) = (k : Int) - 1 := wr (by omega) (by omega)
    have hmem : L.getD (k : Int).toNat 0 ∈ L := by rw [ek]; exact getD_memD 0 (by omega)
    have hrg := hLr _ hmem
    repeat refine Or.inl ?_
    refine ⟨⟨by omega, by omega⟩, by omega, fun _ => ⟨by omega, by omega⟩, fun _ => by omega, fun hg => ?_, fun hg => ?_, fun _ => ⟨by omega, by omega⟩, fun _ => by omega, ?_⟩
    · have hg : decide ((k : Int) > 0) = true := hg.1
      rw [decide_eq_true_eq] at hg
      exact ⟨by omega, by omega⟩
    · have hg : decide ((k : Int) > 0) = true := hg.1
      rw [decide_eq_true_eq] at hg
      omega
    repeat refine Or.inl ?_
    refine ⟨fun h3 => ?_, fun _ => ?_⟩
    · have h3 : ((decide (L.getD (k : Int).toNat 0 < 0) || decide (L.getD (k : Int).toNat 0 ≥ 12)) || (decide ((k : Int) > 0) && decide (L.getD (IntKind.i64.wrap ((k : Int) - 1)).toNat 0 ≥ L.getD (k : Int).toNat 0))) = true := h3
      simp only [Bool.or_eq_true, Bool.and_eq_true, decide_eq_true_eq] at h3
      rcases h3 with (h3 | h3) | ⟨h3, h4⟩
      · omega
      · omega
      · exfalso
        rw [w2, ek] at h4
        have h5 := asc_at hLasc (i := ((k : Int) - 1).toNat) (j := k) (by omega) (by omega)
        omega
    repeat refine Or.inl ?_
    refine ⟨⟨by omega, by omega⟩, by omega, ?_⟩
    repeat refine Or.inl ?_
    refine ⟨[], Nat, fun j => j ≤ o.length, fun j => [⟨14, [], .i .i64 j⟩, ⟨13, [], .b (intoL B L o (L.getD (k : Int).toNat 0) a j)⟩], fun _ => [], fun j => o.length - j,
      ⟨0, [], Nat.zero_le _, rfl, rfl, rfl, rfl, rfl, ⟨⟨rfl, rfl⟩, (Bool.or_false _).symm⟩, trivial⟩, ?_⟩
    intro j hj
    refine .inl ⟨fun hc5 => ?_, fun hc5 => ?_⟩
    · have hc5 := dlt hc5
      have ej : (j : Int).toNat = j := Int.toNat_natCast j
      have w3 : IntKind.i64.wrap ((j : Int) + 1) = ((j + 1 : Nat) : Int) := wr (by omega) (by omega)
      have hmo : o.getD (j : Int).toNat 0 ∈ o := by rw [ej]; exact getD_memD 0 (by omega)
      have hi := hO _ hmo
      have hcl2 := hclo _ hmo
      repeat refine Or.inl ?_
      refine ⟨⟨by omega, by omega⟩, by omega, ⟨hi.1, hi.2⟩, ?_⟩
      repeat refine Or.inl ?_
      refine ⟨⟨by omega, by omega⟩, by omega, ?_⟩
      repeat refine Or.inl ?_
      refine ⟨[], _, fun _ => hasR_fn L (by omega) (B.getD (o.getD (j : Int).toNat 0).toNat dB).to, ?_⟩
      repeat refine Or.inl ?_
      refine ⟨fun h6 => ?_, fun _ => ?_⟩
      · have h6 : ((br B (o.getD (j : Int).toNat 0)).fr == L.getD (k : Int).toNat 0 && !hasN L (br B (o.getD (j : Int).toNat 0)).to) = true := h6
        rw [Bool.and_eq_true, beq_iff_eq] at h6
        rw [hcl2 (by rw [h6.1]; exact hmem)] at h6
        exact absurd h6.2 (by decide)
      repeat refine Or.inl ?_
      refine ⟨fun _ => ⟨by omega, by omega⟩, fun _ => by omega, fun _ => ⟨by omega, by omega⟩, fun _ => by omega, ?_⟩
      repeat refine Or.inl ?_
      refine ⟨[], _, fun _ => hasR_fn L (by omega) (B.getD (o.getD (j : Int).toNat 0).toNat dB).fr, ?_⟩
      have hs : intoL B L o (L.getD (k : Int).toNat 0) a (j + 1) = (intoL B L o (L.getD (k : Int).toNat 0) a j || (((br B (o.getD (j : Int).toNat 0)).to == L.getD (k : Int).toNat 0 && (br B (o.getD (j : Int).toNat 0)).fr != L.getD (k : Int).toNat 0) && hasN L (br B (o.getD (j : Int).toNat 0)).fr)) := by
        rw [ej]
        unfold intoL
        rw [any_takeD 0 o _ j (by omega), Bool.or_assoc]
      exact ⟨j + 1, [], by dsimp only; omega, by dsimp only; omega, rfl, rfl, rfl, rfl, rfl, ⟨⟨rfl, w3⟩, hs.symm⟩, trivial⟩
    have hc5 := dnlt hc5
    obtain rfl : j = o.length := by omega
    repeat refine Or.inl ?_
    refine ⟨fun h6 => ?_, fun _ => ?_⟩
    · have h6 : (!intoL B L o (L.getD (k : Int).toNat 0) a o.length) = true := h6
      rw [hinto _ hmem] at h6
      cases h6
    exact ⟨k + 1, [], by dsimp only; omega, by dsimp only; omega, rfl, rfl, rfl, rfl, rfl, ⟨rfl, w⟩, trivial⟩
  have hc := dnlt hc
  obtain rfl : k = L.length := by omega
  have hargs : AVEq (.rs 1 (c ++ [m]).length (rowsI (c ++ [m]))) (.rs 1 (0 + c.length + 1) (catG (0 + c.length) (catG 0 (rowOf 1 []) (rowsI c)) (rowOf 1 [.i .i64 m]))) :=
    ⟨rfl, by simp, fun q hq => snocC c m q hq⟩
  have hless2 := Ctr.of_eq (args := [.rs 3 B.length (rowsB B), .rs 1 (c ++ [m]).length (rowsI (c ++ [m])), .i .i64 a]) (args' := [.rs 3 B.length (rowsB B), .rs 1 (0 + c.length + 1) (catG (0 + c.length) (catG 0 (rowOf 1 []) (rowsI c)) (rowOf 1 [.i .i64 m])), .i .i64 a]) ⟨AVEq.refl _, hargs, AVEq.refl _⟩ hless
  refine ⟨fits (by omega), fits (by omega), ?_⟩
  repeat refine Or.inl ?_
  refine ⟨_, _, hless2, ?_⟩
  repeat refine Or.inl ?_
  refine ⟨[], Nat, fun k => k ≤ L2.length, fun k => [⟨17, [], .i .i64 k⟩], fun _ => [], fun k => L2.length - k,
    ⟨0, [], Nat.zero_le _, rfl, rfl, rfl, rfl, rfl, ⟨rfl, rfl⟩, trivial⟩, ?_⟩
  intro k hk
  refine .inl ⟨fun hc => ?_, fun hc => ?_⟩
  · have hc := dlt hc
    have ek : (k : Int).toNat = k := Int.toNat_natCast k
    have w : IntKind.i64.wrap ((k : Int) + 1) = ((k + 1 : Nat) : Int) := wr (by omega) (by omega)
    have hmem : L2.getD (k : Int).toNat 0 ∈ L2 := by rw [ek]; exact getD_memD 0 (by omega)
    have hh : hasN L (L2.getD (k : Int).toNat 0) = true := hasN_iff.2 (hsub _ hmem)
    repeat refine Or.inl ?_
    refine ⟨⟨by omega, by omega⟩, by omega, ?_⟩
    repeat refine Or.inl ?_
    refine ⟨[], _, hasR_fn L (by omega) (L2.getD (k : Int).toNat 0), ?_⟩
    refine ⟨fun h6 => ?_, fun _ => ?_⟩
    · have h6 : (!hasN L (L2.getD (k : Int).toNat 0)) = true := h6
      rw [hh] at h6
      cases h6
    exact ⟨k + 1, [], by dsimp only; omega, by dsimp only; omega, rfl, rfl, rfl, rfl, rfl, ⟨rfl, w⟩, trivial⟩
  have hc := dnlt hc
  obtain rfl : k = L2.length := by omega
  repeat refine Or.inl ?_
  refine ⟨[(18, 3, 1)], Nat, fun k => k ≤ B.length, fun k => [⟨19, [], .i .i64 k⟩, ⟨18, [], .so 7⟩], fun k => [⟨7, [], .row 3 1 (nums k).length (rowsI (nums k))⟩], fun k => B.length - k,
    ⟨0, [], Nat.zero_le _, rfl, rfl, rfl, rfl, rfl, ⟨⟨rfl, rfl⟩, rfl⟩, ⟨rfl, rfl, rfl, fun j hj => by cases hj⟩⟩, ?_⟩
  intro k hk
  have hnl := nums_len k
  refine .inl ⟨fun hc => ?_, fun hc => ?_⟩
  · have hc := dlt hc
    have w : IntKind.i64.wrap ((k : Int) + 1) = ((k + 1 : Nat) : Int) := wr (by omega) (by omega)
    repeat refine Or.inl ?_
    refine ⟨fits (by omega), ?_⟩
    exact ⟨k + 1, [(7, 9)], by dsimp only; omega, by dsimp only; omega, rfl, rfl, rfl, rfl, rfl, ⟨⟨rfl, w⟩, rfl⟩, snocZ_row _ _ (nums_succ k)⟩
  have hc := dnlt hc
  obtain rfl : k = B.length := by omega
  have hall := Rounds_fn B (by omega) (nums B.length) (by omega) a
  have hnil := Rounds_fn [] (by decide) c (by omega) a
  have e1 : RoundsL B (nums B.length) a = [a] := by
    rw [RoundsL_eq hV ⟨h0, h1⟩]
    unfold nums
    rw [allRow_others]
    exact ReachL_nil hV h0 h1
  have hV0 : Valid [] 12 := ⟨by decide, by decide, by decide, fun b hb => by cases hb⟩
  have e2 : RoundsL [] c a = [a] := by
    rw [RoundsL_eq hV0 ⟨h0, h1⟩]
    exact ReachL_nil hV0 h0 h1
  rw [e1] at hall
  rw [e2] at hnil
  have hnil2 := Ctr.of_w (args := [.rs 3 0 (rowsB []), .rs 1 c.length (rowsI c), .i .i64 a]) (args' := [.val (.slice none 0 0), .rs 1 c.length (rowsI c), .i .i64 a]) ⟨AVW.nil _ _, AVW.refl _, AVW.refl _, trivial⟩ hnil
  have i1 : Ctr Try.prog 58 [.rs 1 1 (rowsI [a]), .rs 1 1 (rowOf 1 [.i .i64 a])] [] (.b true) := by
    have h := sameR_fn [a] [a] (by simp) (by simp)
    rw [decide_eq_true rfl] at h
    exact Ctr.of_eq (args := [.rs 1 1 (rowsI [a]), .rs 1 1 (rowsI [a])]) ⟨AVEq.refl _, ⟨rfl, rfl, fourP1 rfl⟩⟩ h
  refine .inl ⟨_, _, fun _ => hall, ?_⟩
  refine .inl ⟨[], _, fun _ => i1, ?_⟩
  refine .inl ⟨_, _, fun _ => hnil2, ?_⟩
  refine .inl ⟨[], _, fun _ => i1, ?_⟩
  exact RetIs.b rfl
end Go.Proofs.Ytklmfkejgjhneaa
