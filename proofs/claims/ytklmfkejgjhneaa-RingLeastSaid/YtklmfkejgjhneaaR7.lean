/-
  Bridges: Around, Check both ways.
-/
import Derived.Test.YtklmfkejgjhneaaR6
namespace Go.Proofs.Ytklmfkejgjhneaa
open Go.Eng

theorem range_all {p : Nat → Bool} (k : Nat) : (List.range (k + 1)).all p = ((List.range k).all p && p k) := by
  rw [List.range_succ, List.all_append]
  simp
theorem range_any {p : Nat → Bool} (k : Nat) : (List.range (k + 1)).any p = ((List.range k).any p || p k) := by
  rw [List.range_succ, List.any_append]
  simp
theorem range_all_no {p : Nat → Bool} {n k : Nat} (hk : k < n) (h : p k = false) : (List.range n).all p = false := by
  rw [Bool.eq_false_iff]
  intro ha
  rw [List.all_eq_true] at ha
  have := ha k (List.mem_range.2 hk)
  rw [h] at this
  cases this
theorem range_any_yes {p : Nat → Bool} {n k : Nat} (hk : k < n) (h : p k = true) : (List.range n).any p = true := by
  rw [List.any_eq_true]
  exact ⟨k, List.mem_range.2 hk, h⟩
theorem all_takeD {α : Type} (d : α) (l : List α) (p : α → Bool) (k : Nat) (h : k < l.length) : (l.take (k + 1)).all p = ((l.take k).all p && p (l.getD k d)) := by
  rw [List.take_succ_eq_append_getElem h, List.all_append]
  simp [List.getD, h]

set_option maxRecDepth 20000 in
set_option maxHeartbeats 2000000 in
theorem Around_fn (B : List Bri) (_hB : B.length < 1000000) (l : List Int) (hl : l.length < 1000000) :
    Ctr Try.prog 59 [.rs 3 B.length (rowsB B), .rs 1 l.length (rowsI l)] [] (.b (aroundB B l)) := by
  refine fn_of_exec tabOk Try.func59 (by kernel_rfl) rfl (N := Try.f59.ntmps) rfl (res := [.tmp 4]) rfl rfl [] ?_
  repeat refine Or.inl ?_
  refine ⟨[], Nat, fun k => k ≤ l.length ∧ (l.take k).all (inR B) = true, fun k => [⟨5, [], .i .i64 k⟩], fun _ => [], fun k => l.length - k,
    ⟨0, [], ⟨Nat.zero_le _, rfl⟩, rfl, rfl, rfl, rfl, rfl, ⟨rfl, rfl⟩, trivial⟩, ?_⟩
  rintro k ⟨hk, ha⟩
  refine .inl ⟨fun hc => ?_, fun hc => ?_⟩
  · have hc := dlt hc
    have ek : (k : Int).toNat = k := Int.toNat_natCast k
    have w : IntKind.i64.wrap ((k : Int) + 1) = ((k + 1 : Nat) : Int) := wr (by omega) (by omega)
    have hs := all_takeD 0 l (inR B) k (by omega)
    rw [ha, Bool.true_and] at hs
    repeat refine Or.inl ?_
    refine ⟨⟨by omega, by omega⟩, fun _ => ⟨by omega, by omega⟩, ⟨fun h2 => ?_, fun h2 => ?_⟩⟩
    · have h2 : (decide (l.getD (k : Int).toNat 0 < 0) || decide (l.getD (k : Int).toNat 0 ≥ B.length)) = true := h2
      rw [ek] at h2
      refine RetIs.b ?_
      have : l.all (inR B) = false := by
        rw [Bool.eq_false_iff]
        intro h3
        rw [List.all_eq_true] at h3
        have := h3 _ (getD_memD 0 (show k < l.length by omega))
        unfold inR at this
        rw [h2] at this
        cases this
      unfold aroundB
      rw [this]
      rfl
    · have h2 : (decide (l.getD (k : Int).toNat 0 < 0) || decide (l.getD (k : Int).toNat 0 ≥ B.length)) = false := h2
      rw [ek] at h2
      have h3 : inR B (l.getD k 0) = true := by
        unfold inR
        rw [h2]
        rfl
      exact ⟨k + 1, [], ⟨by omega, by rw [hs, h3]⟩, by dsimp only; omega, rfl, rfl, rfl, rfl, rfl, ⟨rfl, w⟩, trivial⟩
  have hc := dnlt hc
  obtain rfl : k = l.length := by omega
  rw [List.take_length] at ha
  have hin : ∀ k, k < l.length → 0 ≤ l.getD k 0 ∧ l.getD k 0 < B.length := by
    intro k hk
    have := (List.all_eq_true.1 ha) _ (getD_memD 0 hk)
    unfold inR at this
    rw [Bool.not_eq_true', Bool.or_eq_false_iff, decide_eq_false_iff_not, decide_eq_false_iff_not] at this
    omega
  clear hc hk
  repeat refine Or.inl ?_
  refine ⟨[], Nat, fun k => k ≤ l.length ∧ (List.range k).all (fun k => ringAt B l k && freshAt B l k) = true, fun k => [⟨6, [], .i .i64 k⟩], fun _ => [], fun k => l.length - k,
    ⟨0, [], ⟨Nat.zero_le _, rfl⟩, rfl, rfl, rfl, rfl, rfl, ⟨rfl, rfl⟩, trivial⟩, ?_⟩
  rintro k ⟨hk, hr⟩
  refine .inl ⟨fun hc => ?_, fun hc => ?_⟩
  · have hc := dlt hc
    have ek : (k : Int).toNat = k := Int.toNat_natCast k
    have w : IntKind.i64.wrap ((k : Int) + 1) = ((k + 1 : Nat) : Int) := wr (by omega) (by omega)
    have hik := hin k (by omega)
    rw [← ek] at hik
    have hmod : (k + 1) % l.length < l.length := Nat.mod_lt _ (by omega)
    have hi2 := hin _ hmod
    have hs := range_all (p := fun k => ringAt B l k && freshAt B l k) k
    rw [hr, Bool.true_and] at hs
    repeat refine Or.inl ?_
    refine ⟨⟨by omega, by omega⟩, ⟨hik.1, hik.2⟩, ?_⟩
    repeat refine Or.inl ?_
    have hZ : (IntKind.i64.wrap ((k : Int) + 1)).tmod (l.length : Int) = (((k + 1) % l.length : Nat) : Int) := by
      rw [w]
      exact (Int.ofNat_tmod _ _).symm
    have hnx : nxt B l k = B.getD (l.getD ((IntKind.i64.wrap ((k : Int) + 1)).tmod (l.length : Int)).toNat 0).toNat dB := by
      unfold nxt br
      rw [hZ, Int.toNat_natCast]
    rw [← Int.toNat_natCast ((k + 1) % l.length), ← hZ] at hi2
    have hi3 : 0 ≤ (IntKind.i64.wrap ((k : Int) + 1)).tmod (l.length : Int) ∧ (IntKind.i64.wrap ((k : Int) + 1)).tmod (l.length : Int) < l.length := by
      rw [hZ]
      omega
    refine ⟨by omega, hi3, ⟨hi2.1, hi2.2⟩, ?_⟩
    repeat refine Or.inl ?_
    refine ⟨fun h2 => ?_, fun h2 => ?_⟩
    · have h2 : ((br B (l.getD (k : Int).toNat 0)).own || (br B (l.getD (k : Int).toNat 0)).to != (B.getD (l.getD ((IntKind.i64.wrap ((k : Int) + 1)).tmod (l.length : Int)).toNat 0).toNat dB).fr) = true := h2
      rw [← hnx, ek] at h2
      refine RetIs.b ?_
      have h3 : ringAt B l k = false := by unfold ringAt; rw [h2]; rfl
      unfold aroundB
      rw [range_all_no (k := k) (by omega) (by rw [h3]; rfl), Bool.and_false, Bool.false_and]
    have h2 : ((br B (l.getD (k : Int).toNat 0)).own || (br B (l.getD (k : Int).toNat 0)).to != (B.getD (l.getD ((IntKind.i64.wrap ((k : Int) + 1)).tmod (l.length : Int)).toNat 0).toNat dB).fr) = false := h2
    rw [← hnx, ek] at h2
    have h3 : ringAt B l k = true := by unfold ringAt; rw [h2]; rfl
    rw [h3, Bool.true_and] at hs
    repeat refine Or.inl ?_
    refine ⟨[], Nat, fun j => j ≤ k ∧ (l.take j).any (fun i => (br B i).fr == (br B (l.getD k 0)).fr) = false, fun j => [⟨9, [], .i .i64 j⟩], fun _ => [], fun j => k - j,
      ⟨0, [], ⟨Nat.zero_le _, rfl⟩, rfl, rfl, rfl, rfl, rfl, ⟨rfl, rfl⟩, trivial⟩, ?_⟩
    rintro j ⟨hj, hno⟩
    refine .inl ⟨fun hc4 => ?_, fun hc4 => ?_⟩
    · have hc4 := dlt hc4
      have ej : (j : Int).toNat = j := Int.toNat_natCast j
      have w2 : IntKind.i64.wrap ((j : Int) + 1) = ((j + 1 : Nat) : Int) := wr (by omega) (by omega)
      have hij := hin j (by omega)
      rw [← ej] at hij
      have ht := any_takeD 0 l (fun i => (br B i).fr == (br B (l.getD k 0)).fr) j (by omega)
      rw [hno, Bool.false_or] at ht
      repeat refine Or.inl ?_
      refine ⟨⟨by omega, by omega⟩, ⟨hij.1, hij.2⟩, ?_⟩
      repeat refine Or.inl ?_
      refine ⟨fun h5 => ?_, fun h5 => ?_⟩
      · have h5 : ((br B (l.getD (j : Int).toNat 0)).fr == (br B (l.getD (k : Int).toNat 0)).fr) = true := h5
        rw [ej, ek] at h5
        refine RetIs.b ?_
        have h6 : freshAt B l k = false := by
          unfold freshAt
          have : (l.take k).any (fun i => (br B i).fr == (br B (l.getD k 0)).fr) = true :=
            any_atD 0 (l.take k) _ j (by rw [List.length_take]; omega) (by rw [take_getD 0 l k j (by omega)]; exact h5)
          rw [this]
          rfl
        unfold aroundB
        rw [range_all_no (k := k) (by omega) (by rw [h6, Bool.and_false]), Bool.and_false, Bool.false_and]
      · have h5 : ((br B (l.getD (j : Int).toNat 0)).fr == (br B (l.getD (k : Int).toNat 0)).fr) = false := h5
        rw [ej, ek] at h5
        exact ⟨j + 1, [], ⟨by omega, by rw [ht]; exact h5⟩, by dsimp only; omega, rfl, rfl, rfl, rfl, rfl, ⟨rfl, w2⟩, trivial⟩
    · have hc4 := dnlt hc4
      obtain rfl : j = k := by omega
      have h6 : freshAt B l j = true := by
        unfold freshAt
        rw [hno]
        rfl
      exact ⟨j + 1, [], ⟨by omega, by rw [hs, h6]⟩, by dsimp only; omega, rfl, rfl, rfl, rfl, rfl, ⟨rfl, w⟩, trivial⟩
  · have hc := dnlt hc
    obtain rfl : k = l.length := by omega
    refine RetIs.b ?_
    unfold aroundB
    rw [ha, hr]
    simp
end Go.Proofs.Ytklmfkejgjhneaa
