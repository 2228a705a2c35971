/-
  Holds: the reference's Held and Right.
-/
import Derived.Test.YtklmfkejgjhneaaH2
namespace Go.Proofs.Ytklmfkejgjhneaa
open Go.Eng

theorem any_takeH (l : List Hld) (p : Hld → Bool) (k : Nat) (h : k < l.length) : (l.take (k + 1)).any p = ((l.take k).any p || p (l.getD k dH)) := by
  rw [List.take_succ_eq_append_getElem h, List.any_append]
  simp [List.getD, h]
theorem any_falseH (l : List Hld) (p : Hld → Bool) (k : Nat) (h : k < l.length) (hp : p (l.getD k dH) = true) : l.any p = true := by
  rw [List.any_eq_true]
  exact ⟨l.getD k dH, by simp [List.getD, h], hp⟩

set_option maxRecDepth 20000 in
set_option maxHeartbeats 4000000 in
theorem rHeld_fn (l : List Hld) (hl : l.length < 2^62) (event now : Int) : Ctr Try.prog 47 [.rs 4 l.length (rowsH l), .i .i64 event, .i .i64 now] [] (.b (Held l event now)) := by
  refine fn_of_exec tabOk Try.func47 (by kernel_rfl) rfl (N := Try.f47.ntmps) rfl (res := [.tmp 6]) rfl rfl [] ?_
  refine .inl ⟨[], Nat, fun k => k ≤ l.length ∧ (l.take k).any (heldBy event now) = false, fun k => [⟨7, [], .i .i64 k⟩], fun _ => [], fun k => l.length - k,
    ⟨0, [], ⟨Nat.zero_le _, rfl⟩, rfl, rfl, rfl, rfl, rfl, ⟨rfl, rfl⟩, trivial⟩, ?_⟩
  rintro k ⟨hk, hno⟩
  refine .inl ⟨fun hc => ?_, fun hc => ?_⟩
  · have hc := dlt hc
    have ek : (k : Int).toNat = k := Int.toNat_natCast k
    refine Or.inl ⟨⟨by omega, by omega⟩, ⟨fun h2 => ?_, fun h2 => ?_⟩⟩
    · have h2 : heldBy event now (l.getD (k : Int).toNat dH) = true := h2
      rw [ek] at h2
      refine RetIs.b ?_
      unfold Held
      rw [any_falseH l _ k (by omega) h2]
    · have h2 : heldBy event now (l.getD (k : Int).toNat dH) = false := h2
      rw [ek] at h2
      exact ⟨k + 1, [], ⟨by omega, by rw [any_takeH l _ k (by omega), hno, h2]; rfl⟩, by dsimp only; omega, rfl, rfl, rfl, rfl, rfl, ⟨rfl, wr (by omega) (by omega)⟩, trivial⟩
  · have hc := dnlt hc
    have hk2 : l.take k = l := List.take_of_length_le (by omega)
    rw [hk2] at hno
    refine RetIs.b ?_
    unfold Held
    rw [hno]
theorem badA_ref (h : Hld) : (decide (h.id < 0) || decide (h.ev < 0) || decide (h.fr < 0) || decide (h.fr > 1073741824)) = badA h := by
  unfold badA
  rw [Bool.eq_iff_iff]
  simp only [Bool.or_eq_true, decide_eq_true_eq, Bool.not_eq_true', Bool.and_eq_false_iff, decide_eq_false_iff_not]
  omega
theorem badC_ref {h : Hld} (ha : badA h = false) : (h.to != -1 && (decide (h.to < h.fr) || decide (h.to > 1073741824))) = badC h := by
  rw [← badA_ref] at ha
  simp only [Bool.or_eq_false_iff, decide_eq_false_iff_not] at ha
  unfold badC
  congr 1
  rw [Bool.eq_iff_iff]
  simp only [Bool.or_eq_true, decide_eq_true_eq, Bool.not_eq_true', Bool.and_eq_false_iff, decide_eq_false_iff_not]
  omega

set_option maxRecDepth 20000 in
set_option maxHeartbeats 4000000 in
theorem rRightH_fn (l : List Hld) (hl : l.length < 2^62) : Ctr Try.prog 45 [.rs 4 l.length (rowsH l)] [] (.b (RightH l)) := by
  refine fn_of_exec tabOk Try.func45 (by kernel_rfl) rfl (N := Try.f45.ntmps) rfl (res := [.tmp 2]) rfl rfl [] ?_
  refine .inl ⟨[], Nat, fun k => k ≤ l.length ∧ ∀ j, j < k → okH l j = true, fun k => [⟨3, [], .i .i64 k⟩], fun _ => [], fun k => l.length - k,
    ⟨0, [], ⟨Nat.zero_le _, fun j hj => by omega⟩, rfl, rfl, rfl, rfl, rfl, ⟨rfl, rfl⟩, trivial⟩, ?_⟩
  rintro k ⟨hk, hok⟩
  refine .inl ⟨fun hc => ?_, fun hc => ?_⟩
  · have hc := dlt hc
    have ek : (k : Int).toNat = k := Int.toNat_natCast k
    refine Or.inl ⟨⟨by omega, by omega⟩, Or.inl ⟨fun h2 => ?_, fun h2 => ?_⟩⟩
    · have h2 : (decide ((l.getD (k : Int).toNat dH).id < 0) || decide ((l.getD (k : Int).toNat dH).ev < 0) || decide ((l.getD (k : Int).toNat dH).fr < 0) || decide ((l.getD (k : Int).toNat dH).fr > 1073741824)) = true := h2
      rw [ek, badA_ref] at h2
      refine RetIs.b ?_
      rw [RightH_false (j := k) (by omega) (by unfold okH badB; rw [h2]; rfl)]
    have h2 : (decide ((l.getD (k : Int).toNat dH).id < 0) || decide ((l.getD (k : Int).toNat dH).ev < 0) || decide ((l.getD (k : Int).toNat dH).fr < 0) || decide ((l.getD (k : Int).toNat dH).fr > 1073741824)) = false := h2
    rw [ek, badA_ref] at h2
    refine Or.inl ⟨fun h3 => ?_, fun h3 => ?_⟩
    · have h3 : ((l.getD (k : Int).toNat dH).to != -1 && (decide ((l.getD (k : Int).toNat dH).to < (l.getD (k : Int).toNat dH).fr) || decide ((l.getD (k : Int).toNat dH).to > 1073741824))) = true := h3
      rw [ek, badC_ref h2] at h3
      refine RetIs.b ?_
      rw [RightH_false (j := k) (by omega) (by unfold okH; rw [h3]; simp)]
    have h3 : ((l.getD (k : Int).toNat dH).to != -1 && (decide ((l.getD (k : Int).toNat dH).to < (l.getD (k : Int).toNat dH).fr) || decide ((l.getD (k : Int).toNat dH).to > 1073741824))) = false := h3
    rw [ek, badC_ref h2] at h3
    refine ⟨[], Nat, fun q => q ≤ k ∧ ((l.take q).any fun x => x.id == (l.getD k dH).id) = false, fun q => [⟨5, [], .i .i64 q⟩], fun _ => [], fun q => k - q,
      ⟨0, [], ⟨Nat.zero_le _, rfl⟩, rfl, rfl, rfl, rfl, rfl, ⟨rfl, rfl⟩, trivial⟩, ?_⟩
    rintro q ⟨hq, hno⟩
    refine Or.inl ⟨fun hd => ?_, fun hd => ?_⟩
    · have hd := dlt hd
      have eq : (q : Int).toNat = q := Int.toNat_natCast q
      refine Or.inl ⟨⟨by omega, by omega⟩, ⟨fun h4 => ?_, fun h4 => ?_⟩⟩
      · have h4 : ((l.getD (q : Int).toNat dH).id == (l.getD (k : Int).toNat dH).id) = true := h4
        rw [ek, eq] at h4
        have h5 : ((l.take k).any fun x => x.id == (l.getD k dH).id) = true := by
          rw [List.any_eq_true]
          refine ⟨l.getD q dH, ?_, h4⟩
          rw [List.mem_take_iff_getElem]
          exact ⟨q, by omega, by simp [List.getD, show q < l.length by omega]⟩
        refine RetIs.b ?_
        rw [RightH_false (j := k) (by omega) (by unfold okH badB; rw [h5]; simp)]
      · have h4 : ((l.getD (q : Int).toNat dH).id == (l.getD (k : Int).toNat dH).id) = false := h4
        rw [ek, eq] at h4
        exact ⟨q + 1, [], ⟨by omega, by rw [any_takeH l _ q (by omega), hno, h4]; rfl⟩, by dsimp only; omega, rfl, rfl, rfl, rfl, rfl, ⟨rfl, wr (by omega) (by omega)⟩, trivial⟩
    · have hd := dnlt hd
      have hqk : q = k := by omega
      subst hqk
      refine ⟨q + 1, [], ⟨by omega, fun j hj => ?_⟩, by dsimp only; omega, rfl, rfl, rfl, rfl, rfl, ⟨rfl, wr (by omega) (by omega)⟩, trivial⟩
      by_cases hjk : j = q
      · rw [hjk]
        unfold okH badB
        rw [h2, hno, h3]
        rfl
      · exact hok j (by omega)
  · have hc := dnlt hc
    have hk2 : k = l.length := by omega
    subst hk2
    refine RetIs.b ?_
    rw [RightH_true hok]
end Go.Proofs.Ytklmfkejgjhneaa
