/-
  Verdicts: the reference's Right, Add and Bad.
-/
import Derived.Test.YtklmfkejgjhneaaS3
namespace Go.Proofs.Ytklmfkejgjhneaa
open Go.Eng

theorem right_step {v : Ver} (h : rightV v = true) : 0 ≤ v.step := by
  unfold rightV at h
  simp only [Bool.and_eq_true, decide_eq_true_eq] at h
  omega
theorem refAt {l : List Ver} {k : Nat} (hk : k < l.length) (hl : l.length < 2^62) :
    (!rightV (l.getD (k : Int).toNat dV) || (decide ((k : Int) > 0) && decide ((l.getD (k : Int).toNat dV).step < (l.getD (max (IntKind.i64.wrap ((k : Int) - 1)) 0).toNat dV).step))) = !okAt l k := by
  rw [Int.toNat_natCast, wr (by omega) (by omega)]
  unfold okAt lastOf
  by_cases h0 : k = 0
  · subst h0
    rw [if_pos rfl]
    cases hr : rightV (l.getD 0 dV)
    · rfl
    · have := right_step hr
      rw [decide_eq_false (p := (l.getD 0 dV).step < 0) (by omega)]
      rfl
  · rw [if_neg h0]
    have e : (max ((k : Int) - 1) 0).toNat = k - 1 := by omega
    rw [e, decide_eq_true (p := (k : Int) > 0) (by omega)]
    cases rightV (l.getD k dV) <;> simp

def rRight (l : List Ver) : Bool := decide (l.length ≤ 50000) && okV l
set_option maxRecDepth 20000 in
set_option maxHeartbeats 4000000 in
theorem rRight_fn (l : List Ver) (hl : l.length < 2^62) : Ctr Try.prog 75 [.rs 3 l.length (rowsV l)] [] (.b (rRight l)) := by
  refine fn_of_exec tabOk Try.func75 (by kernel_rfl) rfl (N := Try.f75.ntmps) rfl (res := [.tmp 2]) rfl rfl [] ?_
  refine .inl ⟨fun h => ?_, fun h => ?_⟩
  · refine RetIs.b ?_
    have h : decide ((l.length : Int) > 50000) = true := h
    simp at h
    unfold rRight
    rw [decide_eq_false (by omega)]
    rfl
  have h : decide ((l.length : Int) > 50000) = false := h
  have hlen : l.length ≤ 50000 := by simp at h; omega
  refine .inl ⟨[], Nat, fun k => k ≤ l.length ∧ ∀ j, j < k → okAt l j = true, fun k => [⟨3, [], .i .i64 k⟩], fun _ => [], fun k => l.length - k,
    ⟨0, [], ⟨Nat.zero_le _, fun j hj => by omega⟩, rfl, rfl, rfl, rfl, rfl, ⟨rfl, rfl⟩, trivial⟩, ?_⟩
  rintro k ⟨hk, hok⟩
  refine .inl ⟨fun hc => ?_, fun hc => ?_⟩
  · have hc := dlt hc
    refine .inl ⟨⟨by omega, by omega⟩, .inl ⟨[], _, fine_fn (l.getD (k : Int).toNat dV), ?_⟩⟩
    have hw : IntKind.i64.wrap ((k : Int) - 1) = (k : Int) - 1 := wr (by omega) (by omega)
    refine ⟨fun _ => by omega, fun _ => by rw [hw]; omega, ⟨fun h2 => ?_, fun h2 => ?_⟩⟩
    · have h2 : (!rightV (l.getD (k : Int).toNat dV) || (decide ((k : Int) > 0) && decide ((l.getD (k : Int).toNat dV).step < (l.getD (max (IntKind.i64.wrap ((k : Int) - 1)) 0).toNat dV).step))) = true := h2
      rw [refAt (by omega) hl] at h2
      refine RetIs.b ?_
      unfold rRight
      rw [okV_false (j := k) (by omega) (by simpa using h2)]
      simp
    · have h2 : (!rightV (l.getD (k : Int).toNat dV) || (decide ((k : Int) > 0) && decide ((l.getD (k : Int).toNat dV).step < (l.getD (max (IntKind.i64.wrap ((k : Int) - 1)) 0).toNat dV).step))) = false := h2
      rw [refAt (by omega) hl] at h2
      have hb : okAt l k = true := by simpa using h2
      refine ⟨k + 1, [], ⟨by omega, fun j hj => ?_⟩, by dsimp only; omega, rfl, rfl, rfl, rfl, rfl, ⟨rfl, wr (by omega) (by omega)⟩, trivial⟩
      by_cases hjk : j = k
      · rw [hjk]; exact hb
      · exact hok j (by omega)
  · have hc := dnlt hc
    refine RetIs.b ?_
    have hk2 : k = l.length := by omega
    subst hk2
    unfold rRight
    rw [okV_true hok, decide_eq_true hlen]
    rfl
def rAdd (l : List Ver) (v : Ver) : List Ver × Int :=
  if (!rRight l || !rightV v) = true then ([], 1) else
  if 0 < l.length ∧ v.step < (l.getD (l.length - 1) dV).step then ([], 15) else
  if rRight (l ++ [v]) = false then ([], 6) else (l ++ [v], 0)
theorem rsnocV (l : List Ver) (v : Ver) : ∀ k, k < (l ++ [v]).length → catG (0 + l.length) (catG 0 (rowOf 3 []) (rowsV l)) (rowOf 3 v.av) k = rowsV (l ++ [v]) k := by
  intro k hk
  rw [← snocV l v k hk, Nat.zero_add]
  unfold catG
  simp
set_option maxRecDepth 20000 in
set_option maxHeartbeats 4000000 in
theorem rAdd_fn (l : List Ver) (hl : l.length < 2^62) (v : Ver) : Ctr Try.prog 32 [.rs 3 l.length (rowsV l), .ag v.av] [.row 45 3 (rAdd l v).1.length (rowsV (rAdd l v).1)] (.tup [.so 0, .i .i64 (rAdd l v).2]) := by
  refine fn_of_exec tabOk Try.func32 (by kernel_rfl) rfl (N := Try.f32.ntmps) rfl (res := [.tmp 4, .tmp 5]) rfl rfl [(999999, [.nl 4 45 3]), (6, [.eq 4 (.row 45 3 (l ++ [v]).length (rowsV (l ++ [v])))])] ?_
  refine .inl (.inl ⟨[], _, rRight_fn l hl, .inl ⟨[], _, fun _ => fine_fn v, ⟨fun h => ?_, fun h => ?_⟩⟩⟩)
  · have e : rAdd l v = ([], 1) := by unfold rAdd; rw [if_pos h]
    rw [e]
    exact RetIs.soI rfl rfl (fun k hk => by simp at hk) (fun k hk => by simp at hk) rfl
  have h : (!rRight l || !rightV v) = false := h
  have hno : ¬ (!rRight l || !rightV v) = true := by rw [h]; simp
  have hR : rRight l = true := by
    cases hr : rRight l
    · simp [hr] at h
    · rfl
  have hlen : l.length ≤ 50000 := by
    unfold rRight at hR
    simp only [Bool.and_eq_true, decide_eq_true_eq] at hR
    exact hR.1
  have e1 : (0 + l.length) * 24 ≤ 140737488355328 := by omega
  have e2 : (0 + l.length + 1) * 24 ≤ 140737488355328 := by omega
  have hw : IntKind.i64.wrap ((l.length : Int) - 1) = (l.length : Int) - 1 := wr (by omega) (by omega)
  refine ⟨e1, e2, .inl ⟨fun hg => ?_, ⟨fun h2 => ?_, fun h2 => ?_⟩⟩⟩
  · have hg : decide ((l.length : Int) > 0) = true := hg.1
    simp at hg
    rw [hw]
    omega
  · have h2 : (decide ((l.length : Int) > 0) && decide (v.step < (l.getD (IntKind.i64.wrap ((l.length : Int) - 1)).toNat dV).step)) = true := h2
    have ek : ((l.length : Int) - 1).toNat = l.length - 1 := by omega
    rw [hw, ek] at h2
    simp only [Bool.and_eq_true, decide_eq_true_eq] at h2
    have e : rAdd l v = ([], 15) := by unfold rAdd; rw [if_neg hno, if_pos ⟨by omega, h2.2⟩]
    rw [e]
    exact RetIs.soI rfl rfl (fun k hk => by simp at hk) (fun k hk => by simp at hk) rfl
  have h2 : (decide ((l.length : Int) > 0) && decide (v.step < (l.getD (IntKind.i64.wrap ((l.length : Int) - 1)).toNat dV).step)) = false := h2
  have ek : ((l.length : Int) - 1).toNat = l.length - 1 := by omega
  rw [hw, ek] at h2
  have hno2 : ¬ (0 < l.length ∧ v.step < (l.getD (l.length - 1) dV).step) := by
    rintro ⟨h3, h4⟩
    rw [decide_eq_true (by omega), decide_eq_true h4] at h2
    cases h2
  have e3 : 0 + l.length + 1 = (l ++ [v]).length := by simp
  have nA : (l ++ [v]).length < 2 ^ 62 := by simp; omega
  refine .inl ⟨⟨rfl, rfl, e3, rsnocV l v⟩, .inl ⟨[], _, rRight_fn (l ++ [v]) nA, ⟨fun h3 => ?_, fun h3 => ?_⟩⟩⟩
  · have h3 : (!rRight (l ++ [v])) = true := h3
    have e : rAdd l v = ([], 6) := by unfold rAdd; rw [if_neg hno, if_neg hno2, if_pos (by simpa using h3)]
    rw [e]
    exact RetIs.soI rfl rfl (fun k hk => by simp at hk) (fun k hk => by simp at hk) rfl
  · have h3 : (!rRight (l ++ [v])) = false := h3
    have e : rAdd l v = (l ++ [v], 0) := by unfold rAdd; rw [if_neg hno, if_neg hno2, if_neg (by simp at h3; rw [h3]; simp)]
    rw [e]
    exact RetIs.soI rfl rfl (fun k hk => rfl) (fresh_rowsV _) rfl

/-- The last verdict about the name until the step. -/
def rBadK (l : List Ver) (name step : Int) : Nat → Bool
  | 0 => false
  | k + 1 => if (l.getD k dV).name = name ∧ (l.getD k dV).step ≤ step then (l.getD k dV).bad else rBadK l name step k
def rBad (l : List Ver) (name step : Int) : Bool := rBadK l name step l.length
set_option maxRecDepth 20000 in
set_option maxHeartbeats 4000000 in
theorem rBad_fn (l : List Ver) (hl : l.length < 2^62) (name step : Int) : Ctr Try.prog 35 [.rs 3 l.length (rowsV l), .i .i64 name, .i .i64 step] [] (.b (rBad l name step)) := by
  refine fn_of_exec tabOk Try.func35 (by kernel_rfl) rfl (N := Try.f35.ntmps) rfl (res := [.tmp 6]) rfl rfl [] ?_
  refine .inl ⟨[], Nat, fun k => k ≤ l.length ∧ rBad l name step = rBadK l name step k, fun k => [⟨7, [], .i .i64 ((k : Int) - 1)⟩], fun _ => [], fun k => k,
    ⟨l.length, [], ⟨Nat.le_refl _, rfl⟩, rfl, rfl, rfl, rfl, rfl, ⟨rfl, wr (by omega) (by omega)⟩, trivial⟩, ?_⟩
  rintro k ⟨hk, hr⟩
  refine .inl ⟨fun hc => ?_, fun hc => ?_⟩
  · have hc : decide ((k : Int) - 1 ≥ 0) = true := hc
    simp at hc
    obtain ⟨j, rfl⟩ : ∃ j, k = j + 1 := ⟨k - 1, by omega⟩
    have ej : (((j + 1 : Nat) : Int) - 1).toNat = j := by omega
    refine .inl ⟨⟨by omega, by omega⟩, ⟨fun _ => by omega, ⟨fun h2 => ⟨⟨by omega, by omega⟩, ?_⟩, fun h2 => ?_⟩⟩⟩
    · have h2 : ((l.getD (((j + 1 : Nat) : Int) - 1).toNat dV).name == name && decide ((l.getD (((j + 1 : Nat) : Int) - 1).toNat dV).step ≤ step)) = true := h2
      refine RetIs.b ?_
      show (l.getD (((j + 1 : Nat) : Int) - 1).toNat dV).bad = _
      rw [ej] at h2 ⊢
      simp only [Bool.and_eq_true, beq_iff_eq, decide_eq_true_eq] at h2
      rw [hr]
      exact (if_pos h2).symm
    · have h2 : ((l.getD (((j + 1 : Nat) : Int) - 1).toNat dV).name == name && decide ((l.getD (((j + 1 : Nat) : Int) - 1).toNat dV).step ≤ step)) = false := h2
      rw [ej] at h2
      have hne : ¬ ((l.getD j dV).name = name ∧ (l.getD j dV).step ≤ step) := by
        rintro ⟨h3, h4⟩
        rw [h3, decide_eq_true h4] at h2
        simp at h2
      have hr2 : rBad l name step = rBadK l name step j := hr.trans (if_neg hne)
      have ew : IntKind.i64.wrap (((j + 1 : Nat) : Int) - 1 - 1) = (j : Int) - 1 := (wr (by omega) (by omega)).trans (by omega)
      exact ⟨j, [], ⟨by omega, hr2⟩, by dsimp only; omega, rfl, rfl, rfl, rfl, rfl, ⟨rfl, ew⟩, trivial⟩
  · have hc : decide ((k : Int) - 1 ≥ 0) = false := hc
    simp at hc
    have : k = 0 := by omega
    subst this
    refine RetIs.b ?_
    rw [hr]
    rfl
end Go.Proofs.Ytklmfkejgjhneaa
