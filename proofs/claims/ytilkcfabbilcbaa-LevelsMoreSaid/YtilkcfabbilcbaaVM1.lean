/-
  LevelsMore: what it computes.
-/
import Derived.Test.YtilkcfabbilcbaaVL2
namespace Go.Proofs.Ytilkcfabbilcbaa
open Go.Eng

theorem lowOne_fn (n : Note) (b : Bool) (m w : Int) : Ctr Try.prog 11 [.rs 5 (0 + 1) (rowOf 5 n.av), .b b, .i .i64 m, .i .i64 w] [] (.i .i64 (Low [n] b m w)) :=
  Ctr.of_eq (args := [.rs 5 1 (rowsN [n]), .b b, .i .i64 m, .i .i64 w]) ⟨⟨rfl, rfl, ones n⟩, AVEq.refl _, AVEq.refl _, AVEq.refl _⟩ (Low_fn [n] (by simp) b m w)
theorem highOne_fn (n : Note) (b : Bool) (m w : Int) : Ctr Try.prog 13 [.rs 5 (0 + 1) (rowOf 5 n.av), .b b, .i .i64 m, .i .i64 w] [] (.i .i64 (High [n] m w)) :=
  Ctr.of_eq (args := [.rs 5 1 (rowsN [n]), .b b, .i .i64 m, .i .i64 w]) ⟨⟨rfl, rfl, ones n⟩, AVEq.refl _, AVEq.refl _, AVEq.refl _⟩ (High_fn [n] (by simp) b m w)

set_option maxRecDepth 20000 in
set_option maxHeartbeats 4000000 in
theorem more_fn (l : List Note) (n : Note) (b : Bool) (m w by_ : Int) (hl : (l.length + 1) * 40 ≤ 140737488355328) :
    Ctr Try.prog 6 [.rs 5 l.length (rowsN l), .ag n.av, .b b, .i .i64 m, .i .i64 w, .i .i64 by_] [] (.b true) := by
  refine fn_of_exec tabOk Try.func6 (by kernel_rfl) rfl (N := Try.f6.ntmps) rfl (res := [.tmp 12]) rfl rfl [(3, [.eq 4 (.row 30 5 (l ++ [n]).length (rowsN (l ++ [n])))]), (14, [.eq 9 (.row 30 5 (rot (l ++ [n]) by_.toNat).length (rowsN (rot (l ++ [n]) by_.toNat)))])] ?_
  have e1 : (0 + l.length) * 40 ≤ 140737488355328 := by omega
  have e2 : (0 + l.length + 1) * 40 ≤ 140737488355328 := by rw [Nat.zero_add]; exact hl
  have e3 : 0 + l.length + 1 = (l ++ [n]).length := by simp
  have nl : l.length < 2 ^ 62 := by omega
  have nA : (l ++ [n]).length < 2 ^ 62 := by simp; omega
  refine .inl ⟨[], _, small_fn, ⟨e1, e2, .inl ⟨⟨rfl, rfl, e3, snoc_rows l n⟩, ?_⟩⟩⟩
  clear e1 e2 e3
  refine .inl ⟨[], _, fun _ => rValid_fn (l ++ [n]) nA, ?_⟩
  refine ⟨fun h => RetIs.b rfl, fun h => ?_⟩
  have hv : valid (l ++ [n]) = true ∧ l.length ≤ 40 ∧ 0 ≤ by_ ∧ by_ ≤ (l ++ [n]).length := by
    simp only [Bool.or_eq_false_iff, decide_eq_false_iff_not, Bool.not_eq_false', Int.not_lt, gt_iff_lt] at h
    exact ⟨h.1.1.2, by have := h.1.1.1; omega, h.1.2, h.2⟩
  obtain ⟨hv, h40, hb0, hb1⟩ := hv
  refine .inl ⟨[], _, Low_fn l nl b m w, .inl ⟨[], _, Low_fn (l ++ [n]) nA b m w, .inl ⟨[], _, lowOne_fn n b m w, .inl ⟨[], _, High_fn l nl b m w, .inl ⟨[], _, High_fn (l ++ [n]) nA b m w, .inl ⟨[], _, highOne_fn n b m w, .inl ?_⟩⟩⟩⟩⟩⟩
  refine .inl ⟨[], _, fun _ => Right_fn (l ++ [n]) nA b, .inl ⟨[], _, fun _ => Right_fn l nl b, ⟨fun h2 => ?_, fun _ => ?_⟩⟩⟩
  · exfalso
    rw [Low_more hv, High_more hv] at h2
    have h3 := @Right_more l n hv b
    have h4 : n.w ≠ w → _ := fun hw => @One_other n w (valid_left hv).2 hw b m
    by_cases hw : n.w = w
    · cases hr : Right (l ++ [n]) b
      · simp [hw, hr] at h2
      · simp [hw, hr, h3 hr] at h2
    · obtain ⟨h5, h6⟩ := h4 hw
      cases hr : Right (l ++ [n]) b
      · simp [h5, h6, hr] at h2
      · simp [h5, h6, hr, h3 hr] at h2
  have hA : (l ++ [n]).length * 40 ≤ 140737488355328 := by simp; omega
  have e5 : ((l ++ [n]).length - by_).toNat = (l ++ [n]).length - by_.toNat := by omega
  have e6 : (by_ - 0).toNat = by_.toNat := by omega
  have e7 : (0 + ((l ++ [n]).length - by_).toNat) * 40 ≤ 140737488355328 := Nat.le_trans (Nat.mul_le_mul_right 40 (by omega)) hA
  have e8 : (0 + ((l ++ [n]).length - by_).toNat + (by_ - 0).toNat) * 40 ≤ 140737488355328 := Nat.le_trans (Nat.mul_le_mul_right 40 (by omega)) hA
  refine ⟨⟨hb0, hb1, by omega⟩, e7, ⟨by omega, hb0, hb1⟩, e8, ?_⟩
  refine .inl ⟨⟨rfl, rfl, ?_, ?_⟩, ?_⟩
  · show 0 + ((l ++ [n]).length - by_).toNat + (by_ - 0).toNat = _
    rw [rot_len]
    omega
  · intro k hk
    rw [← rot_rows (l ++ [n]) by_.toNat (by omega) k hk, ← e5]
    rfl
  clear e5 e6 e7 e8
  have hR := rot_len (l ++ [n]) by_.toNat
  have hT := steps_rows (rot (l ++ [n]) by_.toNat)
  have hLo := Low_turned hv by_.toNat b m w
  have hHi := High_turned hv by_.toNat m w
  have hRi := Right_turned hv by_.toNat b
  have hS := steps_len (rot (l ++ [n]) by_.toNat)
  generalize rot (l ++ [n]) by_.toNat = R at *
  refine ⟨[], Nat, fun k => k ≤ R.length, fun k => [⟨22, [], .i .i64 k⟩], fun k => [⟨9, [], .row 30 5 R.length fun j => (stepK R k j).av⟩], fun k => R.length - k,
    ⟨0, [], Nat.zero_le _, rfl, rfl, rfl, rfl, rfl, ⟨rfl, rfl⟩, ⟨rfl, rfl, rfl, fun j hj => rfl⟩⟩, ?_⟩
  intro k hk
  refine .inl ⟨fun hc => ?_, fun hc => ?_⟩
  · have hc := dlt hc
    have hk1 : k < R.length := by omega
    refine .inl ⟨⟨by omega, by omega⟩, ?_⟩
    have hlt : R.length ≤ 2 ^ 60 := by omega
    refine ⟨by omega, k + 1, [], by dsimp only; omega, by dsimp only; omega, rfl, rfl, rfl, rfl, rfl, ⟨rfl, wr (by omega) (by omega)⟩, ⟨rfl, rfl, rfl, fun j hj => ?_⟩⟩
    show (if j = (k : Int).toNat then over 3 [.i .i64 k] (stepK R k j).av else (stepK R k j).av) = (stepK R (k + 1) j).av
    exact step_row R k j
  · have hc := dnlt hc
    have hk2 : k = R.length := by omega
    subst hk2
    have nT : (steps R).length < 2 ^ 62 := by omega
    have eT : AVEq (.rs 5 (steps R).length (rowsN (steps R))) (.rs 5 R.length fun j => (stepK R R.length j).av) := ⟨rfl, hS.symm, fun j hj => hT j (by omega)⟩
    refine .inl ⟨[], _, fun _ => Ctr.of_eq (args := [.rs 5 (steps R).length (rowsN (steps R)), .b b, .i .i64 m, .i .i64 w]) ⟨eT, AVEq.refl _, AVEq.refl _, AVEq.refl _⟩ (Low_fn (steps R) nT b m w), .inl ⟨[], _, fun _ => Ctr.of_eq (args := [.rs 5 (steps R).length (rowsN (steps R)), .b b, .i .i64 m, .i .i64 w]) ⟨eT, AVEq.refl _, AVEq.refl _, AVEq.refl _⟩ (High_fn (steps R) nT b m w),
      .inl ⟨[], _, fun _ => Ctr.of_eq (args := [.rs 5 (steps R).length (rowsN (steps R)), .b b]) ⟨eT, AVEq.refl _⟩ (Right_fn (steps R) nT b), .inl ⟨[], _, fun _ => Right_fn (l ++ [n]) nA b, ?_⟩⟩⟩⟩
    refine RetIs.b ?_
    rw [hLo, hHi, hRi]
    simp
end Go.Proofs.Ytilkcfabbilcbaa
