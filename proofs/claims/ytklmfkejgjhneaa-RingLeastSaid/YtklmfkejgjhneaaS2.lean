/-
  Verdicts: Clone, bad and Bad.
-/
import Derived.Test.YtklmfkejgjhneaaS1
namespace Go.Proofs.Ytklmfkejgjhneaa
open Go.Eng

theorem fresh_rowsV (l : List Ver) : ∀ k, k < l.length → AV.freshs (rowsV l k) = true := fun _ _ => rfl
theorem cat_rowsV (l : List Ver) (c : List AV) : ∀ k, k < l.length → catG 0 (rowOf 3 c) (rowsV l) k = rowsV l k := fun k _ => by simp [catG]

set_option maxRecDepth 20000 in
theorem clone_fn (l : List Ver) (hl : l.length * 24 ≤ 140737488355328) : Ctr Try.prog 74 [.rs 3 l.length (rowsV l)] [.row 45 3 l.length (rowsV l)] (.so 0) := by
  refine fn_of_exec tabOk Try.func74 (by kernel_rfl) rfl (N := Try.f74.ntmps) rfl (res := [.tmp 2]) rfl rfl [(999999, [.nl 2 45 3])] ?_
  have e1 : (0 + l.length) * 24 ≤ 140737488355328 := by rw [Nat.zero_add]; exact hl
  refine .inl fun c hc => ⟨fun h => ?_, fun h => ⟨e1, ?_⟩⟩
  · have h0 : l.length = 0 := hc (by cases c <;> first | rfl | cases h)
    exact RetIs.so rfl h0.symm (fun k hk => by omega) (fun k hk => by omega)
  · exact RetIs.so rfl (Nat.zero_add _) (cat_rowsV l []) (fresh_rowsV l)

/-- The map of names: the last verdict until the step. -/
def badL (l : List Ver) (step : Int) : List (Int × Bool) := l.foldl (fun L v => if decide (v.step ≤ step) then mset L v.name v.bad else L) []
abbrev mpIB (L : List (Int × Bool)) : AO := mpL (fun k => .i .i64 k) (fun b => .b b) (0, false) L
theorem badL_succ (l : List Ver) (step : Int) (k : Nat) (h : k < l.length) : badL (l.take (k + 1)) step = if decide ((l.getD k dV).step ≤ step) then mset (badL (l.take k) step) (l.getD k dV).name (l.getD k dV).bad else badL (l.take k) step :=
  foldl_take _ _ l k dV h
theorem fresh_mp (L : List (Int × Bool)) : freshO (mpIB L) := fun _ _ => ⟨rfl, rfl⟩

set_option maxRecDepth 20000 in
set_option maxHeartbeats 4000000 in
theorem bad_fn (l : List Ver) (hl : l.length < 2^62) (step : Int) : Ctr Try.prog 77 [.rs 3 l.length (rowsV l), .i .i64 step] [mpIB (badL l step)] (.mo 0) := by
  refine fn_of_exec tabOk Try.func77 (by kernel_rfl) rfl (N := Try.f77.ntmps) rfl (res := [.tmp 4]) rfl rfl [] ?_
  refine .inl ⟨[], Nat, fun k => k ≤ l.length, fun k => [⟨11, [], .i .i64 k⟩], fun k => [⟨0, [], mpIB (badL (l.take k) step)⟩], fun k => l.length - k,
    ⟨0, [], Nat.zero_le _, rfl, rfl, rfl, rfl, rfl, ⟨rfl, rfl⟩, ⟨rfl, rfl, fun j hj => by simp [badL] at hj⟩⟩, ?_⟩
  intro k hk
  refine .inl ⟨fun hc => ?_, fun hc => ?_⟩
  · have hc := dlt hc
    have hs := badL_succ l step k (by omega)
    refine .inl ⟨⟨by omega, by omega⟩, ⟨fun h2 => ?_, fun h2 => ?_⟩⟩
    · have h2 : decide ((l.getD (k : Int).toNat dV).step ≤ step) = true := h2
      rw [Int.toNat_natCast] at h2
      refine ⟨_, _, _, _, _, ⟨fun _ _ => rfl, rfl, updOk_mset (L := badL (l.take k) step) i64_inj (l.getD (k : Int).toNat dV).name (l.getD (k : Int).toNat dV).bad⟩, ?_⟩
      refine ⟨k + 1, [], by dsimp only; omega, by dsimp only; omega, rfl, rfl, rfl, rfl, rfl, ⟨rfl, wr (by omega) (by omega)⟩, ?_⟩
      have e : mpIB (badL (l.take (k + 1)) step) = mpIB (mset (badL (l.take k) step) (l.getD (k : Int).toNat dV).name (l.getD (k : Int).toNat dV).bad) := by rw [hs, if_pos h2, Int.toNat_natCast]
      have hv : AOEq (mpIB (badL (l.take (k + 1)) step)) (mpIB (mset (badL (l.take k) step) (l.getD (k : Int).toNat dV).name (l.getD (k : Int).toNat dV).bad)) := by rw [e]; exact AOEq.refl _
      exact hv
    · have h2 : decide ((l.getD (k : Int).toNat dV).step ≤ step) = false := h2
      rw [Int.toNat_natCast] at h2
      refine ⟨k + 1, [], by dsimp only; omega, by dsimp only; omega, rfl, rfl, rfl, rfl, rfl, ⟨rfl, wr (by omega) (by omega)⟩, ?_⟩
      have e : mpIB (badL (l.take (k + 1)) step) = mpIB (badL (l.take k) step) := by rw [hs, if_neg (by rw [h2]; simp)]
      have hv : AOEq (mpIB (badL (l.take (k + 1)) step)) (mpIB (badL (l.take k) step)) := by rw [e]; exact AOEq.refl _
      exact hv
  · have hc := dnlt hc
    have hk2 : l.take k = l := List.take_of_length_le (by omega)
    rw [hk2]
    exact RetIs.mo rfl rfl (fun _ _ => ⟨rfl, rfl, rfl⟩) (fresh_mp _)

def Bad (l : List Ver) (name step : Int) : Bool := (mget (badL l step) name).getD false
set_option maxRecDepth 20000 in
theorem Bad_fn (l : List Ver) (hl : l.length < 2^62) (name step : Int) : Ctr Try.prog 34 [.rs 3 l.length (rowsV l), .i .i64 name, .i .i64 step] [] (.b (Bad l name step)) := by
  refine fn_of_exec tabOk Try.func34 (by kernel_rfl) rfl (N := Try.f34.ntmps) rfl (res := [.tmp 6]) rfl rfl [] ?_
  refine .inl ⟨_, _, bad_fn l hl step, ⟨_, _, ⟨fun _ _ => rfl, rfl, lookOk_mget (L := badL l step) (d := (0, false)) (vf := fun b => AV.b b) i64_inj name false⟩, ?_⟩⟩
  exact RetIs.b rfl
end Go.Proofs.Ytklmfkejgjhneaa
