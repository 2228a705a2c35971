/-
  Holds: orders, and what is to be done.
-/
import Derived.Test.YtklmfkejgjhneaaH3
namespace Go.Proofs.Ytklmfkejgjhneaa
open Go.Eng

structure Ord where
  kind : Int
  ev : Int
  by_ : Int
  step : Int
def Ord.av (n : Ord) : List AV := [.i .i64 n.kind, .i .i64 n.ev, .i .i64 n.by_, .i .i64 n.step]
def dO : Ord := ⟨0, 0, 0, 0⟩
def rowsO (l : List Ord) (k : Nat) : List AV := (l.getD k dO).av
theorem any_takeG {α : Type} (d : α) (l : List α) (p : α → Bool) (k : Nat) (h : k < l.length) : (l.take (k + 1)).any p = ((l.take k).any p || p (l.getD k d)) := by
  rw [List.take_succ_eq_append_getElem h, List.any_append]
  simp [List.getD, h]
theorem any_trueG {α : Type} (d : α) (l : List α) (p : α → Bool) (k : Nat) (h : k < l.length) (hp : p (l.getD k d) = true) : l.any p = true := by
  rw [List.any_eq_true]
  exact ⟨l.getD k d, by simp [List.getD, h], hp⟩

def askP (event now a b : Int) (o : Ord) : Bool := o.ev == event && decide (o.step ≤ now) && (o.kind == a || o.kind == b)
def Asked (l : List Ord) (event now a b : Int) : Bool := l.any (askP event now a b)
set_option maxRecDepth 20000 in
set_option maxHeartbeats 4000000 in
theorem Asked_fn (l : List Ord) (hl : l.length < 2^62) (event now a b : Int) : Ctr Try.prog 85 [.rs 4 l.length (rowsO l), .i .i64 event, .i .i64 now, .i .i64 a, .i .i64 b] [] (.b (Asked l event now a b)) := by
  refine fn_of_exec tabOk Try.func85 (by kernel_rfl) rfl (N := Try.f85.ntmps) rfl (res := [.tmp 10]) rfl rfl [] ?_
  refine .inl ⟨[], Nat, fun k => k ≤ l.length ∧ (l.take k).any (askP event now a b) = false, fun k => [⟨11, [], .i .i64 k⟩], fun _ => [], fun k => l.length - k,
    ⟨0, [], ⟨Nat.zero_le _, rfl⟩, rfl, rfl, rfl, rfl, rfl, ⟨rfl, rfl⟩, trivial⟩, ?_⟩
  rintro k ⟨hk, hno⟩
  refine .inl ⟨fun hc => ?_, fun hc => ?_⟩
  · have hc := dlt hc
    have ek : (k : Int).toNat = k := Int.toNat_natCast k
    refine Or.inl ⟨⟨by omega, by omega⟩, ⟨fun h2 => ?_, fun h2 => ?_⟩⟩
    · have h2 : askP event now a b (l.getD (k : Int).toNat dO) = true := h2
      rw [ek] at h2
      refine RetIs.b ?_
      unfold Asked
      rw [any_trueG dO l _ k (by omega) h2]
    · have h2 : askP event now a b (l.getD (k : Int).toNat dO) = false := h2
      rw [ek] at h2
      exact ⟨k + 1, [], ⟨by omega, by rw [any_takeG dO l _ k (by omega), hno, h2]; rfl⟩, by dsimp only; omega, rfl, rfl, rfl, rfl, rfl, ⟨rfl, wr (by omega) (by omega)⟩, trivial⟩
  · have hc := dnlt hc
    have hk2 : l.take k = l := List.take_of_length_le (by omega)
    rw [hk2] at hno
    refine RetIs.b ?_
    unfold Asked
    rw [hno]

def Decide (h : List Hld) (l : List Ord) (event now : Int) : Int :=
  if Held h event now = false then (if (Asked l event now 1 3 || Asked l event now 0 2) = true then 1 else 0) else if Asked l event now 1 3 = true then 2 else 0
set_option maxRecDepth 20000 in
theorem rDecide_fn (h : List Hld) (hh : h.length < 2^62) (l : List Ord) (hl : l.length < 2^62) (event now : Int) : Ctr Try.prog 49 [.rs 4 h.length (rowsH h), .rs 4 l.length (rowsO l), .i .i64 event, .i .i64 now] [] (.i .i64 (Decide h l event now)) := by
  refine fn_of_exec tabOk Try.func49 (by kernel_rfl) rfl (N := Try.f49.ntmps) rfl (res := [.tmp 8]) rfl rfl [] ?_
  refine .inl ⟨[], _, Asked_fn l hl event now 1 3, .inl ⟨[], _, Asked_fn l hl event now 0 2, .inl (.inl ⟨[], _, rHeld_fn h hh event now, ⟨fun h2 => ?_, fun h2 => ?_⟩⟩)⟩⟩
  · have h2 : (!Held h event now) = true := h2
    have h2 : Held h event now = false := by simpa using h2
    refine .inl ⟨fun h3 => ?_, fun h3 => ?_⟩
    · refine RetIs.i ?_
      unfold Decide
      rw [if_pos h2, if_pos h3]
    · refine RetIs.i ?_
      unfold Decide
      rw [if_pos h2, if_neg (by rw [Bool.not_eq_true]; exact h3)]
  · have h2 : (!Held h event now) = false := h2
    have h2 : ¬ Held h event now = false := by simp at h2; simp [h2]
    refine .inl ⟨fun h3 => ?_, fun h3 => ?_⟩
    · refine RetIs.i ?_
      unfold Decide
      rw [if_neg h2, if_pos h3]
    · refine RetIs.i ?_
      unfold Decide
      rw [if_neg h2, if_neg (by rw [Bool.not_eq_true]; exact h3)]
end Go.Proofs.Ytklmfkejgjhneaa
