/-
  Verdicts: the small functions.
-/
import Derived.Test.YtklmfkejgjhneaaTab
namespace Go.Proofs.Ytklmfkejgjhneaa
open Go.Eng

structure Ver where
  name : Int
  step : Int
  bad : Bool
def Ver.av (n : Ver) : List AV := [.i .i64 n.name, .i .i64 n.step, .b n.bad]
def dV : Ver := ⟨0, 0, false⟩
def rowsV (l : List Ver) (k : Nat) : List AV := (l.getD k dV).av
def rowsI (l : List Int) (k : Nat) : List AV := [.i .i64 (l.getD k 0)]

def rightV (v : Ver) : Bool := decide (v.name ≥ 0) && decide (v.name ≤ 1073741824) && decide (v.step ≥ 0) && decide (v.step ≤ 1073741824)
set_option maxRecDepth 20000 in
theorem right_fn (v : Ver) : Ctr Try.prog 73 [.ag v.av] [] (.b (rightV v)) := by
  refine fn_of_exec tabOk Try.func73 (by kernel_rfl) rfl (N := Try.f73.ntmps) rfl (res := [.tmp 2]) rfl rfl [] ?_
  exact RetIs.b rfl
set_option maxRecDepth 20000 in
theorem fine_fn (v : Ver) : Ctr Try.prog 76 [.ag v.av] [] (.b (rightV v)) := by
  refine fn_of_exec tabOk Try.func76 (by kernel_rfl) rfl (N := Try.f76.ntmps) rfl (res := [.tmp 2]) rfl rfl [] ?_
  exact RetIs.b rfl

instance : DecidableEq Ver := fun a b =>
  if h : a.name = b.name ∧ a.step = b.step ∧ a.bad = b.bad then isTrue (by obtain ⟨a1, a2, a3⟩ := a; obtain ⟨b1, b2, b3⟩ := b; simp at h; obtain ⟨rfl, rfl, rfl⟩ := h; rfl) else isFalse (by rintro rfl; exact h ⟨rfl, rfl, rfl⟩)
/-- Equality of two lists, looked through from the front. -/
def eqUpto {α : Type} [DecidableEq α] (d : α) (a b : List α) (k : Nat) : Prop := ∀ j, j < k → a.getD j d = b.getD j d
theorem eqUpto_all {α : Type} [DecidableEq α] {d : α} {a b : List α} (hl : a.length = b.length) (h : eqUpto d a b a.length) : a = b := by
  refine List.ext_getElem hl fun j h1 h2 => ?_
  have := h j h1
  simp only [List.getD, List.getElem?_eq_getElem h1, List.getElem?_eq_getElem h2, Option.getD_some] at this
  exact this

set_option maxRecDepth 20000 in
theorem ints_fn (a b : List Int) (ha : a.length < 2^62) (hb : b.length < 2^62) : Ctr Try.prog 36 [.rs 1 a.length (rowsI a), .rs 1 b.length (rowsI b)] [] (.b (decide (a = b))) := by
  refine fn_of_exec tabOk Try.func36 (by kernel_rfl) rfl (N := Try.f36.ntmps) rfl (res := [.tmp 4]) rfl rfl [] ?_
  refine .inl ⟨fun h => ?_, fun h => ?_⟩
  · refine RetIs.b ?_
    have h : ((a.length : Int) != b.length) = true := h
    simp at h
    simp
    intro he
    exact h (by rw [he])
  have h : ((a.length : Int) != b.length) = false := h
  simp at h
  have hl : a.length = b.length := by omega
  refine .inl ⟨[], Nat, fun k => k ≤ a.length ∧ eqUpto 0 a b k, fun k => [⟨5, [], .i .i64 k⟩], fun _ => [], fun k => a.length - k,
    ⟨0, [], ⟨Nat.zero_le _, fun j hj => by omega⟩, rfl, rfl, rfl, rfl, rfl, ⟨rfl, rfl⟩, trivial⟩, ?_⟩
  rintro k ⟨hk, he⟩
  refine .inl ⟨fun hc => ?_, fun hc => ?_⟩
  · have hc := dlt hc
    refine .inl ⟨⟨by omega, by omega⟩, ⟨by omega, by omega⟩, ⟨fun h2 => ?_, fun h2 => ?_⟩⟩
    · refine RetIs.b ?_
      have h2 : (a.getD (k : Int).toNat 0 != b.getD (k : Int).toNat 0) = true := h2
      rw [Int.toNat_natCast] at h2
      simp only [bne_iff_ne] at h2
      symm
      rw [decide_eq_false_iff_not]
      rintro rfl
      exact h2 rfl
    · have h2 : (a.getD (k : Int).toNat 0 != b.getD (k : Int).toNat 0) = false := h2
      rw [Int.toNat_natCast] at h2
      have h3 : a.getD k 0 = b.getD k 0 := by simpa using h2
      refine ⟨k + 1, [], ⟨by omega, fun j hj => ?_⟩, by dsimp only; omega, rfl, rfl, rfl, rfl, rfl, ⟨rfl, wr (by omega) (by omega)⟩, trivial⟩
      by_cases hjk : j = k
      · rw [hjk]; exact h3
      · exact he j (by omega)
  · have hc := dnlt hc
    refine RetIs.b ?_
    have hk2 : k = a.length := by omega
    subst hk2
    simp [eqUpto_all hl he]
theorem ver_ne (a b : Ver) : eqAVs a.av b.av = decide (a = b) := by
  obtain ⟨a1, a2, a3⟩ := a
  obtain ⟨b1, b2, b3⟩ := b
  simp only [Ver.av, eqAVs, eqAV]
  rw [Bool.eq_iff_iff]
  simp [Ver.mk.injEq]
set_option maxRecDepth 20000 in
theorem same_fn (a b : List Ver) (ha : a.length < 2^62) (hb : b.length < 2^62) : Ctr Try.prog 33 [.rs 3 a.length (rowsV a), .rs 3 b.length (rowsV b)] [] (.b (decide (a = b))) := by
  refine fn_of_exec tabOk Try.func33 (by kernel_rfl) rfl (N := Try.f33.ntmps) rfl (res := [.tmp 4]) rfl rfl [] ?_
  refine .inl ⟨fun h => ?_, fun h => ?_⟩
  · refine RetIs.b ?_
    have h : ((a.length : Int) != b.length) = true := h
    simp at h
    simp
    intro he
    exact h (by rw [he])
  have h : ((a.length : Int) != b.length) = false := h
  simp at h
  have hl : a.length = b.length := by omega
  refine .inl ⟨[], Nat, fun k => k ≤ a.length ∧ eqUpto dV a b k, fun k => [⟨5, [], .i .i64 k⟩], fun _ => [], fun k => a.length - k,
    ⟨0, [], ⟨Nat.zero_le _, fun j hj => by omega⟩, rfl, rfl, rfl, rfl, rfl, ⟨rfl, rfl⟩, trivial⟩, ?_⟩
  rintro k ⟨hk, he⟩
  refine .inl ⟨fun hc => ?_, fun hc => ?_⟩
  · have hc := dlt hc
    refine .inl ⟨⟨by omega, by omega⟩, ⟨by omega, by omega⟩, ⟨fun h2 => ?_, fun h2 => ?_⟩⟩
    · refine RetIs.b ?_
      have h2 : (!eqAVs (a.getD (k : Int).toNat dV).av (b.getD (k : Int).toNat dV).av) = true := h2
      rw [Int.toNat_natCast, ver_ne] at h2
      symm
      rw [decide_eq_false_iff_not]
      rintro rfl
      simp at h2
    · have h2 : (!eqAVs (a.getD (k : Int).toNat dV).av (b.getD (k : Int).toNat dV).av) = false := h2
      rw [Int.toNat_natCast, ver_ne] at h2
      have h3 : a.getD k dV = b.getD k dV := by simpa using h2
      refine ⟨k + 1, [], ⟨by omega, fun j hj => ?_⟩, by dsimp only; omega, rfl, rfl, rfl, rfl, rfl, ⟨rfl, wr (by omega) (by omega)⟩, trivial⟩
      by_cases hjk : j = k
      · rw [hjk]; exact h3
      · exact he j (by omega)
  · have hc := dnlt hc
    refine RetIs.b ?_
    have hk2 : k = a.length := by omega
    subst hk2
    simp [eqUpto_all hl he]
end Go.Proofs.Ytklmfkejgjhneaa
