/-
  Holds: equal lists.
-/
import Derived.Test.YtklmfkejgjhneaaH6
namespace Go.Proofs.Ytklmfkejgjhneaa
open Go.Eng

instance : DecidableEq Hld := fun a b =>
  if h : a.id = b.id ∧ a.ev = b.ev ∧ a.fr = b.fr ∧ a.to = b.to then isTrue (by obtain ⟨a1, a2, a3, a4⟩ := a; obtain ⟨b1, b2, b3, b4⟩ := b; simp at h; obtain ⟨rfl, rfl, rfl, rfl⟩ := h; rfl) else isFalse (by rintro rfl; exact h ⟨rfl, rfl, rfl, rfl⟩)
theorem hld_ne (a b : Hld) : eqAVs a.av b.av = decide (a = b) := by
  obtain ⟨a1, a2, a3, a4⟩ := a
  obtain ⟨b1, b2, b3, b4⟩ := b
  simp only [Hld.av, eqAVs, eqAV]
  rw [Bool.eq_iff_iff]
  simp [Hld.mk.injEq]
set_option maxRecDepth 20000 in
theorem sameH_fn (a b : List Hld) (ha : a.length < 2^62) (hb : b.length < 2^62) : Ctr Try.prog 50 [.rs 4 a.length (rowsH a), .rs 4 b.length (rowsH b)] [] (.b (decide (a = b))) := by
  refine fn_of_exec tabOk Try.func50 (by kernel_rfl) rfl (N := Try.f50.ntmps) rfl (res := [.tmp 4]) rfl rfl [] ?_
  refine .inl ⟨fun h => ?_, fun h => ?_⟩
  · refine RetIs.b ?_
    have h : ((a.length : Int) != b.length) = true := h
    simp at h
    simp
    intro he
    exact h (by rw [he])
  have h : ((a.length : Int) != b.length) = false := h
  simp at h
  have hl : a.length = b.length := by omega
  refine .inl ⟨[], Nat, fun k => k ≤ a.length ∧ eqUpto dH a b k, fun k => [⟨5, [], .i .i64 k⟩], fun _ => [], fun k => a.length - k,
    ⟨0, [], ⟨Nat.zero_le _, fun j hj => by omega⟩, rfl, rfl, rfl, rfl, rfl, ⟨rfl, rfl⟩, trivial⟩, ?_⟩
  rintro k ⟨hk, he⟩
  refine .inl ⟨fun hc => ?_, fun hc => ?_⟩
  · have hc := dlt hc
    refine .inl ⟨⟨by omega, by omega⟩, ⟨by omega, by omega⟩, ⟨fun h2 => ?_, fun h2 => ?_⟩⟩
    · refine RetIs.b ?_
      have h2 : (!eqAVs (a.getD (k : Int).toNat dH).av (b.getD (k : Int).toNat dH).av) = true := h2
      rw [Int.toNat_natCast, hld_ne] at h2
      symm
      rw [decide_eq_false_iff_not]
      rintro rfl
      simp at h2
    · have h2 : (!eqAVs (a.getD (k : Int).toNat dH).av (b.getD (k : Int).toNat dH).av) = false := h2
      rw [Int.toNat_natCast, hld_ne] at h2
      have h3 : a.getD k dH = b.getD k dH := by simpa using h2
      refine ⟨k + 1, [], ⟨by omega, fun j hj => ?_⟩, by dsimp only; omega, rfl, rfl, rfl, rfl, rfl, ⟨rfl, wr (by omega) (by omega)⟩, trivial⟩
      by_cases hjk : j = k
      · rw [hjk]; exact h3
      · exact he j (by omega)
  · have hc := dnlt hc
    refine RetIs.b ?_
    have hk2 : k = a.length := by omega
    subst hk2
    simp [eqUpto_all hl he]
end Go.Proofs.Ytklmfkejgjhneaa
