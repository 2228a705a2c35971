/-
  Holds: the small functions.
-/
import Derived.Test.YtklmfkejgjhneaaS9
namespace Go.Proofs.Ytklmfkejgjhneaa
open Go.Eng

structure Hld where
  id : Int
  ev : Int
  fr : Int
  to : Int
def Hld.av (n : Hld) : List AV := [.i .i64 n.id, .i .i64 n.ev, .i .i64 n.fr, .i .i64 n.to]
def dH : Hld := ⟨0, 0, 0, 0⟩
def rowsH (l : List Hld) (k : Nat) : List AV := (l.getD k dH).av

theorem gdH {l : List Hld} {k : Nat} (h : k < l.length) : l.getD k dH = l[k] := by simp [List.getD_eq_getElem?_getD, h]
/-- The first place where p holds, or -1. -/
def idxF (p : Hld → Bool) (l : List Hld) : Int := match l.findIdx? p with | some k => k | none => -1
theorem idxF_some (p : Hld → Bool) (l : List Hld) (k : Nat) (hk : k < l.length) (h1 : ∀ j, j < k → p (l.getD j dH) = false) (h2 : p (l.getD k dH) = true) : idxF p l = k := by
  have : l.findIdx? p = some k := by
    rw [List.findIdx?_eq_some_iff_getElem]
    refine ⟨hk, ?_, fun j hj => ?_⟩
    · rw [gdH hk] at h2; exact h2
    · have := h1 j hj
      rw [gdH (by omega)] at this
      simp [this]
  simp [idxF, this]
theorem idxF_none (p : Hld → Bool) (l : List Hld) (h1 : ∀ j, j < l.length → p (l.getD j dH) = false) : idxF p l = -1 := by
  have : l.findIdx? p = none := by
    rw [List.findIdx?_eq_none_iff]
    intro x hx
    obtain ⟨j, hj, rfl⟩ := List.getElem_of_mem hx
    have := h1 j hj
    rw [gdH hj] at this
    exact this
  simp [idxF, this]
theorem idxF_any (p : Hld → Bool) (l : List Hld) : decide (idxF p l ≥ 0) = l.any p := by
  unfold idxF
  cases h : l.findIdx? p with
  | none =>
    rw [List.findIdx?_eq_none_iff] at h
    have : l.any p = false := by simpa using h
    rw [this]; rfl
  | some k =>
    rw [List.findIdx?_eq_some_iff_getElem] at h
    obtain ⟨hk, hp, _⟩ := h
    have : l.any p = true := by rw [List.any_eq_true]; exact ⟨_, List.getElem_mem hk, hp⟩
    rw [this]
    simp


theorem step_fn (n : Int) : Ctr Try.prog 81 [.i .i64 n] [] (.b (decide (0 ≤ n) && decide (n ≤ 1073741824))) := by
  refine fn_of_exec tabOk Try.func81 (by kernel_rfl) rfl (N := Try.f81.ntmps) rfl (res := [.tmp 2]) rfl rfl [] ?_
  exact RetIs.b rfl

set_option maxRecDepth 20000 in
theorem index1_fn (l : List Hld) (hl : l.length < 2^62) (fid : FuncId) (c1 : List AV) (p : Hld → Bool) (hp : ∀ x : Hld, Ctr Try.prog fid [.ag x.av, .rp c1] [] (.b (p x))) :
    Ctr Try.prog 79 [.rs 4 l.length (rowsH l), .fn fid [.rp c1]] [] (.i .i64 (idxF p l)) := by
  refine fn_of_exec tabOk Try.func79 (by kernel_rfl) rfl (N := Try.f79.ntmps) rfl (res := [.tmp 4]) rfl rfl [] ?_
  refine .inl ⟨[], Nat, fun k => k ≤ l.length ∧ ∀ j, j < k → p (l.getD j dH) = false, fun k => [⟨8, [], .i .i64 k⟩], fun _ => [], fun k => l.length - k,
    ⟨0, [], ⟨Nat.zero_le _, fun j hj => by omega⟩, rfl, rfl, rfl, rfl, rfl, ⟨rfl, rfl⟩, trivial⟩, ?_⟩
  intro k hk
  obtain ⟨hk, hno⟩ := hk
  refine .inl ⟨fun hc => ?_, fun hc => ?_⟩
  · have hc := dlt hc
    refine .inl ⟨by omega, .inl ⟨[], _, hp (l.getD k dH), ⟨fun h => ?_, fun h => ?_⟩⟩⟩
    · refine RetIs.i ?_
      exact (idxF_some p l k (by omega) hno h).symm
    · refine ⟨k + 1, [], ⟨by omega, fun j hj => ?_⟩, by dsimp only; omega, rfl, rfl, rfl, rfl, rfl, ⟨rfl, wr (by omega) (by omega)⟩, trivial⟩
      by_cases hjk : j = k
      · subst hjk; exact h
      · exact hno j (by omega)
  · have hc := dnlt hc
    refine RetIs.i ?_
    exact (idxF_none p l fun j hj => hno j (by omega)).symm

set_option maxRecDepth 20000 in
theorem contains1_fn (l : List Hld) (hl : l.length < 2^62) (fid : FuncId) (c1 : List AV) (p : Hld → Bool) (hp : ∀ x : Hld, Ctr Try.prog fid [.ag x.av, .rp c1] [] (.b (p x))) :
    Ctr Try.prog 83 [.rs 4 l.length (rowsH l), .fn fid [.rp c1]] [] (.b (l.any p)) := by
  refine fn_of_exec tabOk Try.func83 (by kernel_rfl) rfl (N := Try.f83.ntmps) rfl (res := [.tmp 4]) rfl rfl [] ?_
  refine .inl ⟨[], _, index1_fn l hl fid c1 p hp, ?_⟩
  exact RetIs.b (idxF_any p l)

set_option maxRecDepth 20000 in
theorem index2_fn (l : List Hld) (hl : l.length < 2^62) (fid : FuncId) (c1 c2 : List AV) (p : Hld → Bool) (hp : ∀ x : Hld, Ctr Try.prog fid [.ag x.av, .rp c1, .rp c2] [] (.b (p x))) :
    Ctr Try.prog 79 [.rs 4 l.length (rowsH l), .fn fid [.rp c1, .rp c2]] [] (.i .i64 (idxF p l)) := by
  refine fn_of_exec tabOk Try.func79 (by kernel_rfl) rfl (N := Try.f79.ntmps) rfl (res := [.tmp 4]) rfl rfl [] ?_
  refine .inl ⟨[], Nat, fun k => k ≤ l.length ∧ ∀ j, j < k → p (l.getD j dH) = false, fun k => [⟨8, [], .i .i64 k⟩], fun _ => [], fun k => l.length - k,
    ⟨0, [], ⟨Nat.zero_le _, fun j hj => by omega⟩, rfl, rfl, rfl, rfl, rfl, ⟨rfl, rfl⟩, trivial⟩, ?_⟩
  intro k hk
  obtain ⟨hk, hno⟩ := hk
  refine .inl ⟨fun hc => ?_, fun hc => ?_⟩
  · have hc := dlt hc
    refine .inl ⟨by omega, .inl ⟨[], _, hp (l.getD k dH), ⟨fun h => ?_, fun h => ?_⟩⟩⟩
    · refine RetIs.i ?_
      exact (idxF_some p l k (by omega) hno h).symm
    · refine ⟨k + 1, [], ⟨by omega, fun j hj => ?_⟩, by dsimp only; omega, rfl, rfl, rfl, rfl, rfl, ⟨rfl, wr (by omega) (by omega)⟩, trivial⟩
      by_cases hjk : j = k
      · subst hjk; exact h
      · exact hno j (by omega)
  · have hc := dnlt hc
    refine RetIs.i ?_
    exact (idxF_none p l fun j hj => hno j (by omega)).symm

set_option maxRecDepth 20000 in
theorem contains2_fn (l : List Hld) (hl : l.length < 2^62) (fid : FuncId) (c1 c2 : List AV) (p : Hld → Bool) (hp : ∀ x : Hld, Ctr Try.prog fid [.ag x.av, .rp c1, .rp c2] [] (.b (p x))) :
    Ctr Try.prog 83 [.rs 4 l.length (rowsH l), .fn fid [.rp c1, .rp c2]] [] (.b (l.any p)) := by
  refine fn_of_exec tabOk Try.func83 (by kernel_rfl) rfl (N := Try.f83.ntmps) rfl (res := [.tmp 4]) rfl rfl [] ?_
  refine .inl ⟨[], _, index2_fn l hl fid c1 c2 p hp, ?_⟩
  exact RetIs.b (idxF_any p l)


theorem again_fn (h x : Hld) : Ctr Try.prog 82 [.ag x.av, .rp h.av] [] (.b (x.id == h.id)) := by
  refine fn_of_exec tabOk Try.func82 (by kernel_rfl) rfl (N := Try.f82.ntmps) rfl (res := [.tmp 3]) rfl rfl [] ?_
  exact RetIs.b rfl
def heldBy (event now : Int) (h : Hld) : Bool := h.ev == event && decide (h.fr ≤ now) && (h.to == -1 || decide (now < h.to))
set_option maxRecDepth 20000 in
theorem held1_fn (event now : Int) (x : Hld) : Ctr Try.prog 84 [.ag x.av, .rp [.i .i64 event], .rp [.i .i64 now]] [] (.b (heldBy event now x)) := by
  refine fn_of_exec tabOk Try.func84 (by kernel_rfl) rfl (N := Try.f84.ntmps) rfl (res := [.tmp 4]) rfl rfl [] ?_
  exact RetIs.b rfl
def Held (l : List Hld) (event now : Int) : Bool := l.any (heldBy event now)
set_option maxRecDepth 20000 in
theorem Held_fn (l : List Hld) (hl : l.length < 2^62) (event now : Int) : Ctr Try.prog 46 [.rs 4 l.length (rowsH l), .i .i64 event, .i .i64 now] [] (.b (Held l event now)) := by
  refine fn_of_exec tabOk Try.func46 (by kernel_rfl) rfl (N := Try.f46.ntmps) rfl (res := [.tmp 6]) rfl rfl [] ?_
  refine .inl ⟨[], _, contains2_fn l hl 84 _ _ (heldBy event now) (held1_fn event now), ?_⟩
  exact RetIs.b rfl
end Go.Proofs.Ytklmfkejgjhneaa
