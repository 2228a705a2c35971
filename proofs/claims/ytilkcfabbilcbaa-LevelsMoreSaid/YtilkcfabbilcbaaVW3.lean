import Derived.Test.YtilkcfabbilcbaaVW2
namespace Go.Proofs.Ytilkcfabbilcbaa
open Go.Eng

set_option maxRecDepth 20000 in
theorem valid1_fn (n : Note) : Ctr Try.prog 25 [.ag n.av] [] (.b (!vnote n)) := by
  refine fn_of_exec tabOk Try.func25 (by kernel_rfl) rfl (N := Try.f25.ntmps) rfl (res := [.tmp 2]) rfl rfl [] ?_
  refine .inl ⟨[], _, between_fn _ _ _, .inl ⟨[], _, fun _ => between_fn _ _ _, .inl ⟨[], _, fun _ => between_fn _ _ _, .inl ⟨[], _, fun _ => between_fn _ _ _, ?_⟩⟩⟩⟩
  refine RetIs.b ?_
  simp [vnote, Bool.not_and]

theorem gd {l : List Note} {k : Nat} (h : k < l.length) : l.getD k dN = l[k] := by simp [List.getD_eq_getElem?_getD, h]
/-- The first place where p holds, or -1. -/
def idxF (p : Note → Bool) (l : List Note) : Int := match l.findIdx? p with | some k => k | none => -1
theorem idxF_some (p : Note → Bool) (l : List Note) (k : Nat) (hk : k < l.length) (h1 : ∀ j, j < k → p (l.getD j dN) = false) (h2 : p (l.getD k dN) = true) : idxF p l = k := by
  have : l.findIdx? p = some k := by
    rw [List.findIdx?_eq_some_iff_getElem]
    refine ⟨hk, ?_, fun j hj => ?_⟩
    · rw [gd hk] at h2; exact h2
    · have := h1 j hj
      rw [gd (by omega)] at this
      simp [this]
  simp [idxF, this]
theorem idxF_none (p : Note → Bool) (l : List Note) (h1 : ∀ j, j < l.length → p (l.getD j dN) = false) : idxF p l = -1 := by
  have : l.findIdx? p = none := by
    rw [List.findIdx?_eq_none_iff]
    intro x hx
    obtain ⟨j, hj, rfl⟩ := List.getElem_of_mem hx
    have := h1 j hj
    rw [gd hj] at this
    exact this
  simp [idxF, this]
theorem idxF_any (p : Note → Bool) (l : List Note) : decide (idxF p l ≥ 0) = l.any p := by
  unfold idxF
  cases h : l.findIdx? p with
  | none =>
    rw [List.findIdx?_eq_none_iff] at h
    have : l.any p = false := by simpa using h
    rw [this]; rfl
  | some k =>
    rw [List.findIdx?_eq_some_iff_getElem] at h
    obtain ⟨hk, hp, _⟩ := h
    have : l.any p = true := by rw [List.any_eq_true]; exact ⟨_, List.getElem_mem hk, hp⟩
    rw [this]
    simp

set_option maxRecDepth 20000 in
theorem index0_fn (l : List Note) (hl : l.length < 2^62) (fid : FuncId) (p : Note → Bool) (hp : ∀ x : Note, Ctr Try.prog fid [.ag x.av] [] (.b (p x))) :
    Ctr Try.prog 27 [.rs 5 l.length (rowsN l), .fn fid []] [] (.i .i64 (idxF p l)) := by
  refine fn_of_exec tabOk Try.func27 (by kernel_rfl) rfl (N := Try.f27.ntmps) rfl (res := [.tmp 4]) rfl rfl [] ?_
  refine .inl ⟨[], Nat, fun k => k ≤ l.length ∧ ∀ j, j < k → p (l.getD j dN) = false, fun k => [⟨8, [], .i .i64 k⟩], fun _ => [], fun k => l.length - k,
    ⟨0, [], ⟨Nat.zero_le _, fun j hj => by omega⟩, rfl, rfl, rfl, rfl, rfl, ⟨rfl, rfl⟩, trivial⟩, ?_⟩
  intro k hk
  obtain ⟨hk, hno⟩ := hk
  refine .inl ⟨fun hc => ?_, fun hc => ?_⟩
  · have hc := dlt hc
    refine .inl ⟨by omega, .inl ⟨[], _, hp (l.getD k dN), ⟨fun h => ?_, fun h => ?_⟩⟩⟩
    · refine RetIs.i ?_
      exact (idxF_some p l k (by omega) hno h).symm
    · refine ⟨k + 1, [], ⟨by omega, fun j hj => ?_⟩, by dsimp only; omega, rfl, rfl, rfl, rfl, rfl, ⟨rfl, wr (by omega) (by omega)⟩, trivial⟩
      by_cases hjk : j = k
      · subst hjk; exact h
      · exact hno j (by omega)
  · have hc := dnlt hc
    refine RetIs.i ?_
    exact (idxF_none p l fun j hj => hno j (by omega)).symm

set_option maxRecDepth 20000 in
theorem contains0_fn (l : List Note) (hl : l.length < 2^62) (fid : FuncId) (p : Note → Bool) (hp : ∀ x : Note, Ctr Try.prog fid [.ag x.av] [] (.b (p x))) :
    Ctr Try.prog 20 [.rs 5 l.length (rowsN l), .fn fid []] [] (.b (l.any p)) := by
  refine fn_of_exec tabOk Try.func20 (by kernel_rfl) rfl (N := Try.f20.ntmps) rfl (res := [.tmp 4]) rfl rfl [] ?_
  refine .inl ⟨[], _, index0_fn l hl fid p hp, ?_⟩
  exact RetIs.b (idxF_any p l)

def valid (l : List Note) : Bool := decide (l.length ≤ 1000) && !l.any fun n => !vnote n
set_option maxRecDepth 20000 in
theorem valid_fn (l : List Note) (hl : l.length < 2^62) : Ctr Try.prog 19 [.rs 5 l.length (rowsN l)] [] (.b (valid l)) := by
  refine fn_of_exec tabOk Try.func19 (by kernel_rfl) rfl (N := Try.f19.ntmps) rfl (res := [.tmp 2]) rfl rfl [] ?_
  refine .inl ⟨[], _, fun _ => contains0_fn l hl 25 (fun n => !vnote n) valid1_fn, ?_⟩
  refine RetIs.b ?_
  have : decide ((l.length : Int) ≤ 1000) = decide (l.length ≤ 1000) := decide_eq_decide.2 (by omega)
  simp [valid, this]

def den (n : Note) (pm pw : Int) : Bool := n.n && n.m == pm && n.w == pw
def high (l : List Note) (pm pw : Int) : Int := l.foldl (fun a n => if den n pm pw then min a (IntKind.i64.wrap (n.l - 1)) else a) 4
theorem high_succ (l : List Note) (pm pw : Int) (k : Nat) (h : k < l.length) : high (l.take (k + 1)) pm pw = if den (l.getD k dN) pm pw then min (high (l.take k) pm pw) (IntKind.i64.wrap ((l.getD k dN).l - 1)) else high (l.take k) pm pw :=
  foldl_take _ _ l k dN h

set_option maxRecDepth 20000 in
theorem high_fn (l : List Note) (hl : l.length < 2^62) (pm pw : Int) : Ctr Try.prog 23 [.rs 5 l.length (rowsN l), .ag [.i .i64 pm, .i .i64 pw]] [] (.i .i64 (high l pm pw)) := by
  refine fn_of_exec tabOk Try.func23 (by kernel_rfl) rfl (N := Try.f23.ntmps) rfl (res := [.tmp 4]) rfl rfl [] ?_
  refine .inl ⟨[], Nat, fun k => k ≤ l.length, fun k => [⟨10, [], .i .i64 k⟩, ⟨5, [], .i .i64 (high (l.take k) pm pw)⟩], fun _ => [], fun k => l.length - k,
    ⟨0, [], Nat.zero_le _, rfl, rfl, rfl, rfl, rfl, ⟨⟨rfl, rfl⟩, rfl, rfl⟩, trivial⟩, ?_⟩
  intro k hk
  refine .inl ⟨fun hc => ?_, fun hc => ?_⟩
  · have hc := dlt hc
    have hs := high_succ l pm pw k (by omega)
    refine .inl ⟨by omega, ⟨fun h => ?_, fun h => ?_⟩⟩
    · have h : den (l.getD k dN) pm pw = true := h
      refine ⟨k + 1, [], by dsimp only; omega, by dsimp only; omega, rfl, rfl, rfl, rfl, rfl, ⟨⟨rfl, wr (by omega) (by omega)⟩, rfl, ?_⟩, trivial⟩
      rw [hs, h, if_pos rfl]
      rfl
    · have h : den (l.getD k dN) pm pw = false := h
      refine ⟨k + 1, [], by dsimp only; omega, by dsimp only; omega, rfl, rfl, rfl, rfl, rfl, ⟨⟨rfl, wr (by omega) (by omega)⟩, rfl, ?_⟩, trivial⟩
      rw [hs, h, if_neg (by simp)]
  · have hc := dnlt hc
    refine RetIs.i ?_
    rw [List.take_of_length_le (by omega)]
end Go.Proofs.Ytilkcfabbilcbaa
