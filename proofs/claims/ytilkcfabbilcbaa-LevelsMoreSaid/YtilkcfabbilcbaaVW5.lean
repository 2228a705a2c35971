import Derived.Test.YtilkcfabbilcbaaVW4
namespace Go.Proofs.Ytilkcfabbilcbaa
open Go.Eng

set_option maxRecDepth 20000 in
theorem index2_fn (l : List Note) (hl : l.length < 2^62) (fid : FuncId) (c1 c2 : List AV) (p : Note → Bool) (hp : ∀ x : Note, Ctr Try.prog fid [.ag x.av, .rp c1, .rp c2] [] (.b (p x))) :
    Ctr Try.prog 27 [.rs 5 l.length (rowsN l), .fn fid [.rp c1, .rp c2]] [] (.i .i64 (idxF p l)) := by
  refine fn_of_exec tabOk Try.func27 (by kernel_rfl) rfl (N := Try.f27.ntmps) rfl (res := [.tmp 4]) rfl rfl [] ?_
  refine .inl ⟨[], Nat, fun k => k ≤ l.length ∧ ∀ j, j < k → p (l.getD j dN) = false, fun k => [⟨8, [], .i .i64 k⟩], fun _ => [], fun k => l.length - k,
    ⟨0, [], ⟨Nat.zero_le _, fun j hj => by omega⟩, rfl, rfl, rfl, rfl, rfl, ⟨rfl, rfl⟩, trivial⟩, ?_⟩
  intro k hk
  obtain ⟨hk, hno⟩ := hk
  refine .inl ⟨fun hc => ?_, fun hc => ?_⟩
  · have hc := dlt hc
    refine .inl ⟨by omega, .inl ⟨[], _, hp (l.getD k dN), ⟨fun h => ?_, fun h => ?_⟩⟩⟩
    · refine RetIs.i ?_
      exact (idxF_some p l k (by omega) hno h).symm
    · refine ⟨k + 1, [], ⟨by omega, fun j hj => ?_⟩, by dsimp only; omega, rfl, rfl, rfl, rfl, rfl, ⟨rfl, wr (by omega) (by omega)⟩, trivial⟩
      by_cases hjk : j = k
      · subst hjk; exact h
      · exact hno j (by omega)
  · have hc := dnlt hc
    refine RetIs.i ?_
    exact (idxF_none p l fun j hj => hno j (by omega)).symm

set_option maxRecDepth 20000 in
theorem contains2_fn (l : List Note) (hl : l.length < 2^62) (fid : FuncId) (c1 c2 : List AV) (p : Note → Bool) (hp : ∀ x : Note, Ctr Try.prog fid [.ag x.av, .rp c1, .rp c2] [] (.b (p x))) :
    Ctr Try.prog 20 [.rs 5 l.length (rowsN l), .fn fid [.rp c1, .rp c2]] [] (.b (l.any p)) := by
  refine fn_of_exec tabOk Try.func20 (by kernel_rfl) rfl (N := Try.f20.ntmps) rfl (res := [.tmp 4]) rfl rfl [] ?_
  refine .inl ⟨[], _, index2_fn l hl fid c1 c2 p hp, ?_⟩
  exact RetIs.b (idxF_any p l)

def Right (l : List Note) (b : Bool) : Bool := valid l && !l.any (bad l b)
set_option maxRecDepth 20000 in
theorem Right_fn (l : List Note) (hl : l.length < 2^62) (b : Bool) : Ctr Try.prog 9 [.rs 5 l.length (rowsN l), .b b] [] (.b (Right l b)) := by
  refine fn_of_exec tabOk Try.func9 (by kernel_rfl) rfl (N := Try.f9.ntmps) rfl (res := [.tmp 4]) rfl rfl [] ?_
  refine .inl (.inl ⟨[], _, valid_fn l hl, ⟨fun h => ?_, fun h => .inl ⟨[], _, contains2_fn l hl 21 _ _ (bad l b) (right1_fn l hl b), ?_⟩⟩⟩)
  · exact RetIs.b (by simp at h; simp [Right, h])
  · exact RetIs.b (by simp at h; simp [Right, h])

/-! ### the reference -/
theorem valid_take (l : List Note) (h : ∀ j, j < l.length → vnote (l.getD j dN) = true) : (l.any fun n => !vnote n) = false := by
  rw [List.any_eq_false]
  intro x hx
  obtain ⟨j, hj, rfl⟩ := List.getElem_of_mem hx
  have := h j hj
  rw [gd hj] at this
  simp [this]
set_option maxRecDepth 20000 in
theorem rValid_fn (l : List Note) (hl : l.length < 2^62) : Ctr Try.prog 15 [.rs 5 l.length (rowsN l)] [] (.b (valid l)) := by
  refine fn_of_exec tabOk Try.func15 (by kernel_rfl) rfl (N := Try.f15.ntmps) rfl (res := [.tmp 2]) rfl rfl [] ?_
  refine .inl ⟨[], Nat, fun k => k ≤ l.length ∧ ∀ j, j < k → vnote (l.getD j dN) = true, fun k => [⟨3, [], .i .i64 k⟩], fun _ => [], fun k => l.length - k,
    ⟨0, [], ⟨Nat.zero_le _, fun j hj => by omega⟩, rfl, rfl, rfl, rfl, rfl, ⟨rfl, rfl⟩, trivial⟩, ?_⟩
  intro k hk
  obtain ⟨hk, hno⟩ := hk
  refine .inl ⟨fun hc => ?_, fun hc => ?_⟩
  · have hc := dlt hc
    refine .inl ⟨by omega, .inl ⟨[], _, in_fn _ _ _, .inl ⟨[], _, fun _ => in_fn _ _ _, .inl ⟨[], _, fun _ => in_fn _ _ _, .inl ⟨[], _, fun _ => in_fn _ _ _, ⟨fun h => ?_, fun h => ?_⟩⟩⟩⟩⟩⟩
    · have hv : vnote (l.getD k dN) = false := by
        revert h
        cases hq : vnote (l.getD k dN)
        · simp
        · simp [vnote] at hq
          simp
          omega
      refine RetIs.b ?_
      have : (l.any fun n => !vnote n) = true := by
        rw [List.any_eq_true]
        exact ⟨l[k], List.getElem_mem (by omega), by rw [gd (by omega)] at hv; simp [hv]⟩
      simp [valid, this]
    · have hv : vnote (l.getD k dN) = true := by
        revert h
        cases hq : vnote (l.getD k dN)
        · simp [vnote] at hq
          simp
          omega
        · simp
      refine ⟨k + 1, [], ⟨by omega, fun j hj => ?_⟩, by dsimp only; omega, rfl, rfl, rfl, rfl, rfl, ⟨rfl, wr (by omega) (by omega)⟩, trivial⟩
      by_cases hjk : j = k
      · subst hjk; exact hv
      · exact hno j (by omega)
  · have hc := dnlt hc
    refine RetIs.b ?_
    have : decide ((l.length : Int) ≤ 1000) = decide (l.length ≤ 1000) := decide_eq_decide.2 (by omega)
    simp [valid, this, valid_take l fun j hj => hno j (by omega)]
end Go.Proofs.Ytilkcfabbilcbaa
