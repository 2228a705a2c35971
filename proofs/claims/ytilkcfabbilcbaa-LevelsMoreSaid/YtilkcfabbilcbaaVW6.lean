import Derived.Test.YtilkcfabbilcbaaVW5
namespace Go.Proofs.Ytilkcfabbilcbaa
open Go.Eng

set_option maxRecDepth 20000 in
theorem rLow_fn (l : List Note) (hl : l.length < 2^62) (b : Bool) (m w : Int) : Ctr Try.prog 12 [.rs 5 l.length (rowsN l), .b b, .i .i64 m, .i .i64 w] [] (.i .i64 (Low l b m w)) := by
  refine fn_of_exec tabOk Try.func12 (by kernel_rfl) rfl (N := Try.f12.ntmps) rfl (res := [.tmp 8]) rfl rfl [] ?_
  refine .inl (.inl ⟨[], _, rValid_fn l hl, ⟨fun h => ?_, fun h => .inl ?_⟩⟩)
  · exact RetIs.i (by simp at h; simp [Low, h])
  have hv : valid l = true := by simpa using h
  refine ⟨[], Nat, fun k => k ≤ l.length, fun k => [⟨10, [], .i .i64 k⟩, ⟨9, [], .i .i64 (low (l.take k) b m w)⟩], fun _ => [], fun k => l.length - k,
    ⟨0, [], Nat.zero_le _, rfl, rfl, rfl, rfl, rfl, ⟨⟨rfl, rfl⟩, rfl, rfl⟩, trivial⟩, ?_⟩
  intro k hk
  refine .inl ⟨fun hc => ?_, fun hc => ?_⟩
  · have hc := dlt hc
    have hs := low_succ l b m w k (by omega)
    refine .inl ⟨by omega, ⟨fun h => ?_, fun h => ?_⟩⟩
    · have h : says (l.getD k dN) b m w = true := h
      refine ⟨k + 1, [], by dsimp only; omega, by dsimp only; omega, rfl, rfl, rfl, rfl, rfl, ⟨⟨rfl, wr (by omega) (by omega)⟩, rfl, ?_⟩, trivial⟩
      rw [hs, h, if_pos rfl]
      rfl
    · have h : says (l.getD k dN) b m w = false := h
      refine ⟨k + 1, [], by dsimp only; omega, by dsimp only; omega, rfl, rfl, rfl, rfl, rfl, ⟨⟨rfl, wr (by omega) (by omega)⟩, rfl, ?_⟩, trivial⟩
      rw [hs, h, if_neg (by simp)]
  · have hc := dnlt hc
    refine RetIs.i ?_
    rw [List.take_of_length_le (by omega)]
    simp [Low, hv]

theorem den_eq (n : Note) (m w : Int) : ((n.n && n.w == w) && n.m == m) = den n m w := by
  unfold den
  cases n.n <;> cases (n.w == w) <;> cases (n.m == m) <;> rfl
set_option maxRecDepth 20000 in
theorem rHigh_fn (l : List Note) (hl : l.length < 2^62) (b : Bool) (m w : Int) : Ctr Try.prog 14 [.rs 5 l.length (rowsN l), .b b, .i .i64 m, .i .i64 w] [] (.i .i64 (High l m w)) := by
  refine fn_of_exec tabOk Try.func14 (by kernel_rfl) rfl (N := Try.f14.ntmps) rfl (res := [.tmp 8]) rfl rfl [] ?_
  refine .inl (.inl ⟨[], _, rValid_fn l hl, ⟨fun h => ?_, fun h => .inl ?_⟩⟩)
  · exact RetIs.i (by simp at h; simp [High, h])
  have hv : valid l = true := by simpa using h
  refine ⟨[], Nat, fun k => k ≤ l.length, fun k => [⟨10, [], .i .i64 k⟩, ⟨9, [], .i .i64 (high (l.take k) m w)⟩], fun _ => [], fun k => l.length - k,
    ⟨0, [], Nat.zero_le _, rfl, rfl, rfl, rfl, rfl, ⟨⟨rfl, rfl⟩, rfl, rfl⟩, trivial⟩, ?_⟩
  intro k hk
  refine .inl ⟨fun hc => ?_, fun hc => ?_⟩
  · have hc := dlt hc
    have hs := high_succ l m w k (by omega)
    refine .inl ⟨by omega, ⟨fun h => ?_, fun h => ?_⟩⟩
    · have h : den (l.getD k dN) m w = true := (den_eq _ _ _).symm.trans h
      refine ⟨k + 1, [], by dsimp only; omega, by dsimp only; omega, rfl, rfl, rfl, rfl, rfl, ⟨⟨rfl, wr (by omega) (by omega)⟩, rfl, ?_⟩, trivial⟩
      rw [hs, h, if_pos rfl]
      rfl
    · have h : den (l.getD k dN) m w = false := (den_eq _ _ _).symm.trans h
      refine ⟨k + 1, [], by dsimp only; omega, by dsimp only; omega, rfl, rfl, rfl, rfl, rfl, ⟨⟨rfl, wr (by omega) (by omega)⟩, rfl, ?_⟩, trivial⟩
      rw [hs, h, if_neg (by simp)]
  · have hc := dnlt hc
    refine RetIs.i ?_
    rw [List.take_of_length_le (by omega)]
    simp [High, hv]

/-- The reference's law: no note at which the least level is over the greatest one. -/
def rRight (l : List Note) (b : Bool) : Bool := valid l && l.all fun n => decide (Low l b n.m n.w ≤ High l n.m n.w)
set_option maxRecDepth 20000 in
theorem rRight_fn (l : List Note) (hl : l.length < 2^62) (b : Bool) : Ctr Try.prog 10 [.rs 5 l.length (rowsN l), .b b] [] (.b (rRight l b)) := by
  refine fn_of_exec tabOk Try.func10 (by kernel_rfl) rfl (N := Try.f10.ntmps) rfl (res := [.tmp 4]) rfl rfl [] ?_
  refine .inl (.inl ⟨[], _, rValid_fn l hl, ⟨fun h => ?_, fun h => .inl ?_⟩⟩)
  · exact RetIs.b (by simp at h; simp [rRight, h])
  have hv : valid l = true := by simpa using h
  refine ⟨[], Nat, fun k => k ≤ l.length ∧ ∀ j, j < k → Low l b (l.getD j dN).m (l.getD j dN).w ≤ High l (l.getD j dN).m (l.getD j dN).w, fun k => [⟨5, [], .i .i64 k⟩], fun _ => [], fun k => l.length - k,
    ⟨0, [], ⟨Nat.zero_le _, fun j hj => by omega⟩, rfl, rfl, rfl, rfl, rfl, ⟨rfl, rfl⟩, trivial⟩, ?_⟩
  intro k hk
  obtain ⟨hk, hno⟩ := hk
  refine .inl ⟨fun hc => ?_, fun hc => ?_⟩
  · have hc := dlt hc
    refine .inl ⟨by omega, ⟨by omega, .inl ⟨[], _, rLow_fn l hl b _ _, ⟨by omega, ⟨by omega, .inl ⟨[], _, rHigh_fn l hl b _ _, ⟨fun h => ?_, fun h => ?_⟩⟩⟩⟩⟩⟩⟩
    · refine RetIs.b ?_
      have h : Low l b (l.getD k dN).m (l.getD k dN).w > High l (l.getD k dN).m (l.getD k dN).w := of_decide_eq_true h
      have : (l.all fun n => decide (Low l b n.m n.w ≤ High l n.m n.w)) = false := by
        rw [List.all_eq_false]
        rw [gd (by omega)] at h
        exact ⟨l[k], List.getElem_mem (by omega), by simpa using h⟩
      simp [rRight, this]
    · have h : ¬ (Low l b (l.getD k dN).m (l.getD k dN).w > High l (l.getD k dN).m (l.getD k dN).w) := of_decide_eq_false h
      refine ⟨k + 1, [], ⟨by omega, fun j hj => ?_⟩, by dsimp only; omega, rfl, rfl, rfl, rfl, rfl, ⟨rfl, wr (by omega) (by omega)⟩, trivial⟩
      by_cases hjk : j = k
      · subst hjk; omega
      · exact hno j (by omega)
  · have hc := dnlt hc
    refine RetIs.b ?_
    have : (l.all fun n => decide (Low l b n.m n.w ≤ High l n.m n.w)) = true := by
      rw [List.all_eq_true]
      intro x hx
      obtain ⟨j, hj, rfl⟩ := List.getElem_of_mem hx
      have := hno j (by omega)
      rw [gd hj] at this
      simpa using this
    simp [rRight, hv, this]
end Go.Proofs.Ytilkcfabbilcbaa
