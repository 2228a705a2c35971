/-
  LevelsWorlds: what it computes.
-/
import Derived.Test.YtilkcfabbilcbaaL1
namespace Go.Proofs.Ytilkcfabbilcbaa
open Go.Eng

/-- The level of a message for an account in a world. -/
def levelF (l : List Note) (o m w : Int) : Int := match l.find? fun n => n.m == m && n.w == w with | some n => n.l | none => o
set_option maxRecDepth 20000 in
theorem level_fn (l : List Note) (hl : l.length < 2^62) (o m w : Int) : Ctr Try.prog 17 [.rs 5 l.length (rowsN l), .i .i64 o, .i .i64 m, .i .i64 w] [] (.i .i64 (levelF l o m w)) := by
  refine fn_of_exec tabOk Try.func17 (by kernel_rfl) rfl (N := Try.f17.ntmps) rfl (res := [.tmp 8]) rfl rfl ?_
  refine .inl ⟨[], Nat, fun k => k ≤ l.length ∧ ∀ j, j < k → ((l.getD j dN).m == m && (l.getD j dN).w == w) = false, fun k => [⟨9, [], .i .i64 k⟩], fun _ => [], fun k => l.length - k,
    ⟨0, [], ⟨Nat.zero_le _, fun j hj => by omega⟩, rfl, rfl, rfl, rfl, rfl, ⟨rfl, rfl⟩, trivial⟩, ?_⟩
  intro k hk
  obtain ⟨hk, hno⟩ := hk
  refine .inl ⟨fun hc => ?_, fun hc => ?_⟩
  · have hc := dlt hc
    refine .inl ⟨by omega, ⟨fun _ => by omega, ⟨fun h => ?_, fun h => ?_⟩⟩⟩
    · have h : ((l.getD k dN).m == m && (l.getD k dN).w == w) = true := h
      refine ⟨by omega, RetIs.i ?_⟩
      have e : (l.find? fun n => n.m == m && n.w == w) = some (l.getD k dN) := by
        rw [List.find?_eq_some_iff_getElem]
        refine ⟨h, k, by omega, (gd (by omega)).symm, fun j hj => ?_⟩
        have := hno j hj
        rw [gd (by omega)] at this
        simp only [this]
        rfl
      unfold levelF
      rw [e]
      rfl
    · have h : ((l.getD k dN).m == m && (l.getD k dN).w == w) = false := h
      refine ⟨k + 1, [], ⟨by omega, fun j hj => ?_⟩, by dsimp only; omega, rfl, rfl, rfl, rfl, rfl, ⟨rfl, wr (by omega) (by omega)⟩, trivial⟩
      by_cases hjk : j = k
      · subst hjk; exact h
      · exact hno j (by omega)
  · have hc := dnlt hc
    refine RetIs.i ?_
    have e : (l.find? fun n => n.m == m && n.w == w) = none := by
      rw [List.find?_eq_none]
      intro x hx
      obtain ⟨j, hj, rfl⟩ := List.getElem_of_mem hx
      have := hno j (by omega)
      rw [gd hj] at this
      simp only [this]
      simp
    unfold levelF
    rw [e]

/-- The i-th level is of the account, and of an earlier message. -/
def wc (l : List Note) (n : Note) (i : Nat) : Bool := !(((l.getD i dN).w != n.w || decide ((l.getD i dN).m < 0)) || decide ((l.getD i dN).m ≥ n.m))
/-- None of the first k is of the message and the account of the i-th. -/
def wfi (l : List Note) (i : Nat) : Nat → Bool
  | 0 => true
  | k + 1 => wfi l i k && ((l.getD k dN).m != (l.getD i dN).m || (l.getD k dN).w != (l.getD i dN).w)
/-- The messages that are told of the first i. -/
def wtl (l : List Note) (n : Note) : Nat → List Int
  | 0 => []
  | i + 1 => if (wc l n i && wfi l i i) = true then (l.getD i dN).m :: wtl l n i else wtl l n i
def hold (n : Note) (b : Bool) (l : List Note) (o : Int) : Bool :=
  if n.n then decide (levelF l o n.m n.w < n.l) else if levelF l o n.m n.w < n.l then false else if !b then true else
  if (List.range l.length).any (fun i => (wc l n i && wfi l i i) && decide ((l.getD i dN).l < n.l)) then false else (((wtl l n l.length).length : Int) == n.m) || decide (o ≥ n.l)
theorem wtl_len (l : List Note) (n : Note) : ∀ i, (wtl l n i).length ≤ i
  | 0 => by simp [wtl]
  | i + 1 => by
    have := wtl_len l n i
    unfold wtl
    split <;> simp <;> omega

set_option maxRecDepth 20000 in
theorem hold_fn (l : List Note) (hl : l.length < 2^62) (n : Note) (b : Bool) (o : Int) : Ctr Try.prog 16 [.ag n.av, .b b, .rs 5 l.length (rowsN l), .i .i64 o] [] (.b (hold n b l o)) := by
  refine fn_of_exec tabOk Try.func16 (by kernel_rfl) rfl (N := Try.f16.ntmps) rfl (res := [.tmp 8]) rfl rfl ?_
  refine .inl ⟨[], _, level_fn l hl o n.m n.w, .inl ⟨fun h => ?_, fun h => ?_⟩⟩
  · have h : n.n = true := h
    exact RetIs.b (by unfold hold; rw [if_pos h])
  have h : n.n = false := h
  refine .inl ⟨fun h2 => ?_, fun h2 => ?_⟩
  · have h2 : levelF l o n.m n.w < n.l := of_decide_eq_true h2
    exact RetIs.b (by unfold hold; rw [h, if_neg (by simp), if_pos h2])
  have h2 : ¬ levelF l o n.m n.w < n.l := of_decide_eq_false h2
  refine .inl ⟨fun h3 => ?_, fun h3 => ?_⟩
  · have h3 : (!b) = true := h3
    exact RetIs.b (by unfold hold; rw [h, if_neg (by simp), if_neg h2, if_pos h3])
  have h3 : (!b) = false := h3
  refine .inl ⟨[], Nat, fun i => i ≤ l.length ∧ ∀ j, j < i → ((wc l n j && wfi l j j) && decide ((l.getD j dN).l < n.l)) = false, fun i => [⟨11, [], .i .i64 i⟩, ⟨10, [], .i .i64 (wtl l n i).length⟩], fun _ => [], fun i => l.length - i,
    ⟨0, [], ⟨Nat.zero_le _, fun j hj => by omega⟩, rfl, rfl, rfl, rfl, rfl, ⟨⟨rfl, rfl⟩, rfl, rfl⟩, trivial⟩, ?_⟩
  intro i hi
  obtain ⟨hi, hno⟩ := hi
  have hwl := wtl_len l n i
  refine .inl ⟨fun hc => ?_, fun hc => ?_⟩
  · have hc := dlt hc
    have next : ∀ (P : Prop), (wc l n i && wfi l i i) = false ∨ (decide ((l.getD i dN).l < n.l)) = false → ∀ j, j < i + 1 → ((wc l n j && wfi l j j) && decide ((l.getD j dN).l < n.l)) = false := by
      intro _ hp j hj
      by_cases hji : j = i
      · subst hji
        rcases hp with hp | hp <;> rw [hp] <;> simp
      · exact hno j (by omega)
    repeat refine Or.inl ?_
    refine ⟨by omega, ⟨fun _ => by omega, ⟨fun _ => by omega, ⟨fun h4 => ?_, fun h4 => ?_⟩⟩⟩⟩
    · have h4 : wc l n i = false := by unfold wc; rw [Bool.not_eq_false']; exact h4
      have e : wtl l n (i + 1) = wtl l n i := by rw [wtl, if_neg (by rw [h4]; simp)]
      exact ⟨i + 1, [], ⟨by omega, next True (.inl (by rw [h4]; rfl))⟩, by dsimp only; omega, rfl, rfl, rfl, rfl, rfl, ⟨⟨rfl, wr (by omega) (by omega)⟩, rfl, by rw [e]⟩, trivial⟩
    have h4 : wc l n i = true := by unfold wc; rw [Bool.not_eq_true']; exact h4
    refine .inl ⟨[], Nat, fun k => k ≤ i, fun k => [⟨13, [], .i .i64 k⟩, ⟨12, [], .b (wfi l i k)⟩], fun _ => [], fun k => i - k,
      ⟨0, [], Nat.zero_le _, rfl, rfl, rfl, rfl, rfl, ⟨⟨rfl, rfl⟩, rfl⟩, trivial⟩, ?_⟩
    intro k hk
    refine .inl ⟨fun hc2 => ?_, fun hc2 => ?_⟩
    · have hc2 := dlt hc2
      repeat refine Or.inl ?_
      exact ⟨fun _ => by omega, fun _ => by omega, fun _ => by omega, fun _ => by omega, k + 1, [], by dsimp only; omega, by dsimp only; omega, rfl, rfl, rfl, rfl, rfl, ⟨⟨rfl, wr (by omega) (by omega)⟩, rfl⟩, trivial⟩
    · have hc2 := dnlt hc2
      have hki : k = i := by omega
      subst hki
      repeat refine Or.inl ?_
      refine ⟨fun h5 => ?_, fun h5 => ?_⟩
      · have h5 : wfi l k k = true := h5
        have e : wtl l n (k + 1) = (l.getD k dN).m :: wtl l n k := by rw [wtl, if_pos (by rw [h4, h5]; rfl)]
        repeat refine Or.inl ?_
        refine ⟨by omega, ⟨fun h6 => ?_, fun h6 => ?_⟩⟩
        · have h6 : decide ((l.getD k dN).l < n.l) = true := h6
          refine RetIs.b ?_
          unfold hold
          rw [h, if_neg (by simp), if_neg h2, h3, if_neg (by simp), if_pos]
          rw [List.any_eq_true]
          exact ⟨k, by simp; omega, by rw [h4, h5, h6]; rfl⟩
        · have h6 : decide ((l.getD k dN).l < n.l) = false := h6
          exact ⟨k + 1, [], ⟨by omega, next True (.inr h6)⟩, by dsimp only; omega, rfl, rfl, rfl, rfl, rfl, ⟨⟨rfl, wr (by omega) (by omega)⟩, rfl, by rw [e, wr (by omega) (by omega)]; simp⟩, trivial⟩
      · have h5 : wfi l k k = false := h5
        have e : wtl l n (k + 1) = wtl l n k := by rw [wtl, if_neg (by rw [h5]; simp)]
        exact ⟨k + 1, [], ⟨by omega, next True (.inl (by rw [h5]; simp))⟩, by dsimp only; omega, rfl, rfl, rfl, rfl, rfl, ⟨⟨rfl, wr (by omega) (by omega)⟩, rfl, by rw [e]⟩, trivial⟩
  · have hc := dnlt hc
    have hil : i = l.length := by omega
    subst hil
    refine RetIs.b ?_
    unfold hold
    rw [h, if_neg (by simp), if_neg h2, h3, if_neg (by simp), if_neg]
    rw [Bool.not_eq_true, List.any_eq_false]
    intro j hj
    have := hno j (by simpa using hj)
    rw [this]
    simp
end Go.Proofs.Ytilkcfabbilcbaa
