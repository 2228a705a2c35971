/-
  LevelsWorlds: what it computes, second part.
-/
import Derived.Test.YtilkcfabbilcbaaW10
namespace Go.Proofs.Ytilkcfabbilcbaa
open Go.Eng

theorem all_take (f : Note → Bool) (l : List Note) (k : Nat) (h : k < l.length) : (l.take (k + 1)).all f = ((l.take k).all f && f (l.getD k dN)) := by
  rw [List.take_succ_eq_append_getElem h, gd h, List.all_append]
  simp only [List.all_cons, List.all_nil, Bool.and_true]
def hasE (l : List Note) (b : Bool) (m w want : Int) (n : Note) (mm : Int) : Int := if (mm == m && n.w == w) = true then want else Low l b mm n.w
def violE (b : Bool) (n : Note) (mm h : Int) : Bool := (mm == n.m || ((b && !n.n) && decide (mm < n.m))) && ((n.n && decide (h ≥ n.l)) || (!n.n && decide (h < n.l)))
def mmOf (l : List Note) (m : Int) (k : Nat) : Int := if k < l.length then (l.getD k dN).m else m
def viol (l : List Note) (b : Bool) (m w want : Int) (i k : Nat) : Bool := violE b (l.getD i dN) (mmOf l m k) (hasE l b m w want (l.getD i dN) (mmOf l m k))
def wantOf (lo hi p : Int) : Int := IntKind.i64.wrap (lo + (IntKind.i64.wrap p).tmod (IntKind.i64.wrap (IntKind.i64.wrap (hi - lo) + 1)))
/-- What is not looked at. -/
def wskip (l : List Note) (wl : List Note) (o m : Int) : Bool :=
  ((((((decide ((l.length : Int) > 30) || decide ((wl.length : Int) > 30)) || !valid l) || !valid wl) || decide (o < 0)) || decide (o > 4)) || decide (m < 0)) || decide (m ≥ 100000)
/-- What LevelsWorlds computes. -/
def worlds (l : List Note) (b : Bool) (wl : List Note) (o m w p : Int) : Bool :=
  if wskip l wl o m = true then true else
  if ((l.all fun n => hold n b wl o) && ((!Right l b || decide (levelF wl o m w < Low l b m w)) || decide (levelF wl o m w > High l m w))) = true then false else
  if (!Right l b) = true then true else
  if ((decide (Low l b m w > High l m w) || decide (Low l b m w < 0)) || decide (High l m w > 4)) = true then false else
  !(List.range l.length).any fun i => (List.range (l.length + 1)).any fun k => viol l b m w (wantOf (Low l b m w) (High l m w) p) i k

set_option maxRecDepth 20000 in
set_option maxHeartbeats 4000000 in
theorem worlds_fn (l : List Note) (b : Bool) (wl : List Note) (o m w p : Int) :
    Ctr Try.prog 4 [.rs 5 l.length (rowsN l), .b b, .rs 5 wl.length (rowsN wl), .i .i64 o, .i .i64 m, .i .i64 w, .i .u8 p] [] (.b (worlds l b wl o m w p)) := by
  refine fn_of_exec tabOk Try.func4 (by kernel_rfl) rfl (N := Try.f4.ntmps) rfl (res := [.tmp 14]) rfl rfl ?_
  refine .inl ⟨[], _, small_fn, .inl (.inl ⟨[], _, fun hc => rValid_fn l ?_, .inl ⟨[], _, fun hc => rValid_fn wl ?_, ⟨fun h => ?_, fun h => ?_⟩⟩⟩)⟩
  · have h := hc.1
    simp at h
    omega
  · have h := hc.1
    simp at h
    omega
  · have h : wskip l wl o m = true := h
    exact RetIs.b (by unfold worlds; rw [if_pos h])
  have h0 : ¬ wskip l wl o m = true := by rw [Bool.not_eq_true]; exact h
  have hl : l.length < 2^62 := by unfold wskip at h0; simp at h0; omega
  have hwl : wl.length < 2^62 := by unfold wskip at h0; simp at h0; omega
  clear h
  refine .inl ⟨[], Nat, fun k => k ≤ l.length, fun k => [⟨17, [], .i .i64 k⟩, ⟨16, [], .b ((l.take k).all fun n => hold n b wl o)⟩], fun _ => [], fun k => l.length - k,
    ⟨0, [], Nat.zero_le _, rfl, rfl, rfl, rfl, rfl, ⟨⟨rfl, rfl⟩, rfl⟩, trivial⟩, ?_⟩
  intro k hk
  refine .inl ⟨fun hc => ?_, fun hc => ?_⟩
  · have hc := dlt hc
    repeat refine Or.inl ?_
    refine ⟨fun _ => by omega, .inl ⟨[], _, fun _ => hold_fn wl hwl (l.getD k dN) b o, ?_⟩⟩
    exact ⟨k + 1, [], by dsimp only; omega, by dsimp only; omega, rfl, rfl, rfl, rfl, rfl, ⟨⟨rfl, wr (by omega) (by omega)⟩, (all_take _ l k (by omega)).symm⟩, trivial⟩
  have hc := dnlt hc
  have hkl : k = l.length := by omega
  subst hkl
  refine .inl ⟨[], _, Low_fn l hl b m w, .inl ⟨[], _, High_fn l hl b m w, .inl ⟨[], _, level_fn wl hwl o m w, .inl (.inl ⟨[], _, fun _ => Right_fn l hl b, ⟨fun h => ?_, fun h => ?_⟩⟩)⟩⟩⟩
  · have h : ((l.take l.length).all (fun n => hold n b wl o) && ((!Right l b || decide (levelF wl o m w < Low l b m w)) || decide (levelF wl o m w > High l m w))) = true := h
    rw [List.take_length] at h
    exact RetIs.b (by unfold worlds; rw [if_neg h0, if_pos h])
  have h1 : ¬ ((l.all fun n => hold n b wl o) && ((!Right l b || decide (levelF wl o m w < Low l b m w)) || decide (levelF wl o m w > High l m w))) = true := by
    rw [Bool.not_eq_true]
    have h : ((l.take l.length).all (fun n => hold n b wl o) && ((!Right l b || decide (levelF wl o m w < Low l b m w)) || decide (levelF wl o m w > High l m w))) = false := h
    rw [List.take_length] at h
    exact h
  clear h
  refine .inl (.inl ⟨[], _, Right_fn l hl b, ⟨fun h => ?_, fun h => ?_⟩⟩)
  · have h : (!Right l b) = true := h
    exact RetIs.b (by unfold worlds; rw [if_neg h0, if_neg h1, if_pos h])
  have h2 : ¬ (!Right l b) = true := by rw [Bool.not_eq_true]; exact h
  clear h
  refine .inl ⟨fun h => ?_, fun h => ?_⟩
  · have h : ((decide (Low l b m w > High l m w) || decide (Low l b m w < 0)) || decide (High l m w > 4)) = true := h
    exact RetIs.b (by unfold worlds; rw [if_neg h0, if_neg h1, if_neg h2, if_pos h])
  have h3 : ¬ ((decide (Low l b m w > High l m w) || decide (Low l b m w < 0)) || decide (High l m w > 4)) = true := by rw [Bool.not_eq_true]; exact h
  clear h
  have hlh : Low l b m w ≤ High l m w ∧ 0 ≤ Low l b m w ∧ High l m w ≤ 4 := by simp at h3; omega
  refine ⟨?_, ?_⟩
  · rw [wr (n := High l m w - Low l b m w) (by omega) (by omega), wr (by omega) (by omega)]
    omega
  generalize hwant : wantOf (Low l b m w) (High l m w) p = want
  have hres : ∀ c, c = (!(List.range l.length).any fun i => (List.range (l.length + 1)).any fun k => viol l b m w want i k) → c = worlds l b wl o m w p := by
    intro c hc
    unfold worlds
    rw [if_neg h0, if_neg h1, if_neg h2, if_neg h3, hwant]
    exact hc
  refine .inl ⟨[], Nat, fun i => i ≤ l.length ∧ ∀ j, j < i → ∀ k, k ≤ l.length → viol l b m w want j k = false, fun i => [⟨22, [], .i .i64 i⟩, ⟨21, [], .i .i64 want⟩], fun _ => [], fun i => l.length - i,
    ⟨0, [], ⟨Nat.zero_le _, fun j hj => by omega⟩, rfl, rfl, rfl, rfl, rfl, ⟨⟨rfl, rfl⟩, rfl, hwant⟩, trivial⟩, ?_⟩
  intro i hi
  obtain ⟨hi, hno⟩ := hi
  refine .inl ⟨fun hc => ?_, fun hc => ?_⟩
  · have hc := dlt hc
    repeat refine Or.inl ?_
    refine ⟨by omega, ⟨[], Nat, fun k => k ≤ l.length + 1 ∧ ∀ j, j < k → viol l b m w want i j = false, fun k => [⟨24, [], .i .i64 k⟩], fun _ => [], fun k => l.length + 1 - k,
      ⟨0, [], ⟨Nat.zero_le _, fun j hj => by omega⟩, rfl, rfl, rfl, rfl, rfl, ⟨rfl, rfl⟩, trivial⟩, ?_⟩⟩
    intro k hk
    obtain ⟨hk, hno2⟩ := hk
    refine .inl ⟨fun hc2 => ?_, fun hc2 => ?_⟩
    · have hc2 : (k : Int) ≤ l.length := of_decide_eq_true hc2
      have step : ∀ mm h, mm = mmOf l m k → h = hasE l b m w want (l.getD i dN) mm → violE b (l.getD i dN) mm h = viol l b m w want i k := by
        intro mm h e1 e2
        subst e1 e2
        rfl
      have fin : viol l b m w want i k = true → false = worlds l b wl o m w p := by
        intro hv
        refine hres _ ?_
        symm
        rw [Bool.not_eq_false', List.any_eq_true]
        refine ⟨i, by simp; omega, ?_⟩
        rw [List.any_eq_true]
        exact ⟨k, by simp; omega, hv⟩
      have next : viol l b m w want i k = false → ∀ j, j < k + 1 → viol l b m w want i j = false := by
        intro hv j hj
        by_cases hjk : j = k
        · subst hjk; exact hv
        · exact hno2 j (by omega)
      repeat refine Or.inl ?_
      refine ⟨fun h5 => ?_, fun h5 => ?_⟩
      · have h5 : (k : Int) < l.length := of_decide_eq_true h5
        have e1 : (l.getD k dN).m = mmOf l m k := by rw [mmOf, if_pos (by omega)]
        repeat refine Or.inl ?_
        refine ⟨by omega, ?_⟩
        repeat refine Or.inl ?_
        refine ⟨[], _, Low_fn l hl b _ _, ?_⟩
        repeat refine Or.inl ?_
        refine ⟨fun h6 => ?_, fun h6 => ?_⟩
        · have h6 : ((l.getD k dN).m == m && (l.getD i dN).w == w) = true := h6
          have e2 : want = hasE l b m w want (l.getD i dN) (l.getD k dN).m := by rw [hasE, if_pos h6]
          repeat refine Or.inl ?_
          refine ⟨fun h7 => ?_, fun h7 => ?_⟩
          · have h7 : violE b (l.getD i dN) (l.getD k dN).m want = true := h7
            exact RetIs.b (fin ((step _ _ e1 e2).symm.trans h7))
          · have h7 : violE b (l.getD i dN) (l.getD k dN).m want = false := h7
            exact ⟨k + 1, [], ⟨by omega, next ((step _ _ e1 e2).symm.trans h7)⟩, by dsimp only; omega, rfl, rfl, rfl, rfl, rfl, ⟨rfl, wr (by omega) (by omega)⟩, trivial⟩
        · have h6 : ((l.getD k dN).m == m && (l.getD i dN).w == w) = false := h6
          have e2 : Low l b (l.getD k dN).m (l.getD i dN).w = hasE l b m w want (l.getD i dN) (l.getD k dN).m := by rw [hasE, if_neg (by rw [h6]; simp)]
          repeat refine Or.inl ?_
          refine ⟨fun h7 => ?_, fun h7 => ?_⟩
          · have h7 : violE b (l.getD i dN) (l.getD k dN).m (Low l b (l.getD k dN).m (l.getD i dN).w) = true := h7
            exact RetIs.b (fin ((step _ _ e1 e2).symm.trans h7))
          · have h7 : violE b (l.getD i dN) (l.getD k dN).m (Low l b (l.getD k dN).m (l.getD i dN).w) = false := h7
            exact ⟨k + 1, [], ⟨by omega, next ((step _ _ e1 e2).symm.trans h7)⟩, by dsimp only; omega, rfl, rfl, rfl, rfl, rfl, ⟨rfl, wr (by omega) (by omega)⟩, trivial⟩
      · have h5 : ¬ (k : Int) < l.length := of_decide_eq_false h5
        have e1 : m = mmOf l m k := by rw [mmOf, if_neg (by omega)]
        repeat refine Or.inl ?_
        refine ⟨[], _, Low_fn l hl b _ _, ?_⟩
        repeat refine Or.inl ?_
        refine ⟨fun h6 => ?_, fun h6 => ?_⟩
        · have h6 : (m == m && (l.getD i dN).w == w) = true := h6
          have e2 : want = hasE l b m w want (l.getD i dN) m := by rw [hasE, if_pos h6]
          repeat refine Or.inl ?_
          refine ⟨fun h7 => ?_, fun h7 => ?_⟩
          · have h7 : violE b (l.getD i dN) m want = true := h7
            exact RetIs.b (fin ((step _ _ e1 e2).symm.trans h7))
          · have h7 : violE b (l.getD i dN) m want = false := h7
            exact ⟨k + 1, [], ⟨by omega, next ((step _ _ e1 e2).symm.trans h7)⟩, by dsimp only; omega, rfl, rfl, rfl, rfl, rfl, ⟨rfl, wr (by omega) (by omega)⟩, trivial⟩
        · have h6 : (m == m && (l.getD i dN).w == w) = false := h6
          have e2 : Low l b m (l.getD i dN).w = hasE l b m w want (l.getD i dN) m := by rw [hasE, if_neg (by rw [h6]; simp)]
          repeat refine Or.inl ?_
          refine ⟨fun h7 => ?_, fun h7 => ?_⟩
          · have h7 : violE b (l.getD i dN) m (Low l b m (l.getD i dN).w) = true := h7
            exact RetIs.b (fin ((step _ _ e1 e2).symm.trans h7))
          · have h7 : violE b (l.getD i dN) m (Low l b m (l.getD i dN).w) = false := h7
            exact ⟨k + 1, [], ⟨by omega, next ((step _ _ e1 e2).symm.trans h7)⟩, by dsimp only; omega, rfl, rfl, rfl, rfl, rfl, ⟨rfl, wr (by omega) (by omega)⟩, trivial⟩
    · have hc2 : ¬ (k : Int) ≤ l.length := of_decide_eq_false hc2
      refine ⟨i + 1, [], ⟨by omega, fun j hj k' hk' => ?_⟩, by dsimp only; omega, rfl, rfl, rfl, rfl, rfl, ⟨⟨rfl, wr (by omega) (by omega)⟩, rfl, rfl⟩, trivial⟩
      by_cases hji : j = i
      · subst hji
        exact hno2 k' (by omega)
      · exact hno j (by omega) k' hk'
  · have hc := dnlt hc
    refine RetIs.b (hres _ ?_)
    symm
    rw [Bool.not_eq_true', List.any_eq_false]
    intro i' hi'
    rw [Bool.not_eq_true, List.any_eq_false]
    intro k' hk'
    rw [hno i' (by simp at hi'; omega) k' (by simp at hk'; omega)]
    simp
end Go.Proofs.Ytilkcfabbilcbaa
