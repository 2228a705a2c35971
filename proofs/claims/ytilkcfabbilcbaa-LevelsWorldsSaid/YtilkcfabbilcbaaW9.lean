/-
  LevelsRight: what it computes.
-/
import Derived.Test.YtilkcfabbilcbaaL1
namespace Go.Proofs.Ytilkcfabbilcbaa
open Go.Eng

def clash (b : Bool) (a k : Note) : Bool := (((!a.n && k.n) && a.w == k.w) && decide (a.l ≥ k.l)) && (a.m == k.m || (b && decide (a.m > k.m)))
def fo (l : List Note) (b : Bool) (i : Nat) : Bool := valid l && (l.take i).all fun a => l.all fun k => !clash b a k
def fi (l : List Note) (b : Bool) (i k : Nat) : Bool := fo l b i && (l.take k).all fun x => !clash b (l.getD i dN) x
def lright (l : List Note) (b : Bool) : Bool :=
  if l.length > 40 then true else if fo l b l.length = false then !Right l b else
  if (l.any fun n => decide (Low l b n.m n.w > High l n.m n.w)) = true then false else Right l b
theorem all_take (f : Note → Bool) (l : List Note) (k : Nat) (h : k < l.length) : (l.take (k + 1)).all f = ((l.take k).all f && f (l.getD k dN)) := by
  rw [List.take_succ_eq_append_getElem h, gd h, List.all_append]
  simp only [List.all_cons, List.all_nil, Bool.and_true]
theorem fi_zero (l : List Note) (b : Bool) (i : Nat) : fi l b i 0 = fo l b i := by simp [fi]
theorem fi_succ (l : List Note) (b : Bool) (i k : Nat) (h : k < l.length) : fi l b i (k + 1) = (fi l b i k && !clash b (l.getD i dN) (l.getD k dN)) := by
  unfold fi; rw [all_take _ _ _ h, Bool.and_assoc]
theorem fi_end (l : List Note) (b : Bool) (i k : Nat) (h : i < l.length) (hk : l.length ≤ k) : fi l b i k = fo l b (i + 1) := by
  unfold fi fo; rw [all_take _ _ _ h, List.take_of_length_le hk, Bool.and_assoc]

set_option maxRecDepth 20000 in
theorem lright_fn (l : List Note) (b : Bool) : Ctr Try.prog 5 [.rs 5 l.length (rowsN l), .b b] [] (.b (lright l b)) := by
  refine fn_of_exec tabOk Try.func5 (by kernel_rfl) rfl (N := Try.f5.ntmps) rfl (res := [.tmp 4]) rfl rfl ?_
  refine .inl ⟨[], _, small_fn, .inl ⟨fun h => ?_, fun h => ?_⟩⟩
  · have h : (l.length : Int) > 40 := of_decide_eq_true h
    exact RetIs.b (by unfold lright; rw [if_pos (by omega)])
  have h : ¬ (l.length : Int) > 40 := of_decide_eq_false h
  have hl : l.length < 2^62 := by omega
  have hl40 : ¬ l.length > 40 := by omega
  refine .inl ⟨[], _, rValid_fn l hl, ?_⟩
  refine .inl ⟨[], Nat, fun i => i ≤ l.length, fun i => [⟨7, [], .i .i64 i⟩, ⟨6, [], .b (fo l b i)⟩], fun _ => [], fun i => l.length - i,
    ⟨0, [], Nat.zero_le _, rfl, rfl, rfl, rfl, rfl, ⟨⟨rfl, rfl⟩, show valid l = fo l b 0 by simp [fo]⟩, trivial⟩, ?_⟩
  intro i hi
  refine .inl ⟨fun hc => ?_, fun hc => ?_⟩
  · have hc := dlt hc
    refine .inl ⟨[], Nat, fun k => k ≤ l.length, fun k => [⟨8, [], .i .i64 k⟩, ⟨6, [], .b (fi l b i k)⟩], fun _ => [], fun k => l.length - k,
      ⟨0, [], Nat.zero_le _, rfl, rfl, rfl, rfl, rfl, ⟨⟨rfl, rfl⟩, (fi_zero l b i).symm⟩, trivial⟩, ?_⟩
    intro k hk
    refine .inl ⟨fun hc2 => ?_, fun hc2 => ?_⟩
    · have hc2 := dlt hc2
      have hs := fi_succ l b i k (by omega)
      refine .inl ⟨by omega, ⟨by omega, ⟨fun h2 => ?_, fun h2 => ?_⟩⟩⟩
      · have h2 : clash b (l.getD i dN) (l.getD k dN) = true := h2
        have e : false = fi l b i (k + 1) := by rw [hs, h2]; simp
        exact ⟨k + 1, [], by dsimp only; omega, by dsimp only; omega, rfl, rfl, rfl, rfl, rfl, ⟨⟨rfl, wr (by omega) (by omega)⟩, e⟩, trivial⟩
      · have h2 : clash b (l.getD i dN) (l.getD k dN) = false := h2
        have e : fi l b i k = fi l b i (k + 1) := by rw [hs, h2]; simp
        exact ⟨k + 1, [], by dsimp only; omega, by dsimp only; omega, rfl, rfl, rfl, rfl, rfl, ⟨⟨rfl, wr (by omega) (by omega)⟩, e⟩, trivial⟩
    · have hc2 := dnlt hc2
      refine ⟨i + 1, [], by dsimp only; omega, by dsimp only; omega, rfl, rfl, rfl, rfl, rfl, ⟨⟨rfl, wr (by omega) (by omega)⟩, ?_⟩, trivial⟩
      exact fi_end l b i k (by omega) (by omega)
  · have hc := dnlt hc
    have hil : i = l.length := by omega
    subst hil
    refine .inl ⟨fun h => ?_, fun h => ?_⟩
    · have h : fo l b l.length = false := by simpa using h
      refine .inl ⟨[], _, fun _ => Right_fn l hl b, ?_⟩
      refine RetIs.b ?_
      unfold lright
      rw [if_neg hl40, if_pos h]
      simp
    · have h : fo l b l.length = true := by simpa using h
      refine .inl ⟨[], Nat, fun k => k ≤ l.length ∧ ∀ j, j < k → Low l b (l.getD j dN).m (l.getD j dN).w ≤ High l (l.getD j dN).m (l.getD j dN).w, fun k => [⟨11, [], .i .i64 k⟩], fun _ => [], fun k => l.length - k,
        ⟨0, [], ⟨Nat.zero_le _, fun j hj => by omega⟩, rfl, rfl, rfl, rfl, rfl, ⟨rfl, rfl⟩, trivial⟩, ?_⟩
      intro k hk
      obtain ⟨hk, hno⟩ := hk
      refine .inl ⟨fun hc => ?_, fun hc => ?_⟩
      · have hc := dlt hc
        refine .inl ⟨by omega, ⟨by omega, .inl ⟨[], _, Low_fn l hl b _ _, ⟨by omega, ⟨by omega, .inl ⟨[], _, High_fn l hl b _ _, ⟨fun h2 => ?_, fun h2 => ?_⟩⟩⟩⟩⟩⟩⟩
        · refine RetIs.b ?_
          have h2 : Low l b (l.getD k dN).m (l.getD k dN).w > High l (l.getD k dN).m (l.getD k dN).w := of_decide_eq_true h2
          unfold lright
          rw [if_neg hl40, if_neg (by simp [h]), if_pos]
          rw [List.any_eq_true]
          rw [gd (by omega)] at h2
          exact ⟨l[k], List.getElem_mem (by omega), by simpa using h2⟩
        · have h2 : ¬ (Low l b (l.getD k dN).m (l.getD k dN).w > High l (l.getD k dN).m (l.getD k dN).w) := of_decide_eq_false h2
          refine ⟨k + 1, [], ⟨by omega, fun j hj => ?_⟩, by dsimp only; omega, rfl, rfl, rfl, rfl, rfl, ⟨rfl, wr (by omega) (by omega)⟩, trivial⟩
          by_cases hjk : j = k
          · subst hjk; omega
          · exact hno j (by omega)
      · have hc := dnlt hc
        refine .inl ⟨[], _, fun _ => Right_fn l hl b, ?_⟩
        refine RetIs.b ?_
        unfold lright
        rw [if_neg hl40, if_neg (by simp [h]), if_neg]
        · simp
        · rw [Bool.not_eq_true, List.any_eq_false]
          intro x hx
          obtain ⟨j, hj, rfl⟩ := List.getElem_of_mem hx
          have := hno j (by omega)
          rw [gd hj] at this
          simpa using this
end Go.Proofs.Ytilkcfabbilcbaa
