/-
  Groups: GroupGrows.
-/
import Derived.Test.YtklmfkejgjhneaaG6
namespace Go.Proofs.Ytklmfkejgjhneaa
open Go.Eng

theorem grow_at (e f : Nat → Ev) (n N : Nat) (hnN : n ≤ N) (h : ∀ i, i < n → e i = f i) : (stays e n).length ≤ (stays f N).length ∧
    (∀ i, i < (stays e n).length → ((stays e n).getD i dS).acc = ((stays f N).getD i dS).acc ∧ ((stays e n).getD i dS).grp = ((stays f N).getD i dS).grp ∧ ((stays e n).getD i dS).fr = ((stays f N).getD i dS).fr ∧
      ((stays e n).getD i dS).to = if ((stays f N).getD i dS).to ≥ n then -1 else ((stays f N).getD i dS).to) ∧
    ∀ i, (stays e n).length ≤ i → i < (stays f N).length → (n : Int) ≤ ((stays f N).getD i dS).fr := by
  rw [stays_congr h]
  obtain ⟨rest, h1, h2⟩ := starts_split f n N hnN
  have hl1 : (stays f n).length = (starts f n).length := by unfold stays; simp
  have hl2 : (stays f N).length = (starts f n).length + rest.length := by unfold stays; rw [h1]; simp
  refine ⟨by omega, fun i hi => ?_, fun i hi1 hi2 => ?_⟩
  · rw [hl1] at hi
    have e1 : (stays f n).getD i dS = mkS f n ((starts f n).getD i 0) := by unfold stays; exact getD_mapD 0 dS _ _ _ hi
    have e2 : (stays f N).getD i dS = mkS f N ((starts f n).getD i 0) := by
      unfold stays
      rw [getD_mapD 0 dS _ _ _ (by rw [h1, List.length_append]; omega), h1, getD_append_lt 0 _ _ _ hi]
    rw [e1, e2]
    refine ⟨rfl, rfl, rfl, ?_⟩
    generalize (starts f n).getD i 0 = x
    show endN f (f x).who (f x).group (x + 1) n = if endN f (f x).who (f x).group (x + 1) N ≥ n then -1 else endN f (f x).who (f x).group (x + 1) N
    by_cases h0 : endN f (f x).who (f x).group (x + 1) n = -1
    · rw [h0]
      split
      · rfl
      · rename_i hc
        by_cases hN : endN f (f x).who (f x).group (x + 1) N = -1
        · exact hN.symm
        · obtain ⟨q, h4, h5, h6⟩ := endN_later f _ _ _ n N h0 hN
          omega
    · rw [endN_grow f _ _ _ n h0 N hnN]
      obtain ⟨q, h4, h5, h6, _⟩ := endN_some f _ _ _ n h0
      rw [if_neg (by omega)]
  · have e2 : (stays f N).getD i dS = mkS f N (rest.getD (i - (starts f n).length) 0) := by
      unfold stays
      rw [getD_mapD 0 dS _ _ _ (by rw [h1, List.length_append]; omega), h1, getD_append_ge 0 _ _ _ (by omega)]
    rw [e2]
    have := h2 _ (getD_memD 0 (show i - (starts f n).length < rest.length by omega))
    show (n : Int) ≤ ((rest.getD (i - (starts f n).length) 0 : Nat) : Int)
    omega
theorem catE (l m : List Ev) : ∀ k, k < (l ++ m).length → catG (0 + l.length) (catG 0 (rowOf 12 []) (rowsE l)) (rowsE m) k = rowsE (l ++ m) k := by
  intro k hk
  unfold catG rowsE
  by_cases h : k < l.length
  · rw [if_pos (by omega), if_neg (by omega), Nat.sub_zero, getD_append_lt dE _ _ _ h]
  · rw [if_neg (by omega), Nat.zero_add, getD_append_ge dE _ _ _ (by omega)]

set_option maxRecDepth 20000 in
set_option maxHeartbeats 4000000 in
theorem groupGrows_fn (l m : List Ev) (hw1 : ∀ x ∈ l, (Lit.int .i64 x.who).wf = true) (hw2 : ∀ x ∈ m, (Lit.int .i64 x.who).wf = true) (gl : List Gra) (g p t : Int) :
    Ctr Try.prog 5 [.rs 12 l.length (rowsE l), .rs 12 m.length (rowsE m), .rs 3 gl.length (rowsG gl), .i .i64 g, .i .i64 p, .i .i64 t] [] (.b true) := by
  refine fn_of_exec tabOk Try.func5 (by kernel_rfl) rfl (N := Try.f5.ntmps) rfl (res := [.tmp 12]) rfl rfl [(5, [.eq 2 (.row 36 12 (l ++ m).length (rowsE (l ++ m)))])] ?_
  refine .inl ⟨[], _, smallG_fn, ?_⟩
  repeat refine Or.inl ?_
  refine ⟨fun hf => RetIs.b rfl, fun hf => ?_⟩
  have hf : ((decide ((l.length : Int) > 40) || decide ((m.length : Int) > 20)) || decide ((gl.length : Int) > 60)) = false := hf
  simp only [Bool.or_eq_false_iff, decide_eq_false_iff_not] at hf
  have hl : l.length < 1000000 := by omega
  have hlm : (l ++ m).length = l.length + m.length := List.length_append
  have hw : ∀ x ∈ l ++ m, (Lit.int .i64 x.who).wf = true := fun x hx => by
    rcases List.mem_append.1 hx with h | h
    · exact hw1 x h
    · exact hw2 x h
  have hlen : 0 + l.length + m.length = (l ++ m).length := by omega
  have hce := catE l m
  have hsame : ∀ i, i < l.length → evs l i = evs (l ++ m) i := fun i hi => (getD_append_lt dE l m i hi).symm
  have cA := Stays_fn l hl
  have cB := Stays_fn (l ++ m) (by omega)
  have hgr := grow_at (evs l) (evs (l ++ m)) l.length (l ++ m).length (by omega) hsame
  have c1 := Members_fn l hl hw1 g (min t l.length)
  have c2 := Members_fn (l ++ m) (by omega) hw g (min t l.length)
  have c3 := Rights_fn gl (by omega) l (by omega) g p (min t l.length)
  have c4 := Rights_fn gl (by omega) (l ++ m) (by omega) g p (min t l.length)
  have hcut : cut (l ++ m) (min t l.length) = cut l (min t l.length) := by unfold cut; omega
  have hcle := cut_le l (min t l.length)
  have hM : Memb (evs (l ++ m)) g (cut l (min t l.length)) = Memb (evs l) g (cut l (min t l.length)) := (Memb_congr fun i hi => hsame i (by omega)).symm
  have hR : RightsG gl (l ++ m) g p (min t l.length) = RightsG gl l g p (min t l.length) := by
    unfold RightsG
    rw [hcut]
    exact (rightsN_congr fun i hi => hsame i (by omega)).symm
  rw [hcut, hM] at c2
  rw [hR] at c4
  have hml := Memb_len (evs l) g (cut l (min t l.length))
  have hAl := stays_len (evs l) l.length
  have hBl := stays_len (evs (l ++ m)) (l ++ m).length
  obtain ⟨g1, g2, g3⟩ := hgr
  generalize stays (evs l) l.length = A at *
  generalize stays (evs (l ++ m)) (l ++ m).length = B at *
  refine ⟨fits (by omega), ?_⟩
  refine ⟨fits (by omega), ?_⟩
  refine ⟨⟨rfl, rfl, hlen, hce⟩, ?_⟩
  refine .inl ⟨_, _, cA, ?_⟩
  refine .inl ⟨_, _, cB, ?_⟩
  repeat refine Or.inl ?_
  refine ⟨fun h2 => ?_, fun _ => ?_⟩
  · have h2 := dlt h2
    omega
  repeat refine Or.inl ?_
  refine ⟨[], Nat, fun i => i ≤ B.length, fun i => [⟨17, [], .i .i64 i⟩], fun _ => [], fun i => B.length - i,
    ⟨0, [], Nat.zero_le _, rfl, rfl, rfl, rfl, rfl, ⟨rfl, rfl⟩, trivial⟩, ?_⟩
  intro i hi
  have ei : (i : Int).toNat = i := Int.toNat_natCast i
  have w : i < B.length → IntKind.i64.wrap ((i : Int) + 1) = ((i + 1 : Nat) : Int) := fun _ => wr (by omega) (by omega)
  refine .inl ⟨fun hc => ?_, fun hc => ?_⟩
  · have hc := dlt hc
    repeat refine Or.inl ?_
    refine ⟨⟨by omega, by omega⟩, by omega, ?_⟩
    repeat refine Or.inl ?_
    refine ⟨fun h2 => ?_, fun h2 => ?_⟩
    · have h2 : decide ((i : Int) ≥ A.length) = true := h2
      rw [decide_eq_true_eq] at h2
      have h3 := g3 i (by omega) (by omega)
      repeat refine Or.inl ?_
      refine ⟨fun h4 => ?_, fun _ => ?_⟩
      · exfalso
        have h4 : decide ((B.getD (i : Int).toNat dS).fr < l.length) = true := h4
        rw [ei, decide_eq_true_eq] at h4
        omega
      · exact ⟨i + 1, [], by dsimp only; omega, by dsimp only; omega, rfl, rfl, rfl, rfl, rfl, ⟨rfl, w (by omega)⟩, trivial⟩
    have h2 : decide ((i : Int) ≥ A.length) = false := h2
    rw [decide_eq_false_iff_not] at h2
    obtain ⟨f1, f2, f3, f4⟩ := g2 i (by omega)
    have hA4 : A.getD i dS = ⟨(A.getD i dS).acc, (A.getD i dS).grp, (A.getD i dS).fr, (A.getD i dS).to⟩ := rfl
    repeat refine Or.inl ?_
    refine ⟨fun h3 => ?_, fun h3 => ?_⟩
    · have h3 : decide ((B.getD (i : Int).toNat dS).to ≥ l.length) = true := h3
      rw [ei, decide_eq_true_eq] at h3
      rw [if_pos h3] at f4
      repeat refine Or.inl ?_
      refine ⟨⟨by omega, by omega⟩, by omega, ⟨fun h4 => ?_, fun _ => ?_⟩⟩
      · exfalso
        have h4 : (!eqAVs (Sta.mk (B.getD (i : Int).toNat dS).acc (B.getD (i : Int).toNat dS).grp (B.getD (i : Int).toNat dS).fr (-1)).av (A.getD (i : Int).toNat dS).av) = true := h4
        rw [ei, sta_ne, decide_eq_true] at h4
        · cases h4
        · rw [hA4, f1, f2, f3, f4]
      · exact ⟨i + 1, [], by dsimp only; omega, by dsimp only; omega, rfl, rfl, rfl, rfl, rfl, ⟨rfl, w (by omega)⟩, trivial⟩
    · have h3 : decide ((B.getD (i : Int).toNat dS).to ≥ l.length) = false := h3
      rw [ei, decide_eq_false_iff_not] at h3
      rw [if_neg h3] at f4
      repeat refine Or.inl ?_
      refine ⟨⟨by omega, by omega⟩, by omega, ⟨fun h4 => ?_, fun _ => ?_⟩⟩
      · exfalso
        have h4 : (!eqAVs (B.getD (i : Int).toNat dS).av (A.getD (i : Int).toNat dS).av) = true := h4
        rw [ei, sta_ne, decide_eq_true] at h4
        · cases h4
        · rw [hA4, f1, f2, f3, f4]
      · exact ⟨i + 1, [], by dsimp only; omega, by dsimp only; omega, rfl, rfl, rfl, rfl, rfl, ⟨rfl, w (by omega)⟩, trivial⟩
  · refine .inl ⟨_, _, fun _ => c1, .inl ⟨_, _, fun _ => c2, .inl ⟨[], _, fun _ => intsG_fn _ _ (by omega) (by omega), .inl ⟨[], _, fun _ => c3, .inl ⟨[], _, fun _ => c4, ?_⟩⟩⟩⟩⟩
    refine RetIs.b ?_
    simp
end Go.Proofs.Ytklmfkejgjhneaa
