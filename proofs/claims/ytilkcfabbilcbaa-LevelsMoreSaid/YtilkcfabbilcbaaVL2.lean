/-
  LevelsMore in plain terms: what a further note, and another order and other steps, do to the least and the greatest level.
-/
import Derived.Test.YtilkcfabbilcbaaVL1
namespace Go.Proofs.Ytilkcfabbilcbaa
open Go.Eng

theorem foldmax_le (b : Bool) (m w v : Int) : ∀ (l : List Note) (a : Int), l.foldl (fun a n => if says n b m w then max a n.l else a) a ≤ v ↔ a ≤ v ∧ ∀ n ∈ l, says n b m w = true → n.l ≤ v
  | [], a => by simp
  | n :: r, a => by
    simp only [List.foldl_cons, List.mem_cons, forall_eq_or_imp]
    rw [foldmax_le b m w v r]
    cases hs : says n b m w
    · simp
    · simp only [if_true, forall_const]
      constructor
      · rintro ⟨h1, h2⟩; exact ⟨by omega, by omega, h2⟩
      · rintro ⟨h1, h2, h3⟩; exact ⟨by omega, h3⟩
theorem low_le (b : Bool) (m w v : Int) (l : List Note) : low l b m w ≤ v ↔ 0 ≤ v ∧ ∀ n ∈ l, says n b m w = true → n.l ≤ v := foldmax_le b m w v l 0
theorem foldmin_ge (m w v : Int) : ∀ (l : List Note) (a : Int), (∀ n ∈ l, vnote n = true) → (v ≤ l.foldl (fun a n => if den n m w then min a (IntKind.i64.wrap (n.l - 1)) else a) a ↔ v ≤ a ∧ ∀ n ∈ l, den n m w = true → v ≤ n.l - 1)
  | [], a, _ => by simp
  | n :: r, a, hv => by
    simp only [List.foldl_cons, List.mem_cons, forall_eq_or_imp]
    rw [foldmin_ge m w v r _ fun n hn => hv n (List.mem_cons_of_mem _ hn)]
    have hn := hv n (by simp)
    unfold vnote at hn
    simp at hn
    rw [wr (by omega) (by omega)]
    cases hs : den n m w
    · simp
    · simp only [if_true, forall_const]
      constructor
      · rintro ⟨h1, h2⟩; exact ⟨by omega, by omega, h2⟩
      · rintro ⟨h1, h2, h3⟩; exact ⟨by omega, h3⟩
theorem high_ge (m w v : Int) (l : List Note) (hv : ∀ n ∈ l, vnote n = true) : v ≤ high l m w ↔ v ≤ 4 ∧ ∀ n ∈ l, den n m w = true → v ≤ n.l - 1 := foldmin_ge m w v l 4 hv

/-- The note but for its step. -/
def strip (n : Note) : Note := { n with s := 0 }
/-- Each note of the one list, but for its step, is one of the other. -/
def subN (l l' : List Note) : Prop := ∀ n ∈ l, ∃ k ∈ l', strip n = strip k
theorem strip_says {n k : Note} (h : strip n = strip k) (b : Bool) (m w : Int) : says n b m w = says k b m w ∧ den n m w = den k m w ∧ n.l = k.l ∧ n.m = k.m ∧ n.w = k.w ∧ n.n = k.n := by
  obtain ⟨a1, a2, a3, a4, a5⟩ := n
  obtain ⟨b1, b2, b3, b4, b5⟩ := k
  simp only [strip, Note.mk.injEq] at h
  obtain ⟨rfl, rfl, rfl, _, rfl⟩ := h
  exact ⟨rfl, rfl, rfl, rfl, rfl, rfl⟩
theorem low_sub {l l' : List Note} (h : subN l l') (b : Bool) (m w : Int) : low l b m w ≤ low l' b m w := by
  have h' := (low_le b m w _ l').1 (Int.le_refl _)
  refine (low_le b m w _ l).2 ⟨h'.1, fun n hn hs => ?_⟩
  obtain ⟨k, hk, e⟩ := h n hn
  obtain ⟨e1, _, e2, _⟩ := strip_says e b m w
  rw [e2]
  exact h'.2 k hk (e1 ▸ hs)
theorem high_sub {l l' : List Note} (hv : ∀ n ∈ l, vnote n = true) (hv' : ∀ n ∈ l', vnote n = true) (h : subN l l') (m w : Int) : high l' m w ≤ high l m w := by
  have h' := (high_ge m w _ l' hv').1 (Int.le_refl _)
  refine (high_ge m w _ l hv).2 ⟨h'.1, fun n hn hs => ?_⟩
  obtain ⟨k, hk, e⟩ := h n hn
  obtain ⟨_, e1, e2, _⟩ := strip_says e true m w
  rw [e2]
  exact h'.2 k hk (e1 ▸ hs)
theorem right_sub {l l' : List Note} (hv : valid l = true) (hv' : valid l' = true) (h : subN l l') (b : Bool) (hr : Right l' b = true) : Right l b = true := by
  unfold Right at hr ⊢
  rw [hv'] at hr
  rw [hv]
  simp only [Bool.true_and, Bool.not_eq_true', List.any_eq_false] at hr ⊢
  intro n hn
  obtain ⟨k, hk, e⟩ := h n hn
  obtain ⟨_, _, _, e1, e2, e3⟩ := strip_says e b 0 0
  have := hr k hk
  have h1 := low_sub h b n.m n.w
  have h2 := high_sub (valid_all hv) (valid_all hv') h n.m n.w
  unfold bad at this ⊢
  rw [← e1, ← e2, ← e3] at this
  simp only [Bool.and_eq_true, decide_eq_true_eq, not_and, gt_iff_lt, Int.not_lt] at this ⊢
  intro h3
  have := this h3
  omega

theorem valid_left {l : List Note} {n : Note} (h : valid (l ++ [n]) = true) : valid l = true ∧ valid [n] = true := by
  unfold valid at h ⊢
  simp at h ⊢
  exact ⟨⟨by omega, fun x hx => h.2.1 x hx⟩, h.2.2⟩
theorem subN_left (l : List Note) (n : Note) : subN l (l ++ [n]) := fun x hx => ⟨x, by simp [hx], rfl⟩
theorem subN_right (l : List Note) (n : Note) : subN [n] (l ++ [n]) := fun x hx => ⟨x, by simp at hx; simp [hx], rfl⟩
theorem low_more (l : List Note) (n : Note) (b : Bool) (m w : Int) : low (l ++ [n]) b m w = max (low l b m w) (low [n] b m w) := by
  apply Int.le_antisymm
  · have h1 := (low_le b m w _ l).1 (Int.le_max_left (low l b m w) (low [n] b m w))
    have h2 := (low_le b m w _ [n]).1 (Int.le_max_right (low l b m w) (low [n] b m w))
    refine (low_le b m w _ _).2 ⟨h1.1, fun x hx hs => ?_⟩
    rcases List.mem_append.1 hx with hx | hx
    · exact h1.2 x hx hs
    · exact h2.2 x hx hs
  · have h1 := low_sub (subN_left l n) b m w
    have h2 := low_sub (subN_right l n) b m w
    omega
theorem high_more {l : List Note} {n : Note} (hv : valid (l ++ [n]) = true) (m w : Int) : high (l ++ [n]) m w = min (high l m w) (high [n] m w) := by
  obtain ⟨hv1, hv2⟩ := valid_left hv
  apply Int.le_antisymm
  · have h1 := high_sub (valid_all hv1) (valid_all hv) (subN_left l n) m w
    have h2 := high_sub (valid_all hv2) (valid_all hv) (subN_right l n) m w
    omega
  · have h1 := (high_ge m w _ l (valid_all hv1)).1 (Int.min_le_left (high l m w) (high [n] m w))
    have h2 := (high_ge m w _ [n] (valid_all hv2)).1 (Int.min_le_right (high l m w) (high [n] m w))
    refine (high_ge m w _ _ (valid_all hv)).2 ⟨h1.1, fun x hx hs => ?_⟩
    rcases List.mem_append.1 hx with hx | hx
    · exact h1.2 x hx hs
    · exact h2.2 x hx hs
theorem one_other {n : Note} {w : Int} (hw : n.w ≠ w) (b : Bool) (m : Int) : low [n] b m w = 0 ∧ high [n] m w = 4 := by
  constructor
  · simp [low, says, hw]
  · simp [high, den, hw]

/-- The first k notes with the steps 0, 1, 2, ... -/
def stepK (r : List Note) (k j : Nat) : Note := if j < k then { r.getD j dN with s := (j : Int) } else r.getD j dN
def steps (r : List Note) : List Note := (List.range r.length).map fun j => { r.getD j dN with s := (j : Int) }
theorem steps_len (r : List Note) : (steps r).length = r.length := by simp [steps]
theorem steps_rows (r : List Note) : ∀ k, k < r.length → (stepK r r.length k).av = rowsN (steps r) k := by
  intro k hk
  unfold rowsN stepK
  rw [if_pos hk]
  simp [steps, List.getD, hk]
theorem steps_sub (r : List Note) : subN (steps r) r ∧ subN r (steps r) := by
  constructor
  · intro n hn
    simp only [steps, List.mem_map, List.mem_range] at hn
    obtain ⟨j, hj, rfl⟩ := hn
    exact ⟨r.getD j dN, by simp [List.getD, hj], rfl⟩
  · intro n hn
    obtain ⟨j, hj, rfl⟩ := List.getElem_of_mem hn
    refine ⟨{ r.getD j dN with s := (j : Int) }, ?_, by simp [strip, List.getD, hj]⟩
    simp only [steps, List.mem_map, List.mem_range]
    exact ⟨j, hj, rfl⟩
theorem step_row (R : List Note) (k j : Nat) : (if j = (k : Int).toNat then over 3 [.i .i64 (k : Int)] (stepK R k j).av else (stepK R k j).av) = (stepK R (k + 1) j).av := by
  have e : (k : Int).toNat = k := by omega
  rw [e]
  by_cases h : j = k
  · subst h
    rw [if_pos rfl]
    unfold stepK
    rw [if_neg (by omega), if_pos (by omega)]
    rfl
  · rw [if_neg h]
    unfold stepK
    by_cases h2 : j < k
    · rw [if_pos h2, if_pos (by omega)]
    · rw [if_neg h2, if_neg (by omega)]
def rot (l : List Note) (k : Nat) : List Note := l.drop k ++ l.take k
theorem rot_sub (l : List Note) (k : Nat) : subN (rot l k) l ∧ subN l (rot l k) := by
  constructor
  · intro n hn
    refine ⟨n, ?_, rfl⟩
    rcases List.mem_append.1 hn with h | h
    · exact List.mem_of_mem_drop h
    · exact List.mem_of_mem_take h
  · intro n hn
    refine ⟨n, ?_, rfl⟩
    rw [← List.take_append_drop k l] at hn
    unfold rot
    rw [List.mem_append] at hn ⊢
    exact hn.symm
theorem subN.trans {a b c : List Note} (h1 : subN a b) (h2 : subN b c) : subN a c := fun n hn => by
  obtain ⟨k, hk, e⟩ := h1 n hn
  obtain ⟨j, hj, e2⟩ := h2 k hk
  exact ⟨j, hj, e.trans e2⟩
theorem rot_len (l : List Note) (k : Nat) : (rot l k).length = l.length := by
  unfold rot
  simp
  omega
theorem valid_turned {l : List Note} (hv : valid l = true) (k : Nat) : valid (steps (rot l k)) = true := by
  have hlen : l.length ≤ 1000 := by
    unfold valid at hv
    simp at hv
    exact hv.1
  unfold valid
  simp only [steps_len, rot_len, Bool.and_eq_true, decide_eq_true_eq, Bool.not_eq_true', List.any_eq_false]
  refine ⟨hlen, fun n hn => ?_⟩
  simp only [steps, List.mem_map, List.mem_range] at hn
  obtain ⟨j, hj, rfl⟩ := hn
  have hmem : (rot l k).getD j dN ∈ rot l k := by simp [List.getD, hj]
  obtain ⟨x, hx, e⟩ := (rot_sub l k).1 _ hmem
  have := valid_all hv x hx
  obtain ⟨_, _, e1, e2, e3, _⟩ := strip_says e true 0 0
  rw [rot_len] at hj
  unfold vnote at this ⊢
  simp only [e1, e2, e3]
  simp at this ⊢
  omega
theorem turned_sub (l : List Note) (k : Nat) : subN (steps (rot l k)) l ∧ subN l (steps (rot l k)) :=
  ⟨(steps_sub _).1.trans (rot_sub l k).1, (rot_sub l k).2.trans (steps_sub _).2⟩
theorem Low_turned {l : List Note} (hv : valid l = true) (k : Nat) (b : Bool) (m w : Int) : Low (steps (rot l k)) b m w = Low l b m w := by
  simp only [Low, hv, valid_turned hv k, if_true]
  exact Int.le_antisymm (low_sub (turned_sub l k).1 b m w) (low_sub (turned_sub l k).2 b m w)
theorem High_turned {l : List Note} (hv : valid l = true) (k : Nat) (m w : Int) : High (steps (rot l k)) m w = High l m w := by
  simp only [High, hv, valid_turned hv k, if_true]
  have hv' := valid_turned hv k
  exact Int.le_antisymm (high_sub (valid_all hv) (valid_all hv') (turned_sub l k).2 m w) (high_sub (valid_all hv') (valid_all hv) (turned_sub l k).1 m w)
theorem Right_turned {l : List Note} (hv : valid l = true) (k : Nat) (b : Bool) : Right (steps (rot l k)) b = Right l b := by
  have hv' := valid_turned hv k
  rw [Bool.eq_iff_iff]
  exact ⟨right_sub hv hv' (turned_sub l k).2 b, right_sub hv' hv (turned_sub l k).1 b⟩
theorem Low_more {l : List Note} {n : Note} (hv : valid (l ++ [n]) = true) (b : Bool) (m w : Int) : Low (l ++ [n]) b m w = max (Low l b m w) (Low [n] b m w) := by
  obtain ⟨h1, h2⟩ := valid_left hv
  simp only [Low, hv, h1, h2, if_true]
  exact low_more l n b m w
theorem High_more {l : List Note} {n : Note} (hv : valid (l ++ [n]) = true) (m w : Int) : High (l ++ [n]) m w = min (High l m w) (High [n] m w) := by
  obtain ⟨h1, h2⟩ := valid_left hv
  simp only [High, hv, h1, h2, if_true]
  exact high_more hv m w
theorem One_other {n : Note} {w : Int} (hv : valid [n] = true) (hw : n.w ≠ w) (b : Bool) (m : Int) : Low [n] b m w = 0 ∧ High [n] m w = 4 := by
  simp only [Low, High, hv, if_true]
  exact one_other hw b m
theorem Right_more {l : List Note} {n : Note} (hv : valid (l ++ [n]) = true) (b : Bool) (h : Right (l ++ [n]) b = true) : Right l b = true :=
  right_sub (valid_left hv).1 hv (subN_left l n) b h

theorem ones (n : Note) : ∀ k, k < 1 → rowOf 5 n.av k = rowsN [n] k := by
  intro k hk
  have : k = 0 := by omega
  subst this
  rfl
theorem snoc_rows (l : List Note) (n : Note) : ∀ k, k < (l ++ [n]).length → catG (0 + l.length) (catG 0 (rowOf 5 []) (rowsN l)) (rowOf 5 n.av) k = rowsN (l ++ [n]) k := by
  intro k hk
  unfold catG rowsN
  simp only [Nat.zero_add, Nat.not_lt_zero, if_false, Nat.sub_zero]
  by_cases h : k < l.length
  · rw [if_pos h]
    simp [List.getD, List.getElem?_append_left h]
  · rw [if_neg h]
    have : k = l.length := by simp at hk; omega
    subst this
    simp [List.getD]
    rfl
theorem rot_rows (l : List Note) (c : Nat) (hc : c ≤ l.length) : ∀ k, k < (rot l c).length → catG (0 + (l.length - c)) (catG 0 (rowOf 5 []) fun k => rowsN l (c + k)) (fun k => rowsN l (0 + k)) k = rowsN (rot l c) k := by
  intro k hk
  rw [rot_len] at hk
  unfold catG rowsN rot
  simp only [Nat.zero_add, Nat.not_lt_zero, if_false, Nat.sub_zero, Nat.add_zero]
  have hd : (l.drop c).length = l.length - c := by simp
  by_cases h : k < l.length - c
  · rw [if_pos h]
    simp only [List.getD]
    rw [List.getElem?_append_left (by omega), List.getElem?_drop]
  · rw [if_neg h]
    simp only [List.getD]
    rw [List.getElem?_append_right (by omega), hd, List.getElem?_take, if_pos (by omega)]
end Go.Proofs.Ytilkcfabbilcbaa
