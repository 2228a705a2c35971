/-
  Groups: what stays are, without the program.
-/
import Derived.Test.YtklmfkejgjhneaaEngW
import Derived.Test.YtklmfkejgjhneaaS8
namespace Go.Proofs.Ytklmfkejgjhneaa
open Go.Eng

structure Ev where
  author : Int
  sq : Int
  causes : List Int
  kind : Int
  group : Int
  target : Int
  quot : Int
  who : Int
  n : Int
  text : ByteArray
  files : List Int
  stp : Int
structure Sta where
  acc : Int
  grp : Int
  fr : Int
  to : Int
def dE : Ev := ⟨0, 0, [], 0, 0, 0, 0, 0, 0, ByteArray.empty, [], 0⟩
def dS : Sta := ⟨0, 0, 0, 0⟩
def joinP (e : Ev) (a g : Int) : Bool := e.kind == 5 && e.who == a && e.group == g
def endsP (e : Ev) (a g : Int) : Bool := e.group == g && ((e.kind == 6 && e.author == a) || (e.kind == 7 && e.who == a))
def inN (e : Nat → Ev) (a g : Int) : Nat → Bool
  | 0 => false
  | k + 1 => if joinP (e k) a g = true then true else if endsP (e k) a g = true then false else inN e a g k
def startP (e : Nat → Ev) (i : Nat) : Bool := (e i).kind == 5 && !inN e (e i).who (e i).group i
/-- The first event from i on, before n, that ends the stay, or -1. -/
def endN (e : Nat → Ev) (a g : Int) (i : Nat) : Nat → Int
  | 0 => -1
  | n + 1 => if endN e a g i n = -1 ∧ i ≤ n ∧ endsP (e n) a g = true then n else endN e a g i n
def mkS (e : Nat → Ev) (n i : Nat) : Sta := ⟨(e i).who, (e i).group, i, endN e (e i).who (e i).group (i + 1) n⟩
def starts (e : Nat → Ev) (n : Nat) : List Nat := (List.range n).filter (startP e)
def stays (e : Nat → Ev) (n : Nat) : List Sta := (starts e n).map (mkS e n)
def closeS (ev : Ev) (n : Nat) (s : Sta) : Sta := if s.to = -1 ∧ endsP ev s.acc s.grp = true then ⟨s.acc, s.grp, s.fr, n⟩ else s

theorem join_not_end {e : Ev} (h : e.kind = 5) (a g : Int) : endsP e a g = false := by
  unfold endsP
  rw [h]
  simp
theorem endN_none (e : Nat → Ev) (a g : Int) (i : Nat) : ∀ n, endN e a g i n = -1 ↔ ∀ q, i ≤ q → q < n → endsP (e q) a g = false
  | 0 => ⟨fun _ q _ h => by omega, fun _ => rfl⟩
  | n + 1 => by
    have ih := endN_none e a g i n
    unfold endN
    constructor
    · intro h q h1 h2
      split at h
      · omega
      · rename_i hc
        have h3 := ih.1 h
        by_cases hq : q = n
        · subst hq
          cases hE : endsP (e q) a g
          · rfl
          · exact (hc ⟨h, h1, hE⟩).elim
        · exact h3 q h1 (by omega)
    · intro h
      have h3 := ih.2 fun q h1 h2 => h q h1 (by omega)
      rw [if_neg]
      · exact h3
      · rintro ⟨_, h4, h5⟩
        rw [h n h4 (by omega)] at h5
        cases h5
theorem endN_some (e : Nat → Ev) (a g : Int) (i : Nat) : ∀ n, endN e a g i n ≠ -1 → ∃ q : Nat, endN e a g i n = q ∧ i ≤ q ∧ q < n ∧ endsP (e q) a g = true
  | 0, h => (h rfl).elim
  | n + 1, h => by
    unfold endN at h ⊢
    split
    · rename_i hc
      exact ⟨n, rfl, hc.2.1, by omega, hc.2.2⟩
    · rename_i hc
      rw [if_neg hc] at h
      obtain ⟨q, h1, h2, h3, h4⟩ := endN_some e a g i n h
      exact ⟨q, h1, h2, by omega, h4⟩
theorem endN_grow (e : Nat → Ev) (a g : Int) (i m : Nat) (hm : endN e a g i m ≠ -1) : ∀ n, m ≤ n → endN e a g i n = endN e a g i m
  | 0, h => by
    have : m = 0 := by omega
    subst this; rfl
  | n + 1, h => by
    by_cases he : m = n + 1
    · subst he; rfl
    · have ih := endN_grow e a g i m hm n (by omega)
      have e1 : endN e a g i (n + 1) = if endN e a g i n = -1 ∧ i ≤ n ∧ endsP (e n) a g = true then (n : Int) else endN e a g i n := rfl
      rw [e1, if_neg (by rw [ih]; exact fun hc => hm hc.1), ih]
theorem endN_later (e : Nat → Ev) (a g : Int) (i m n : Nat) (h0 : endN e a g i m = -1) (hn : endN e a g i n ≠ -1) : ∃ q : Nat, endN e a g i n = q ∧ m ≤ q ∧ q < n := by
  obtain ⟨q, h1, h2, h3, h4⟩ := endN_some e a g i n hn
  refine ⟨q, h1, ?_, h3⟩
  by_cases hq : m ≤ q
  · exact hq
  · have := (endN_none e a g i m).1 h0 q h2 (by omega)
    rw [this] at h4
    cases h4
theorem endN_early (e : Nat → Ev) (a g : Int) (i n : Nat) (h : n ≤ i) : endN e a g i n = -1 := (endN_none e a g i n).2 fun q h1 h2 => by omega

theorem starts_succ (e : Nat → Ev) (n : Nat) : starts e (n + 1) = starts e n ++ if startP e n = true then [n] else [] := by
  unfold starts
  rw [List.range_succ, List.filter_append]
  congr 1
  simp only [List.filter_cons, List.filter_nil]
theorem mem_starts {e : Nat → Ev} {n i : Nat} : i ∈ starts e n ↔ i < n ∧ startP e i = true := by
  unfold starts
  rw [List.mem_filter, List.mem_range]
theorem mkS_succ (e : Nat → Ev) (n i : Nat) (h : i < n) : mkS e (n + 1) i = closeS (e n) n (mkS e n i) := by
  unfold mkS closeS
  have e1 : endN e (e i).who (e i).group (i + 1) (n + 1) = if endN e (e i).who (e i).group (i + 1) n = -1 ∧ i + 1 ≤ n ∧ endsP (e n) (e i).who (e i).group = true then (n : Int) else endN e (e i).who (e i).group (i + 1) n := rfl
  rw [e1]
  dsimp only
  by_cases hc : endN e (e i).who (e i).group (i + 1) n = -1 ∧ endsP (e n) (e i).who (e i).group = true
  · rw [if_pos ⟨hc.1, by omega, hc.2⟩, if_pos hc]
  · rw [if_neg fun h => hc ⟨h.1, h.2.2⟩, if_neg hc]
theorem mkS_new (e : Nat → Ev) (n : Nat) : mkS e (n + 1) n = ⟨(e n).who, (e n).group, n, -1⟩ := by
  unfold mkS
  rw [endN_early e _ _ _ _ (Nat.le_refl _)]
theorem stays_succ (e : Nat → Ev) (n : Nat) : stays e (n + 1) = (stays e n).map (closeS (e n) n) ++ if startP e n = true then [⟨(e n).who, (e n).group, n, -1⟩] else [] := by
  unfold stays
  rw [starts_succ, List.map_append, List.map_map]
  congr 1
  · apply List.map_congr_left
    intro i hi
    exact mkS_succ e n i (mem_starts.1 hi).1
  · split
    · simp only [List.map_cons, List.map_nil, mkS_new]
    · rfl
/-- An account is in the group exactly if a stay is open. -/
theorem in_open (e : Nat → Ev) (a g : Int) : ∀ n, inN e a g n = true ↔ ∃ i, i < n ∧ startP e i = true ∧ (e i).who = a ∧ (e i).group = g ∧ endN e a g (i + 1) n = -1
  | 0 => ⟨fun h => (by cases h), fun ⟨i, h, _⟩ => (by omega)⟩
  | n + 1 => by
    have ih := in_open e a g n
    unfold inN
    by_cases hj : joinP (e n) a g = true
    · rw [if_pos hj]
      refine ⟨fun _ => ?_, fun _ => rfl⟩
      unfold joinP at hj
      simp only [Bool.and_eq_true, beq_iff_eq] at hj
      obtain ⟨⟨hk, hw⟩, hg⟩ := hj
      cases hin : inN e a g n with
      | true =>
        obtain ⟨i, h1, h2, h3, h4, h5⟩ := ih.1 hin
        refine ⟨i, by omega, h2, h3, h4, ?_⟩
        unfold endN
        rw [if_neg (by rw [join_not_end hk]; rintro ⟨_, _, h⟩; cases h)]
        exact h5
      | false =>
        refine ⟨n, by omega, ?_, hw, hg, endN_early _ _ _ _ _ (Nat.le_refl _)⟩
        unfold startP
        rw [hk, hw, hg, hin]
        rfl
    · rw [if_neg hj]
      by_cases he : endsP (e n) a g = true
      · rw [if_pos he]
        refine ⟨fun h => (by cases h), ?_⟩
        rintro ⟨i, h1, h2, h3, h4, h5⟩
        by_cases hi : i = n
        · subst hi
          unfold startP at h2
          rw [Bool.and_eq_true, beq_iff_eq] at h2
          rw [join_not_end h2.1] at he
          cases he
        · have := (endN_none e a g (i + 1) (n + 1)).1 h5 n (by omega) (by omega)
          rw [this] at he
          cases he
      · rw [if_neg he, ih]
        constructor
        · rintro ⟨i, h1, h2, h3, h4, h5⟩
          refine ⟨i, by omega, h2, h3, h4, ?_⟩
          unfold endN
          rw [if_neg (fun h => he h.2.2)]
          exact h5
        · rintro ⟨i, h1, h2, h3, h4, h5⟩
          have hi : i ≠ n := by
            rintro rfl
            apply hj
            unfold startP at h2
            rw [Bool.and_eq_true, beq_iff_eq] at h2
            unfold joinP
            rw [h2.1, h3, h4]
            simp
          refine ⟨i, by omega, h2, h3, h4, ?_⟩
          rw [endN_none] at h5 ⊢
          exact fun q h6 h7 => h5 q h6 (by omega)
/-- Of two stays of one account in one group the first one has ended before the second one begins. -/
theorem apart {e : Nat → Ev} {i j : Nat} (hi : startP e i = true) (hj : startP e j = true) (hij : i < j) (hw : (e i).who = (e j).who) (hg : (e i).group = (e j).group) {n : Nat} (hn : j ≤ n) :
    ∃ q : Nat, endN e (e i).who (e i).group (i + 1) n = q ∧ i < q ∧ q < j := by
  have h1 : endN e (e i).who (e i).group (i + 1) j ≠ -1 := by
    intro h
    have h2 := (in_open e (e i).who (e i).group j).2 ⟨i, hij, hi, rfl, rfl, h⟩
    unfold startP at hj
    rw [← hw, ← hg, h2] at hj
    simp at hj
  obtain ⟨q, h2, h3, h4, _⟩ := endN_some e _ _ _ j h1
  exact ⟨q, by rw [endN_grow e _ _ _ _ h1 n hn, h2], by omega, h4⟩
theorem open_one {e : Nat → Ev} {i j n : Nat} (hi : startP e i = true) (hj : startP e j = true) (hin : i < n) (hjn : j < n) (hw : (e i).who = (e j).who) (hg : (e i).group = (e j).group)
    (h1 : endN e (e i).who (e i).group (i + 1) n = -1) (h2 : endN e (e j).who (e j).group (j + 1) n = -1) : i = j := by
  rcases Nat.lt_trichotomy i j with h | h | h
  · obtain ⟨q, h3, _⟩ := apart hi hj h hw hg (by omega : j ≤ n)
    omega
  · exact h
  · obtain ⟨q, h3, _⟩ := apart hj hi h hw.symm hg.symm (by omega : i ≤ n)
    omega

/-! ### only the events before count -/
theorem inN_congr {e f : Nat → Ev} {a g : Int} : ∀ {n : Nat}, (∀ i, i < n → e i = f i) → inN e a g n = inN f a g n
  | 0, _ => rfl
  | n + 1, h => by
    unfold inN
    rw [h n (by omega), inN_congr (n := n) fun i hi => h i (by omega)]
theorem startP_congr {e f : Nat → Ev} {n i : Nat} (h : ∀ i, i < n → e i = f i) (hi : i < n) : startP e i = startP f i := by
  unfold startP
  rw [h i hi, inN_congr fun j hj => h j (by omega)]
theorem endN_congr {e f : Nat → Ev} {a g : Int} {i : Nat} : ∀ {n : Nat}, (∀ i, i < n → e i = f i) → endN e a g i n = endN f a g i n
  | 0, _ => rfl
  | n + 1, h => by
    unfold endN
    rw [h n (by omega), endN_congr (n := n) fun i hi => h i (by omega)]
theorem starts_congr {e f : Nat → Ev} {n : Nat} (h : ∀ i, i < n → e i = f i) : starts e n = starts f n := by
  unfold starts
  apply List.filter_congr
  intro i hi
  exact startP_congr h (List.mem_range.1 hi)
theorem stays_congr {e f : Nat → Ev} {n : Nat} (h : ∀ i, i < n → e i = f i) : stays e n = stays f n := by
  unfold stays
  rw [starts_congr h]
  apply List.map_congr_left
  intro i hi
  have hi := (mem_starts.1 hi).1
  unfold mkS
  rw [h i hi, endN_congr h]
theorem starts_split (e : Nat → Ev) (m : Nat) : ∀ n, m ≤ n → ∃ rest, starts e n = starts e m ++ rest ∧ ∀ i ∈ rest, m ≤ i ∧ i < n
  | 0, h => by
    have : m = 0 := by omega
    subst this
    exact ⟨[], by simp, fun i hi => (by cases hi)⟩
  | n + 1, h => by
    by_cases he : m = n + 1
    · subst he
      exact ⟨[], by simp, fun i hi => (by cases hi)⟩
    · obtain ⟨rest, h1, h2⟩ := starts_split e m n (by omega)
      refine ⟨rest ++ if startP e n = true then [n] else [], by rw [starts_succ, h1, List.append_assoc], fun i hi => ?_⟩
      rcases List.mem_append.1 hi with hi | hi
      · have := h2 i hi; omega
      · split at hi
        · simp at hi; omega
        · cases hi
theorem starts_asc (e : Nat → Ev) (n : Nat) : (starts e n).Pairwise (· < ·) := List.pairwise_lt_range.filter _
theorem starts_len (e : Nat → Ev) (n : Nat) : (starts e n).length ≤ n := by
  unfold starts
  refine Nat.le_trans (List.length_filter_le _ _) ?_
  simp
theorem stays_len (e : Nat → Ev) (n : Nat) : (stays e n).length ≤ n := by
  unfold stays
  rw [List.length_map]
  exact starts_len e n

/-! ### the members -/
def openA (g : Int) (s : Sta) : Bool := s.grp == g && s.to == -1
def membL (e : Nat → Ev) (g : Int) (m : Nat) : List Int := ((stays e m).filter (openA g)).map Sta.acc
theorem mem_membL {e : Nat → Ev} {g a : Int} {m : Nat} : a ∈ membL e g m ↔ inN e a g m = true := by
  unfold membL stays openA
  rw [in_open]
  simp only [List.mem_map, List.mem_filter, Bool.and_eq_true, beq_iff_eq]
  constructor
  · rintro ⟨s, ⟨⟨i, hi, rfl⟩, h1, h2⟩, rfl⟩
    have hi := mem_starts.1 hi
    have h1 : (e i).group = g := h1
    subst h1
    exact ⟨i, hi.1, hi.2, rfl, rfl, h2⟩
  · rintro ⟨i, h1, h2, h3, h4, h5⟩
    subst h3 h4
    exact ⟨mkS e m i, ⟨⟨i, mem_starts.2 ⟨h1, h2⟩, rfl⟩, rfl, h5⟩, rfl⟩
theorem membL_nodup (e : Nat → Ev) (g : Int) (m : Nat) : (membL e g m).Nodup := by
  unfold membL stays
  rw [List.filter_map, List.map_map]
  rw [List.nodup_iff_pairwise_ne, List.pairwise_map]
  refine List.Pairwise.imp_of_mem ?_ ((starts_asc e m).filter _)
  intro i j hi hj hij
  rw [List.mem_filter] at hi hj
  have h1 := mem_starts.1 hi.1
  have h2 := mem_starts.1 hj.1
  have o1 := hi.2
  have o2 := hj.2
  unfold openA at o1 o2
  simp only [Function.comp, Bool.and_eq_true, beq_iff_eq] at o1 o2
  intro he
  have he : (e i).who = (e j).who := he
  have := open_one h1.2 h2.2 h1.1 h2.1 he (o1.1.trans o2.1.symm) o1.2 o2.2
  omega
theorem ascExt {a b : List Int} (ha : a.Pairwise (· < ·)) (hb : b.Pairwise (· < ·)) (h : ∀ k, k ∈ a ↔ k ∈ b) : a = b := by
  have hp : a.Perm b := (List.perm_ext_iff_of_nodup (ha.imp fun hab => by omega) (hb.imp fun hab => by omega)).2 h
  rw [← sortI_asc ha, ← sortI_asc hb]
  exact Go.mergeSort_of_perm_i hp
def insL (m : List Int) : List Int := m.foldl ins []
theorem insL_snoc (m : List Int) (n : Int) : insL (m ++ [n]) = ins (insL m) n := by
  unfold insL
  rw [List.foldl_append]
  rfl
theorem insL_inv (m : List Int) : (insL m).Pairwise (· < ·) ∧ ∀ x, x ∈ insL m ↔ x ∈ m := by
  have : ∀ (m o : List Int), o.Pairwise (· < ·) → (m.foldl ins o).Pairwise (· < ·) ∧ ∀ x, x ∈ m.foldl ins o ↔ x ∈ o ∨ x ∈ m := by
    intro m
    induction m with
    | nil => intro o ho; exact ⟨ho, by simp⟩
    | cons a r ih =>
      intro o ho
      obtain ⟨h1, h2⟩ := ih (ins o a) (ins_asc ho a)
      refine ⟨h1, fun x => ?_⟩
      rw [List.foldl_cons, h2, ins_mem, List.mem_cons]
      constructor
      · rintro ((h | h) | h)
        · exact .inr (.inl h)
        · exact .inl h
        · exact .inr (.inr h)
      · rintro (h | h | h)
        · exact .inl (.inr h)
        · exact .inl (.inl h)
        · exact .inr h
  obtain ⟨h1, h2⟩ := this m [] List.Pairwise.nil
  exact ⟨h1, fun x => by rw [show insL m = m.foldl ins [] from rfl, h2]; simp⟩
theorem insL_len (m : List Int) : (insL m).length ≤ m.length := by
  have : ∀ (m o : List Int), (m.foldl ins o).length ≤ o.length + m.length := by
    intro m
    induction m with
    | nil => intro o; simp
    | cons a r ih =>
      intro o
      have h1 := ih (ins o a)
      have h2 := ins_len o a
      simp only [List.foldl_cons, List.length_cons]
      omega
  have h := this m []
  simpa [insL] using h
/-- The members, ascending, each once. -/
def Memb (e : Nat → Ev) (g : Int) (m : Nat) : List Int := insL (membL e g m)
theorem Memb_asc (e : Nat → Ev) (g : Int) (m : Nat) : (Memb e g m).Pairwise (· < ·) := (insL_inv _).1
theorem mem_Memb {e : Nat → Ev} {g a : Int} {m : Nat} : a ∈ Memb e g m ↔ inN e a g m = true := ((insL_inv _).2 a).trans mem_membL
theorem Memb_length (e : Nat → Ev) (g : Int) (m : Nat) : (Memb e g m).length = (membL e g m).length := by
  have hp : (Memb e g m).Perm (membL e g m) := (List.perm_ext_iff_of_nodup ((Memb_asc e g m).imp fun hab => by omega) (membL_nodup e g m)).2 fun a => by rw [mem_Memb, mem_membL]
  exact hp.length_eq
theorem Memb_len (e : Nat → Ev) (g : Int) (m : Nat) : (Memb e g m).length ≤ m := by
  rw [Memb_length]
  unfold membL
  rw [List.length_map]
  exact Nat.le_trans (List.length_filter_le _ _) (stays_len e m)

/-! ### the rights -/
structure Gra where
  grp : Int
  per : Int
  rig : Int
def dG : Gra := ⟨0, 0, 0⟩
def roleP (e : Ev) (g p : Int) : Bool := e.kind == 9 && e.group == g && e.who == p
def bitsG (l : List Gra) (g p : Int) : Int := l.foldl (fun r x => if (x.grp == g && x.per == p) = true then bitsI .or .i64 r x.rig else r) 0
def rightsN (b : Int) (e : Nat → Ev) (g p : Int) : Nat → Int
  | 0 => b
  | k + 1 => if roleP (e k) g p = true then (e k).n else rightsN b e g p k
theorem rightsN_congr {b : Int} {e f : Nat → Ev} {g p : Int} : ∀ {n : Nat}, (∀ i, i < n → e i = f i) → rightsN b e g p n = rightsN b f g p n
  | 0, _ => rfl
  | n + 1, h => by
    unfold rightsN
    rw [h n (by omega), rightsN_congr (n := n) fun i hi => h i (by omega)]
def evs (l : List Ev) (i : Nat) : Ev := l.getD i dE
/-- How many events there are before. -/
def cut (l : List Ev) (t : Int) : Nat := (max 0 (min t l.length)).toNat
theorem cut_le (l : List Ev) (t : Int) : cut l t ≤ l.length := by unfold cut; omega
theorem evs_take (l : List Ev) (m : Nat) : ∀ i, i < m → evs (l.take m) i = evs l i := fun i hi => take_getD dE l m i hi
end Go.Proofs.Ytklmfkejgjhneaa
