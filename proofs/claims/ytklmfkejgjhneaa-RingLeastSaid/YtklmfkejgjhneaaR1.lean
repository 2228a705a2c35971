/-
  Bridges: what leads where, without the program.
-/
import Derived.Test.YtklmfkejgjhneaaEngW
import Derived.Test.YtklmfkejgjhneaaS8
namespace Go.Proofs.Ytklmfkejgjhneaa
open Go.Eng

structure Bri where
  fr : Int
  to : Int
  own : Bool
def dB : Bri := ⟨0, 0, false⟩
def br (B : List Bri) (i : Int) : Bri := B.getD i.toNat dB
def badB1 (n : Int) (b : Bri) : Bool := decide (min b.fr b.to < 0) || decide (max b.fr b.to ≥ n)
def validB (B : List Bri) (n : Int) : Bool := decide (n ≥ 1) && decide (n ≤ 12) && decide (B.length ≤ 200) && !B.any (badB1 n)
structure Valid (B : List Bri) (n : Int) : Prop where
  lo : 1 ≤ n
  hi : n ≤ 12
  len : B.length ≤ 200
  node : ∀ b ∈ B, 0 ≤ b.fr ∧ b.fr < n ∧ 0 ≤ b.to ∧ b.to < n
theorem validB_iff {B : List Bri} {n : Int} : validB B n = true ↔ Valid B n := by
  unfold validB
  simp only [Bool.and_eq_true, decide_eq_true_eq, Bool.not_eq_true', List.any_eq_false, badB1, Bool.or_eq_true]
  constructor
  · rintro ⟨⟨⟨h1, h2⟩, h3⟩, h4⟩
    refine ⟨by omega, by omega, h3, fun b hb => ?_⟩
    have := h4 b hb
    omega
  · rintro ⟨h1, h2, h3, h4⟩
    refine ⟨⟨⟨by omega, by omega⟩, h3⟩, fun b hb => ?_⟩
    have := h4 b hb
    omega
/-- Numbers of bridges. -/
def OkO (B : List Bri) (o : List Int) : Prop := ∀ i ∈ o, 0 ≤ i ∧ i < B.length
theorem br_mem {B : List Bri} {i : Int} (h : 0 ≤ i ∧ i < B.length) : br B i ∈ B := getD_memD dB (by omega)
theorem Valid.br {B : List Bri} {n : Int} (h : Valid B n) {i : Int} (hi : 0 ≤ i ∧ i < B.length) : 0 ≤ (br B i).fr ∧ (br B i).fr < n ∧ 0 ≤ (br B i).to ∧ (br B i).to < n := h.node _ (br_mem hi)

/-! ### what leads where -/
inductive Rch (E : Int → Int → Prop) (a : Int) : Int → Prop
  | refl : Rch E a a
  | step {u v : Int} (h : Rch E a u) (he : E u v) : Rch E a v
theorem Rch.trans {E : Int → Int → Prop} {a b c : Int} (h : Rch E a b) (g : Rch E b c) : Rch E a c := by
  induction g with
  | refl => exact h
  | step _ he ih => exact ih.step he
theorem Rch.mono {E F : Int → Int → Prop} {a b : Int} (h : Rch E a b) (hEF : ∀ u v, E u v → F u v) : Rch F a b := by
  induction h with
  | refl => exact .refl
  | step _ he ih => exact ih.step (hEF _ _ he)
theorem Rch.inv {E : Int → Int → Prop} {a b : Int} {p : Int → Prop} (h : Rch E a b) (ha : p a) (hE : ∀ u v, E u v → p v) : p b := by
  cases h with
  | refl => exact ha
  | step _ he => exact hE _ _ he
theorem Rch.none {E : Int → Int → Prop} {a b : Int} (h : Rch E a b) (hE : ∀ u v, ¬ E u v) : b = a := by
  cases h with
  | refl => rfl
  | step _ he => exact (hE _ _ he).elim
theorem Rch.last {E : Int → Int → Prop} {a b : Int} (h : Rch E a b) : b = a ∨ ∃ u, Rch E a u ∧ E u b ∧ u ≠ b := by
  induction h with
  | refl => exact .inl rfl
  | step h he ih =>
    rename_i u v
    by_cases huv : u = v
    · subst huv
      exact ih
    · exact .inr ⟨u, h, he, huv⟩
def Ed (B : List Bri) (o : List Int) (u v : Int) : Prop := ∃ i ∈ o, (br B i).fr = u ∧ (br B i).to = v

/-! ### the same, reckoned in rounds -/
def inStep (B : List Bri) (M : List Bool) (i : Int) : List Bool := if M.getD (br B i).fr.toNat false = true then M.set (br B i).to.toNat true else M
def inRound (B : List Bri) (o : List Int) (M : List Bool) : List Bool := o.foldl (inStep B) M
def inIt (B : List Bri) (o : List Int) (M : List Bool) : Nat → List Bool
  | 0 => M
  | k + 1 => inRound B o (inIt B o M k)
def in0 (a : Int) : List Bool := (List.replicate 12 false).set a.toNat true
def inAll (B : List Bri) (o : List Int) (a : Int) : List Bool := inIt B o (in0 a) 12
def reachB (B : List Bri) (o : List Int) (a b : Int) : Bool := (inAll B o a).getD b.toNat false
def ReachL (B : List Bri) (o : List Int) (a : Int) : List Int := ((List.range 12).filter fun k => (inAll B o a).getD k false).map fun k : Nat => (k : Int)

theorem inStep_len (B : List Bri) (M : List Bool) (i : Int) : (inStep B M i).length = M.length := by
  unfold inStep
  split <;> simp
theorem inRound_len (B : List Bri) : ∀ (o : List Int) (M : List Bool), (inRound B o M).length = M.length
  | [], M => rfl
  | i :: r, M => by
    have := inRound_len B r (inStep B M i)
    rw [inStep_len] at this
    exact this
theorem inIt_len (B : List Bri) (o : List Int) (M : List Bool) : ∀ k, (inIt B o M k).length = M.length
  | 0 => rfl
  | k + 1 => by
    show (inRound B o (inIt B o M k)).length = _
    rw [inRound_len, inIt_len B o M k]
theorem in0_len (a : Int) : (in0 a).length = 12 := by simp [in0]
theorem getD_lt_true {M : List Bool} {k : Nat} (h : M.getD k false = true) : k < M.length := by
  by_cases hk : k < M.length
  · exact hk
  · simp [List.getD, List.getElem?_eq_none (show M.length ≤ k by omega)] at h
theorem inStep_mono (B : List Bri) (M : List Bool) (i : Int) {k : Nat} (h : M.getD k false = true) : (inStep B M i).getD k false = true := by
  unfold inStep
  split
  · by_cases ht : (br B i).to.toNat < M.length
    · rw [getD_setD false M _ true ht]
      split
      · rfl
      · exact h
    · rw [List.set_eq_of_length_le (by omega)]
      exact h
  · exact h
theorem inRound_mono (B : List Bri) : ∀ (o : List Int) (M : List Bool) {k : Nat}, M.getD k false = true → (inRound B o M).getD k false = true
  | [], _M, _k, h => h
  | i :: r, M, _k, h => inRound_mono B r (inStep B M i) (inStep_mono B M i h)
theorem inIt_mono (B : List Bri) (o : List Int) (M : List Bool) {k : Nat} (h : M.getD k false = true) : ∀ q, (inIt B o M q).getD k false = true
  | 0 => h
  | q + 1 => inRound_mono B o _ (inIt_mono B o M h q)
theorem inRound_gets (B : List Bri) : ∀ (o : List Int) (M : List Bool) {i : Int}, i ∈ o → (br B i).to.toNat < M.length → M.getD (br B i).fr.toNat false = true → (inRound B o M).getD (br B i).to.toNat false = true
  | j :: r, M, i, hi, hl, hf => by
    rcases List.mem_cons.1 hi with rfl | hi
    · refine inRound_mono B r (inStep B M i) ?_
      unfold inStep
      rw [if_pos hf, getD_setD false M _ true hl, if_pos rfl]
    · exact inRound_gets B r (inStep B M j) hi (by rw [inStep_len]; exact hl) (inStep_mono B M j hf)
theorem cnt_mono : ∀ {M N : List Bool}, M.length = N.length → (∀ k, M.getD k false = true → N.getD k false = true) → M.countP id ≤ N.countP id ∧ (M ≠ N → M.countP id < N.countP id)
  | [], [], _, _ => ⟨Nat.le_refl _, fun h => (h rfl).elim⟩
  | [], _ :: _, h, _ => by simp at h
  | _ :: _, [], h, _ => by simp at h
  | x :: M, y :: N, hl, h => by
    have ih := cnt_mono (M := M) (N := N) (by simpa using hl) (fun k hk => by simpa using h (k + 1) (by simpa using hk))
    have h0 := h 0
    simp only [List.getD_cons_zero] at h0
    cases x <;> cases y
    · simp only [List.countP_cons, id, Bool.false_eq_true, if_false, Nat.add_zero]
      exact ⟨ih.1, fun hne => ih.2 fun e => hne (by rw [e])⟩
    · simp only [List.countP_cons, id, Bool.false_eq_true, if_false, if_true, Nat.add_zero]
      exact ⟨by omega, fun _ => by omega⟩
    · cases h0 rfl
    · simp only [List.countP_cons, id, if_true]
      exact ⟨by omega, fun hne => by have := ih.2 fun e => hne (by rw [e]); omega⟩
theorem in_fix (B : List Bri) (o : List Int) (M : List Bool) (h1 : 1 ≤ M.countP id) : ∀ k, inRound B o (inIt B o M k) = inIt B o M k ∨ k + 1 ≤ (inIt B o M k).countP id
  | 0 => .inr h1
  | k + 1 => by
    rcases in_fix B o M h1 k with h | h
    · left
      show inRound B o (inRound B o (inIt B o M k)) = inRound B o (inIt B o M k)
      rw [h, h]
    · by_cases he : inRound B o (inIt B o M k) = inIt B o M k
      · left
        show inRound B o (inRound B o (inIt B o M k)) = inRound B o (inIt B o M k)
        rw [he, he]
      · right
        have := (cnt_mono (M := inIt B o M k) (N := inRound B o (inIt B o M k)) (inRound_len B o _).symm (fun q hq => inRound_mono B o _ hq)).2 (Ne.symm he)
        show k + 1 + 1 ≤ (inRound B o (inIt B o M k)).countP id
        omega
theorem cnt_in0 {a : Int} (_h0 : 0 ≤ a) (h1 : a < 12) : 1 ≤ (in0 a).countP id := by
  have h : (in0 a).getD a.toNat false = true := by
    unfold in0
    rw [getD_setD false _ _ true (by simp; omega), if_pos rfl]
  have hl := getD_lt_true h
  rw [Nat.one_le_iff_ne_zero, Ne, List.countP_eq_zero]
  intro hn
  have := hn ((in0 a)[a.toNat]) (List.getElem_mem hl)
  simp only [List.getD, List.getElem?_eq_getElem hl, Option.getD_some] at h
  exact this h

section
variable {B : List Bri} {n : Int} (hV : Valid B n) {o : List Int} (hO : OkO B o) {a : Int} (h0 : 0 ≤ a) (h1 : a < n)
include hV hO
theorem inRound_sound (h0 : 0 ≤ a) : ∀ (l : List Int), (∀ i ∈ l, i ∈ o) → ∀ {M : List Bool}, (∀ k, M.getD k false = true → Rch (Ed B o) a (k : Int)) → ∀ k, (inRound B l M).getD k false = true → Rch (Ed B o) a (k : Int)
  | [], _, M, hM, k, hk => hM k hk
  | i :: r, hl, M, hM, k, hk => by
    refine inRound_sound h0 r (fun j hj => hl j (List.mem_cons_of_mem _ hj)) (M := inStep B M i) (fun q hq => ?_) k hk
    have hi := hl i (by simp)
    have hb := hV.br (hO i hi)
    unfold inStep at hq
    split at hq
    · rename_i hf
      by_cases hqt : q = (br B i).to.toNat
      · subst hqt
        have h2 := hM _ hf
        rw [Int.toNat_of_nonneg hb.1] at h2
        rw [Int.toNat_of_nonneg hb.2.2.1]
        exact h2.step ⟨i, hi, rfl, rfl⟩
      · by_cases ht : (br B i).to.toNat < M.length
        · rw [getD_setD false M _ true ht, if_neg hqt] at hq
          exact hM q hq
        · rw [List.set_eq_of_length_le (by omega)] at hq
          exact hM q hq
    · exact hM q hq
include h0 h1
theorem inIt_sound : ∀ q k, (inIt B o (in0 a) q).getD k false = true → Rch (Ed B o) a (k : Int)
  | 0, k, hk => by
    have hk : (in0 a).getD k false = true := hk
    have hl := getD_lt_true hk
    unfold in0 at hk
    have hh := hV.hi
    rw [getD_setD false _ _ true (by simp; omega)] at hk
    split at hk
    · rename_i e
      subst e
      rw [Int.toNat_of_nonneg h0]
      exact .refl
    · exfalso
      rw [in0_len] at hl
      have hf : (List.replicate 12 false).getD k false = false := by
        simp only [List.getD]
        rw [List.getElem?_replicate]
        split <;> rfl
      rw [hf] at hk
      cases hk
  | q + 1, k, hk => inRound_sound hV hO h0 o (fun _ h => h) (inIt_sound q) k hk
theorem in_closed : ∀ i ∈ o, (inAll B o a).getD (br B i).fr.toNat false = true → (inAll B o a).getD (br B i).to.toNat false = true := by
  intro i hi hf
  have hb := hV.br (hO i hi)
  have hh := hV.hi
  have hlen : (inAll B o a).length = 12 := by unfold inAll; rw [inIt_len, in0_len]
  rcases in_fix B o (in0 a) (cnt_in0 h0 (by omega)) 12 with h | h
  · have h2 := inRound_gets B o (inAll B o a) hi (by rw [hlen]; omega) hf
    have h3 : inRound B o (inAll B o a) = inAll B o a := h
    rw [h3] at h2
    exact h2
  · have h2 : (inAll B o a).countP id ≤ (inAll B o a).length := List.countP_le_length
    have h3 : 13 ≤ (inAll B o a).countP id := h
    omega
omit hO h0 in
theorem in_from : (inAll B o a).getD a.toNat false = true := by
  refine inIt_mono B o (in0 a) ?_ 12
  have hh := hV.hi
  unfold in0
  rw [getD_setD false _ _ true (by simp; omega), if_pos rfl]
theorem rch_in {b : Int} (h : Rch (Ed B o) a b) : (inAll B o a).getD b.toNat false = true := by
  induction h with
  | refl => exact in_from hV h1
  | step _ he ih =>
    obtain ⟨i, hi, rfl, rfl⟩ := he
    exact in_closed hV hO h0 h1 i hi ih
theorem rch_node {b : Int} (h : Rch (Ed B o) a b) : 0 ≤ b ∧ b < n := by
  refine h.inv (p := fun b => 0 ≤ b ∧ b < n) ⟨h0, h1⟩ ?_
  rintro u v ⟨i, hi, rfl, rfl⟩
  have := hV.br (hO i hi)
  omega
theorem reachB_iff {b : Int} (hb : 0 ≤ b) : reachB B o a b = true ↔ Rch (Ed B o) a b := by
  unfold reachB
  constructor
  · intro h
    have := inIt_sound hV hO h0 h1 12 b.toNat h
    rw [Int.toNat_of_nonneg hb] at this
    exact this
  · exact rch_in hV hO h0 h1
theorem mem_ReachL {b : Int} : b ∈ ReachL B o a ↔ Rch (Ed B o) a b := by
  unfold ReachL
  simp only [List.mem_map, List.mem_filter, List.mem_range]
  constructor
  · rintro ⟨k, ⟨_, hk⟩, rfl⟩
    exact inIt_sound hV hO h0 h1 12 k hk
  · intro h
    have hb := rch_node hV hO h0 h1 h
    have hh := hV.hi
    exact ⟨b.toNat, ⟨by omega, rch_in hV hO h0 h1 h⟩, by omega⟩
end
theorem ReachL_asc (B : List Bri) (o : List Int) (a : Int) : (ReachL B o a).Pairwise (· < ·) := by
  unfold ReachL
  rw [List.pairwise_map]
  exact (List.pairwise_lt_range.filter _).imp fun h => by omega
theorem ReachL_len (B : List Bri) (o : List Int) (a : Int) : (ReachL B o a).length ≤ 12 := by
  unfold ReachL
  rw [List.length_map]
  refine Nat.le_trans (List.length_filter_le _ _) ?_
  simp

/-! ### cuts -/
def passF (B : List Bri) : Nat → Option (List Int)
  | 0 => some []
  | k + 1 => match passF B k with
    | none => none
    | some o => if (br B k).own = true then some o else if reachB B o (br B k).to (br B k).fr = true then none else some (o ++ [(k : Int)])
def passO (B : List Bri) (o0 : List Int) : Nat → List Int × List Int
  | 0 => (o0, [])
  | k + 1 => if (br B k).own = false then passO B o0 k else
    if reachB B (passO B o0 k).1 (br B k).to (br B k).fr = true then ((passO B o0 k).1, (passO B o0 k).2 ++ [(k : Int)]) else ((passO B o0 k).1 ++ [(k : Int)], (passO B o0 k).2)
def rankStep (B : List Bri) (R : List Int) (i : Int) : List Int := R.set (br B i).to.toNat (max (R.getD (br B i).to.toNat 0) (R.getD (br B i).fr.toNat 0 + 1))
def rankRound (B : List Bri) (o : List Int) (R : List Int) : List Int := o.foldl (rankStep B) R
def rankIt (B : List Bri) (o : List Int) (R : List Int) : Nat → List Int
  | 0 => R
  | k + 1 => rankRound B o (rankIt B o R k)
def ranksL (B : List Bri) (o : List Int) (n : Int) : List Int := rankIt B o (List.replicate n.toNat 0) n.toNat
/-- What is not cut. -/
def othersL (_B : List Bri) (c : List Int) (k : Nat) : List Int := ((List.range k).filter fun i : Nat => !c.any (· == (i : Int))).map fun i : Nat => (i : Int)
theorem mem_others {B : List Bri} {c : List Int} {i : Int} : i ∈ othersL B c B.length ↔ (0 ≤ i ∧ i < B.length) ∧ i ∉ c := by
  unfold othersL
  simp only [List.mem_map, List.mem_filter, List.mem_range, Bool.not_eq_true', List.any_eq_false, beq_iff_eq]
  constructor
  · rintro ⟨k, ⟨h1, h2⟩, rfl⟩
    exact ⟨⟨by omega, by omega⟩, fun h => h2 _ h rfl⟩
  · rintro ⟨h1, h2⟩
    exact ⟨i.toNat, ⟨by omega, fun x hx he => h2 (by rw [show i = x by omega]; exact hx)⟩, by omega⟩
theorem others_ok (B : List Bri) (c : List Int) : OkO B (othersL B c B.length) := fun _ hi => (mem_others.1 hi).1
theorem Ed_congr {B : List Bri} {o p : List Int} (h : ∀ i, i ∈ o ↔ i ∈ p) : ∀ u v, Ed B o u v ↔ Ed B p u v := fun _u _v => ⟨fun ⟨i, h1, h2⟩ => ⟨i, (h i).1 h1, h2⟩, fun ⟨i, h1, h2⟩ => ⟨i, (h i).2 h1, h2⟩⟩
end Go.Proofs.Ytklmfkejgjhneaa
