/-
  RingLeast: the plain law.
-/
import Derived.Test.YtklmfkejgjhneaaR14
namespace Go.Proofs.Ytklmfkejgjhneaa
open Go.Eng

theorem rank_rch {B : List Bri} {o : List Int} {R : List Int} (h : ∀ i ∈ o, R.getD (br B i).fr.toNat 0 < R.getD (br B i).to.toNat 0) {u v : Int} (hr : Rch (Ed B o) u v) : R.getD u.toNat 0 ≤ R.getD v.toNat 0 := by
  induction hr with
  | refl => exact Int.le_refl _
  | step _ he ih =>
    obtain ⟨i, hi, rfl, rfl⟩ := he
    have := h i hi
    omega
theorem checkV_zero {B : List Bri} {n : Int} {c R : List Int} (h : checkV B n c R = 0) : (othersL B c B.length).any (upB B R) = false := by
  unfold checkV at h
  repeat' split at h
  all_goals first
    | (exact absurd h (by decide))
    | (rename_i h1 _; simpa using h1)
def lessL (c : List Int) (k : Nat) : List Int := c.take k ++ c.drop (k + 1)
theorem less_bad {B : List Bri} {n : Int} {o c : List Int} (h : CutOk B n o c) {k : Nat} (hk : k < c.length) (R : List Int) : checkV B n (lessL c k) R ≠ 0 := by
  intro hz
  have hu := checkV_zero hz
  rw [List.any_eq_false] at hu
  have hup : ∀ i ∈ othersL B (lessL c k) B.length, R.getD (br B i).fr.toNat 0 < R.getD (br B i).to.toNat 0 := by
    intro i hi
    have := hu i hi
    unfold upB at this
    rw [decide_eq_true_eq] at this
    omega
  have hi := h.cin _ (getD_memD 0 hk)
  have hr := h.cr _ (getD_memD 0 hk)
  have hsub : ∀ i ∈ lessL c k, i ∈ c := by
    intro i hi
    rcases List.mem_append.1 hi with hi | hi
    · exact List.mem_of_mem_take hi
    · exact List.mem_of_mem_drop hi
  have hnot : c.getD k 0 ∉ lessL c k := by
    intro hm
    rcases List.mem_append.1 hm with hm | hm
    · obtain ⟨q, hq, e⟩ := List.getElem_of_mem hm
      rw [List.length_take] at hq
      rw [List.getElem_take] at e
      have h1 := asc_at h.casc (i := q) (j := k) (by omega) hk
      have e2 : c.getD q 0 = c[q]'(by omega) := by simp [List.getD, show q < c.length by omega]
      omega
    · obtain ⟨q, hq, e⟩ := List.getElem_of_mem hm
      rw [List.length_drop] at hq
      rw [List.getElem_drop] at e
      have h1 := asc_at h.casc (i := k) (j := k + 1 + q) (by omega) (by omega)
      have e2 : c.getD (k + 1 + q) 0 = c[k + 1 + q]'(by omega) := by simp [List.getD, show k + 1 + q < c.length by omega]
      omega
  have h1 := hup _ (mem_others.2 ⟨hi.1, hnot⟩)
  have h2 := rank_rch (R := R) (o := o) (fun i hio => hup i (mem_others.2 ⟨h.ok i hio, fun hm => ((h.mem i).1 hio).2 (hsub i hm)⟩)) hr
  omega
def moreL (c : List Int) (i : Int) (k : Nat) : List Int := ((List.range k).filter fun q : Nat => decide ((q : Int) = i) || hasN c (q : Int)).map fun q : Nat => (q : Int)
theorem mem_more {c : List Int} {i j : Int} {k : Nat} : j ∈ moreL c i k ↔ (0 ≤ j ∧ j < k) ∧ (j = i ∨ j ∈ c) := by
  unfold moreL
  simp only [List.mem_map, List.mem_filter, List.mem_range, Bool.or_eq_true, decide_eq_true_eq, hasN_iff]
  constructor
  · rintro ⟨q, ⟨h1, h2⟩, rfl⟩
    exact ⟨⟨by omega, by omega⟩, h2⟩
  · rintro ⟨h1, h2⟩
    refine ⟨j.toNat, ⟨by omega, ?_⟩, by omega⟩
    rw [Int.toNat_of_nonneg h1.1]
    exact h2
theorem more_bad {B : List Bri} {n : Int} (hV : Valid B n) {c R : List Int} (hR : (R.length : Int) = n) {i : Int} (hi : 0 ≤ i ∧ i < B.length) (hno : ¬ Rch (Ed B (othersL B (c ++ [i]) B.length)) (br B i).to (br B i).fr) :
    checkV B n (moreL c i B.length) R = 18 := by
  have hmem : ∀ j, j ∈ othersL B (moreL c i B.length) B.length ↔ j ∈ othersL B (c ++ [i]) B.length := by
    intro j
    rw [mem_others, mem_others, mem_more, List.mem_append, List.mem_singleton]
    constructor
    · rintro ⟨h1, h2⟩
      exact ⟨h1, fun h => h2 ⟨h1, h.elim .inr .inl⟩⟩
    · rintro ⟨h1, h2⟩
      exact ⟨h1, fun h => h2 (h.2.elim .inr .inl)⟩
  have e4 : (moreL c i B.length).any (looseB B (othersL B (moreL c i B.length) B.length)) = true := by
    rw [List.any_eq_true]
    refine ⟨i, mem_more.2 ⟨hi, .inl rfl⟩, ?_⟩
    unfold looseB
    rw [Bool.not_eq_true', Bool.eq_false_iff]
    intro h
    rw [reach_at hV (others_ok B _) hi] at h
    exact hno (h.mono fun u v => (Ed_congr hmem u v).1)
  unfold checkV
  rw [if_neg (by rw [validB_iff.2 hV]; decide), if_neg (by rw [hR]; simp), if_pos e4]
  split
  · rfl
  · split <;> rfl
end Go.Proofs.Ytklmfkejgjhneaa
