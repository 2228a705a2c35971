/-
  Bridges: the law on ranks.
-/
import Derived.Test.YtklmfkejgjhneaaR12
namespace Go.Proofs.Ytklmfkejgjhneaa
open Go.Eng

/-- Networks passed, the last one first. -/
inductive Wk (B : List Bri) (o : List Int) (n : Int) : List Int → Int → Prop
  | one {v : Int} (h0 : 0 ≤ v) (h1 : v < n) : Wk B o n [] v
  | step {l : List Int} {i : Int} (h : Wk B o n l (br B i).fr) (hi : i ∈ o) : Wk B o n ((br B i).fr :: l) (br B i).to
section
variable {B : List Bri} {n : Int} {o : List Int}
theorem Wk.from {l : List Int} {v : Int} (h : Wk B o n l v) : ∀ x ∈ l, ∃ i ∈ o, Rch (Ed B o) x (br B i).fr ∧ (br B i).to = v := by
  induction h with
  | one => intro x hx; cases hx
  | step h hi ih =>
    rename_i l i
    intro x hx
    rcases List.mem_cons.1 hx with rfl | hx
    · exact ⟨i, hi, .refl, rfl⟩
    · obtain ⟨j, hj, h1, h2⟩ := ih x hx
      refine ⟨i, hi, ?_, rfl⟩
      exact h1.step ⟨j, hj, rfl, h2⟩
theorem Wk.node (hV : Valid B n) (hO : OkO B o) {l : List Int} {v : Int} (h : Wk B o n l v) : (0 ≤ v ∧ v < n) ∧ ∀ x ∈ l, 0 ≤ x ∧ x < n := by
  induction h with
  | one h0 h1 => exact ⟨⟨h0, h1⟩, fun x hx => by cases hx⟩
  | step h hi ih =>
    refine ⟨⟨(hV.br (hO _ hi)).2.2.1, (hV.br (hO _ hi)).2.2.2⟩, fun x hx => ?_⟩
    rcases List.mem_cons.1 hx with rfl | hx
    · exact ih.1
    · exact ih.2 x hx
theorem Wk.nodup (hA : Acy B o) {l : List Int} {v : Int} (h : Wk B o n l v) : (v :: l).Nodup := by
  induction h with
  | one => exact List.nodup_cons.2 ⟨fun h => (by cases h), List.nodup_nil⟩
  | step h hi ih =>
    rename_i l i
    refine List.nodup_cons.2 ⟨fun hm => ?_, ih⟩
    have h2 := (Wk.step h hi).from _ hm
    obtain ⟨j, hj, h3, h4⟩ := h2
    rw [← h4] at h3
    exact hA j hj h3
theorem Wk.len (hV : Valid B n) (hO : OkO B o) (hA : Acy B o) {l : List Int} {v : Int} (h : Wk B o n l v) : (l.length : Int) < n := by
  have h1 := h.node hV hO
  have h2 := nodup_len (m := n.toNat) (h.nodup hA) fun x hx => by
    have hl := hV.lo
    rcases List.mem_cons.1 hx with rfl | hx
    · omega
    · have := h1.2 x hx
      omega
  rw [List.length_cons] at h2
  have hl := hV.lo
  omega
/-- Each rank is a walk's length. -/
def RWk (B : List Bri) (o : List Int) (n : Int) (R : List Int) : Prop := ∀ v : Int, 0 ≤ v → v < n → ∃ l, Wk B o n l v ∧ R.getD v.toNat 0 = (l.length : Int)
theorem RWk.step (hV : Valid B n) (hO : OkO B o) {R : List Int} (hR : R.length = n.toNat) (h : RWk B o n R) {i : Int} (hi : i ∈ o) : RWk B o n (rankStep B R i) := by
  intro v h0 h1
  have hb := hV.br (hO _ hi)
  unfold rankStep
  rw [getD_setD 0 R _ _ (by omega)]
  by_cases hv : v.toNat = (br B i).to.toNat
  · rw [if_pos hv]
    obtain rfl : v = (br B i).to := by omega
    obtain ⟨l1, w1, e1⟩ := h _ hb.2.2.1 hb.2.2.2
    obtain ⟨l2, w2, e2⟩ := h _ hb.1 hb.2.1
    by_cases hm : R.getD (br B i).fr.toNat 0 + 1 ≤ R.getD (br B i).to.toNat 0
    · exact ⟨l1, w1, by omega⟩
    · exact ⟨_, w2.step hi, by rw [List.length_cons]; omega⟩
  · rw [if_neg hv]
    exact h v h0 h1
theorem RWk.round (hV : Valid B n) (hO : OkO B o) : ∀ (p : List Int), (∀ i ∈ p, i ∈ o) → ∀ {R : List Int}, R.length = n.toNat → RWk B o n R → RWk B o n (rankRound B p R)
  | [], _, _, _, h => h
  | i :: r, hp, R, hR, h => RWk.round hV hO r (fun j hj => hp j (List.mem_cons_of_mem _ hj)) (by rw [rankStep_len, hR]) (h.step hV hO hR (hp i (by simp)))
theorem RWk.it (hV : Valid B n) (hO : OkO B o) : ∀ k, RWk B o n (rankIt B o (List.replicate n.toNat 0) k)
  | 0 => fun v h0 h1 => ⟨[], .one h0 h1, by
    show (List.replicate n.toNat (0 : Int)).getD v.toNat 0 = 0
    exact getD_repl⟩
  | k + 1 => (RWk.it hV hO k).round hV hO o (fun _ h => h) (by rw [rankIt_len, List.length_replicate])
theorem rankStep_mono (B : List Bri) (R : List Int) (i : Int) (j : Nat) : R.getD j 0 ≤ (rankStep B R i).getD j 0 := by
  unfold rankStep
  by_cases ht : (br B i).to.toNat < R.length
  · rw [getD_setD 0 R _ _ ht]
    split
    · rename_i e
      rw [e]
      omega
    · omega
  · rw [List.set_eq_of_length_le (by omega)]
    omega
theorem rankRound_mono (B : List Bri) : ∀ (p : List Int) (R : List Int) (j : Nat), R.getD j 0 ≤ (rankRound B p R).getD j 0
  | [], _R, _j => Int.le_refl _
  | i :: r, R, j => Int.le_trans (rankStep_mono B R i j) (rankRound_mono B r (rankStep B R i) j)
theorem rankRound_gets (B : List Bri) : ∀ (p : List Int) (R : List Int) {i : Int}, i ∈ p → (br B i).to.toNat < R.length → R.getD (br B i).fr.toNat 0 + 1 ≤ (rankRound B p R).getD (br B i).to.toNat 0
  | j :: r, R, i, hi, hl => by
    rcases List.mem_cons.1 hi with rfl | hi
    · refine Int.le_trans ?_ (rankRound_mono B r (rankStep B R i) _)
      unfold rankStep
      rw [getD_setD 0 R _ _ hl, if_pos rfl]
      omega
    · have h1 := rankRound_gets B r (rankStep B R j) hi (by rw [rankStep_len]; exact hl)
      have h2 := rankStep_mono B R j (br B i).fr.toNat
      have e : rankRound B (j :: r) R = rankRound B r (rankStep B R j) := rfl
      rw [e]
      omega
theorem rank_walk (hV : Valid B n) (hO : OkO B o) {l : List Int} {v : Int} (h : Wk B o n l v) : ∀ k, l.length ≤ k → (l.length : Int) ≤ (rankIt B o (List.replicate n.toNat 0) k).getD v.toNat 0 := by
  induction h with
  | one h0 h1 =>
    intro k _
    obtain ⟨l, _, e⟩ := RWk.it (o := o) hV hO k _ h0 h1
    rw [e]
    exact Int.ofNat_le.2 (Nat.zero_le _)
  | step h hi ih =>
    rename_i l i
    intro k hk
    cases k with
    | zero => simp at hk
    | succ k =>
      have h1 := ih k (by simpa using hk)
      have hb := hV.br (hO _ hi)
      have h2 := rankRound_gets B o (rankIt B o (List.replicate n.toNat 0) k) hi (by rw [rankIt_len, List.length_replicate]; omega)
      have e : rankIt B o (List.replicate n.toNat 0) (k + 1) = rankRound B o (rankIt B o (List.replicate n.toNat 0) k) := rfl
      rw [e, List.length_cons]
      omega
/-- What ranks are good for. -/
theorem ranks_up (hV : Valid B n) (hO : OkO B o) (hA : Acy B o) {i : Int} (hi : i ∈ o) : (ranksL B o n).getD (br B i).fr.toNat 0 < (ranksL B o n).getD (br B i).to.toNat 0 := by
  have hb := hV.br (hO _ hi)
  obtain ⟨l, w, e⟩ := RWk.it (o := o) hV hO n.toNat _ hb.1 hb.2.1
  have w2 := w.step hi
  have h1 := w2.len hV hO hA
  have h2 := rank_walk hV hO w2 n.toNat (by omega)
  rw [List.length_cons] at h2
  unfold ranksL
  omega
theorem ranks_lt (hV : Valid B n) (hO : OkO B o) (hA : Acy B o) {v : Int} (h0 : 0 ≤ v) (h1 : v < n) : 0 ≤ (ranksL B o n).getD v.toNat 0 ∧ (ranksL B o n).getD v.toNat 0 < n := by
  obtain ⟨l, w, e⟩ := RWk.it (o := o) hV hO n.toNat _ h0 h1
  have := w.len hV hO hA
  unfold ranksL
  omega
end
/-- What the second round keeps. -/
structure PO (B : List Bri) (o0 : List Int) (k : Nat) (o c : List Int) : Prop where
  acy : Acy B o
  ok : OkO B o
  sub : ∀ i ∈ o0, i ∈ o
  oin : ∀ i ∈ o, i ∈ o0 ∨ ((0 ≤ i ∧ i < k) ∧ (br B i).own = true)
  part : ∀ i : Int, (0 ≤ i ∧ i < k) → (br B i).own = true → (i ∈ o ↔ i ∉ c)
  cin : ∀ i ∈ c, (0 ≤ i ∧ i < k) ∧ (br B i).own = true
  casc : c.Pairwise (· < ·)
  cr : ∀ i ∈ c, Rch (Ed B o) (br B i).to (br B i).fr
theorem passO_po {B : List Bri} {n : Int} (hV : Valid B n) {o0 : List Int} (h0 : OkO B o0) (hown : ∀ i ∈ o0, (br B i).own = false) (hA : Acy B o0) : ∀ k, k ≤ B.length → PO B o0 k (passO B o0 k).1 (passO B o0 k).2
  | 0, _ => ⟨hA, h0, fun _ h => h, fun _ h => .inl h, fun i (h : 0 ≤ i ∧ i < ((0 : Nat) : Int)) => (by omega), fun i hi => (by cases hi), List.Pairwise.nil, fun i hi => (by cases hi)⟩
  | k + 1, hk => by
    have ih := passO_po hV h0 hown hA k (by omega)
    have hr := reach_at hV ih.ok (i := (k : Int)) ⟨by omega, by omega⟩
    rw [passO_succ]
    generalize passO B o0 k = s at *
    obtain ⟨o, c⟩ := s
    dsimp only at ih hr ⊢
    have hne : ∀ i : Int, (0 ≤ i ∧ i < ((k + 1 : Nat) : Int)) → i ≠ (k : Int) → 0 ≤ i ∧ i < (k : Int) := fun i h1 h2 => by omega
    split
    · rename_i hw
      refine ⟨ih.acy, ih.ok, ih.sub, fun i hi => ?_, fun i hi ho => ?_, fun i hi => ?_, ih.casc, ih.cr⟩
      · rcases ih.oin i hi with h | ⟨h1, h2⟩
        · exact .inl h
        · exact .inr ⟨by omega, h2⟩
      · refine ih.part i (hne i hi fun e => ?_) ho
        subst e
        rw [hw] at ho
        cases ho
      · have := ih.cin i hi
        exact ⟨by omega, this.2⟩
    · rename_i hw
      have hw : (br B k).own = true := by simpa using hw
      have hko : (k : Int) ∉ o := fun h => by
        rcases ih.oin _ h with h | ⟨h1, _⟩
        · rw [hown _ h] at hw; cases hw
        · omega
      have hkc : (k : Int) ∉ c := fun h => by
        have := (ih.cin _ h).1
        omega
      split
      · rename_i hq
        refine ⟨ih.acy, ih.ok, ih.sub, fun i hi => ?_, fun i hi ho => ?_, fun i hi => ?_, ?_, fun i hi => ?_⟩
        · rcases ih.oin i hi with h | ⟨h1, h2⟩
          · exact .inl h
          · exact .inr ⟨by omega, h2⟩
        · by_cases e : i = (k : Int)
          · subst e
            exact ⟨fun h => (hko h).elim, fun h => (h (List.mem_append_right _ (List.mem_singleton.2 rfl))).elim⟩
          · rw [ih.part i (hne i hi e) ho, List.mem_append, List.mem_singleton]
            exact ⟨fun h1 h2 => h2.elim h1 e, fun h1 h2 => h1 (.inl h2)⟩
        · rcases List.mem_append.1 hi with hi | hi
          · have := ih.cin i hi
            exact ⟨by omega, this.2⟩
          · rw [List.mem_singleton.1 hi]
            exact ⟨by omega, hw⟩
        · rw [List.pairwise_append]
          refine ⟨ih.casc, List.pairwise_singleton _ _, fun x hx y hy => ?_⟩
          rw [List.mem_singleton.1 hy]
          exact (ih.cin x hx).1.2
        · rcases List.mem_append.1 hi with hi | hi
          · exact ih.cr i hi
          · rw [List.mem_singleton.1 hi]
            exact hr.1 hq
      · rename_i hq
        refine ⟨ih.acy.add fun h => hq (hr.2 h), fun i hi => ?_, fun i hi => List.mem_append_left _ (ih.sub i hi), fun i hi => ?_, fun i hi ho => ?_, fun i hi => ?_, ih.casc, fun i hi => ?_⟩
        · rcases List.mem_append.1 hi with hi | hi
          · exact ih.ok i hi
          · rw [List.mem_singleton.1 hi]
            omega
        · rcases List.mem_append.1 hi with hi | hi
          · rcases ih.oin i hi with h | ⟨h1, h2⟩
            · exact .inl h
            · exact .inr ⟨by omega, h2⟩
          · rw [List.mem_singleton.1 hi]
            exact .inr ⟨by omega, hw⟩
        · by_cases e : i = (k : Int)
          · subst e
            exact ⟨fun _ => hkc, fun _ => List.mem_append_right _ (List.mem_singleton.2 rfl)⟩
          · rw [← ih.part i (hne i hi e) ho, List.mem_append, List.mem_singleton]
            exact ⟨fun h => h.elim id fun h => (e h).elim, .inl⟩
        · have := ih.cin i hi
          exact ⟨by omega, this.2⟩
        · refine (ih.cr i hi).mono ?_
          rintro u v ⟨j, hj, h2⟩
          exact ⟨j, List.mem_append_left _ hj, h2⟩
/-- What Cut's cut is like. -/
structure CutOk (B : List Bri) (n : Int) (o c : List Int) : Prop where
  acy : Acy B o
  ok : OkO B o
  mem : ∀ i, i ∈ o ↔ (0 ≤ i ∧ i < B.length) ∧ i ∉ c
  cin : ∀ i ∈ c, (0 ≤ i ∧ i < B.length) ∧ (br B i).own = true
  casc : c.Pairwise (· < ·)
  cr : ∀ i ∈ c, Rch (Ed B o) (br B i).to (br B i).fr
theorem cut_ok {B : List Bri} {n : Int} (hV : Valid B n) {o c : List Int} (h : chosenB B = some (o, c)) : CutOk B n o c := by
  have h : cAll B 2 = some (o, c) := h
  rw [cAll2] at h
  cases hp : passF B B.length with
  | none => rw [hp] at h; cases h
  | some o0 =>
    rw [hp] at h
    have h : passO B o0 B.length = (o, c) := by simpa using h
    obtain ⟨g1, g2, _⟩ := passF_ok B.length (Nat.le_refl _) o0 hp
    have hm := passF_mem B.length o0 hp
    have hP := passO_po hV g1 g2 (passF_acy hV B.length (Nat.le_refl _) o0 hp) B.length (Nat.le_refl _)
    rw [h] at hP
    refine ⟨hP.acy, hP.ok, fun i => ?_, hP.cin, hP.casc, hP.cr⟩
    constructor
    · intro hi
      refine ⟨hP.ok i hi, fun hc => ?_⟩
      have h1 := hP.cin i hc
      exact (hP.part i h1.1 h1.2).1 hi hc
    · rintro ⟨h1, h2⟩
      cases ho : (br B i).own with
      | true => exact (hP.part i h1 ho).2 h2
      | false => exact hP.sub i ((hm i).2 ⟨h1, ho⟩)
theorem CutOk.check {B : List Bri} {n : Int} (hV : Valid B n) {o c : List Int} (h : CutOk B n o c) : checkV B n c (ranksL B o n) = 0 := by
  have hmem : ∀ i, i ∈ othersL B c B.length ↔ i ∈ o := fun i => by rw [mem_others, h.mem]
  unfold checkV
  have hlo := hV.lo
  have e1 : ((ranksL B o n).length : Int) = n := by
    unfold ranksL
    rw [rankIt_len, List.length_replicate]
    omega
  have e2 : (List.range c.length).any (cAt B c) = false := by
    rw [List.any_eq_false]
    intro k hk
    rw [List.mem_range] at hk
    have h1 := h.cin _ (getD_memD 0 hk)
    unfold cAt
    rw [h1.2]
    simp only [Bool.not_true, Bool.or_false, Bool.or_eq_true, Bool.and_eq_true, decide_eq_true_eq]
    rintro ((h2 | h2) | ⟨h2, h3⟩)
    · omega
    · omega
    · have := asc_at h.casc (i := k - 1) (j := k) (by omega) hk
      omega
  have e3 : (othersL B c B.length).any (upB B (ranksL B o n)) = false := by
    rw [List.any_eq_false]
    intro i hi
    have := ranks_up hV h.ok h.acy ((hmem i).1 hi)
    unfold upB
    rw [decide_eq_true_eq]
    omega
  have e4 : c.any (looseB B (othersL B c B.length)) = false := by
    rw [List.any_eq_false]
    intro i hi
    unfold looseB
    have h1 := h.cin i hi
    rw [(reach_at hV (others_ok B c) h1.1).2 ((h.cr i hi).mono fun u v => (Ed_congr hmem u v).2)]
    decide
  rw [if_neg (by rw [validB_iff.2 hV]; decide), if_neg (by rw [e1]; simp), if_neg (by rw [e2]; decide), if_neg (by rw [e3]; decide), if_neg (by rw [e4]; decide)]
end Go.Proofs.Ytklmfkejgjhneaa
