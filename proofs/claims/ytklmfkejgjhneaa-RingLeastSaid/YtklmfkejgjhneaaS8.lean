/-
  Verdicts in plain terms: the program's functions and the reference's agree.
-/
import Derived.Test.YtklmfkejgjhneaaS6
namespace Go.Proofs.Ytklmfkejgjhneaa
open Go.Eng

theorem Bad_eq (l : List Ver) (name step : Int) : Bad l name step = rBad l name step := by
  have : ∀ k, k ≤ l.length → (mget (badL (l.take k) step) name).getD false = rBadK l name step k := by
    intro k
    induction k with
    | zero => intro _; simp [badL, mget, rBadK]
    | succ k ih =>
      intro hk
      rw [badL_succ l step k (by omega)]
      have ih := ih (by omega)
      unfold rBadK
      by_cases hs : (l.getD k dV).step ≤ step
      · rw [if_pos (by simpa using hs), mget_mset]
        by_cases hn : (l.getD k dV).name = name
        · rw [if_pos hn.symm, if_pos ⟨hn, hs⟩]; rfl
        · rw [if_neg (Ne.symm hn), if_neg (fun h => hn h.1)]; exact ih
      · rw [if_neg (by simpa using hs), if_neg (fun h => hs h.2)]; exact ih
  have h := this l.length (Nat.le_refl _)
  rw [List.take_length] at h
  exact h

theorem okAt_snoc_lt (l : List Ver) (v : Ver) (j : Nat) (hj : j < l.length) : okAt (l ++ [v]) j = okAt l j := by
  have e : (l ++ [v]).getD j dV = l.getD j dV := by simp [List.getD, List.getElem?_append_left hj]
  unfold okAt lastOf
  rw [e]
  by_cases h0 : j = 0
  · rw [if_pos h0, if_pos h0]
  · rw [if_neg h0, if_neg h0]
    have e2 : (l ++ [v]).getD (j - 1) dV = l.getD (j - 1) dV := by simp only [List.getD]; rw [List.getElem?_append_left (by omega)]
    rw [e2]
theorem okAt_snoc (l : List Ver) (v : Ver) : okAt (l ++ [v]) l.length = (rightV v && !decide (v.step < lastOf l l.length)) := by
  have e : (l ++ [v]).getD l.length dV = v := by simp [List.getD]
  unfold okAt
  rw [e]
  unfold lastOf
  by_cases h0 : l.length = 0
  · rw [if_pos h0, if_pos h0]
  · rw [if_neg h0, if_neg h0]
    have e2 : (l ++ [v]).getD (l.length - 1) dV = l.getD (l.length - 1) dV := by simp only [List.getD]; rw [List.getElem?_append_left (by omega)]
    rw [e2]
theorem okV_iff (l : List Ver) : okV l = true ↔ ∀ j, j < l.length → okAt l j = true := by
  constructor
  · intro h j hj
    cases hb : okAt l j with
    | true => rfl
    | false => rw [okV_false hj hb] at h; cases h
  · exact okV_true
theorem okV_snoc (l : List Ver) (v : Ver) : okV (l ++ [v]) = (okV l && (rightV v && !decide (v.step < lastOf l l.length))) := by
  rw [Bool.eq_iff_iff, Bool.and_eq_true, okV_iff, okV_iff, ← okAt_snoc l v]
  constructor
  · intro h
    exact ⟨fun j hj => by rw [← okAt_snoc_lt l v j hj]; exact h j (by simp; omega), h l.length (by simp)⟩
  · rintro ⟨h1, h2⟩ j hj
    by_cases h : j < l.length
    · rw [okAt_snoc_lt l v j h]; exact h1 j h
    · have : j = l.length := by simp at hj; omega
      rw [this]; exact h2
theorem Add_eq (l : List Ver) (v : Ver) : addV l v = rAdd l v := by
  unfold addV rAdd rRight
  rw [okV_snoc]
  cases hv : rightV v with
  | false => simp
  | true =>
    by_cases hl : l.length > 50000
    · rw [if_pos (by simp; omega), if_pos (by rw [decide_eq_false (p := l.length ≤ 50000) (by omega)]; rfl)]
    · rw [if_neg (by simp; omega), decide_eq_true (p := l.length ≤ 50000) (by omega)]
      cases hok : okV l with
      | false => rw [if_pos (show false = false from rfl), if_pos (show (!(true && false) || !true) = true from rfl)]
      | true =>
        rw [if_neg (show ¬ (true = false) by simp), if_neg (show ¬ ((!(true && true) || !true) = true) by simp)]
        have hst := right_step hv
        by_cases hlt : v.step < lastOf l l.length
        · rw [if_pos hlt]
          unfold lastOf at hlt
          by_cases h0 : l.length = 0
          · rw [if_pos h0] at hlt; omega
          · rw [if_neg h0] at hlt
            rw [if_pos ⟨by omega, hlt⟩]
        · rw [if_neg hlt]
          have hlt2 : ¬ (0 < l.length ∧ v.step < (l.getD (l.length - 1) dV).step) := by
            rintro ⟨h1, h2⟩
            apply hlt
            unfold lastOf
            rw [if_neg (by omega)]
            exact h2
          rw [if_neg hlt2, decide_eq_false hlt]
          by_cases h5 : l.length = 50000
          · rw [if_pos h5, if_pos (by simp; omega)]
          · rw [if_neg h5, if_neg (by simp; omega)]

theorem ins_nil (n : Int) : ins [] n = [n] := by simp [ins, cntLt]
theorem ins_cons (x : Int) (r : List Int) (n : Int) : ins (x :: r) n = if x < n then x :: ins r n else if x = n then x :: r else n :: x :: r := by
  have e : cntLt (x :: r) n = if x < n then cntLt r n + 1 else 0 := rfl
  unfold ins
  rw [e]
  by_cases h : x < n
  · rw [if_pos h, if_pos h]
    simp only [List.length_cons, Nat.add_right_cancel_iff, List.getD_cons_succ, List.take_succ_cons, List.drop_succ_cons, List.cons_append]
    split <;> rfl
  · rw [if_neg h, if_neg h]
    by_cases h2 : x = n
    · simp [h2]
    · simp [h2]
theorem ins_mem (o : List Int) (n x : Int) : x ∈ ins o n ↔ x = n ∨ x ∈ o := by
  induction o with
  | nil => simp [ins_nil]
  | cons y r ih =>
    rw [ins_cons]
    by_cases h : y < n
    · rw [if_pos h, List.mem_cons, ih, List.mem_cons]
      constructor
      · rintro (h1 | h1 | h1)
        · exact .inr (.inl h1)
        · exact .inl h1
        · exact .inr (.inr h1)
      · rintro (h1 | h1 | h1)
        · exact .inr (.inl h1)
        · exact .inl h1
        · exact .inr (.inr h1)
    · rw [if_neg h]
      by_cases h2 : y = n
      · rw [if_pos h2, List.mem_cons, h2]
        constructor
        · exact .inr
        · rintro (h1 | h1)
          · exact .inl h1
          · exact h1
      · rw [if_neg h2, List.mem_cons]
theorem ins_asc {o : List Int} (h : o.Pairwise (· < ·)) (n : Int) : (ins o n).Pairwise (· < ·) := by
  induction o with
  | nil => simp [ins_nil]
  | cons y r ih =>
    rw [List.pairwise_cons] at h
    rw [ins_cons]
    by_cases h1 : y < n
    · rw [if_pos h1, List.pairwise_cons]
      refine ⟨fun x hx => ?_, ih h.2⟩
      rcases (ins_mem r n x).1 hx with rfl | hx
      · exact h1
      · exact h.1 x hx
    · rw [if_neg h1]
      by_cases h2 : y = n
      · rw [if_pos h2, List.pairwise_cons]; exact h
      · rw [if_neg h2, List.pairwise_cons, List.pairwise_cons]
        refine ⟨fun x hx => ?_, h⟩
        rcases List.mem_cons.1 hx with rfl | hx
        · omega
        · have := h.1 x hx; omega
theorem rChg_inv (l : List Ver) (f t : Int) : ∀ (m : List Ver) (o : List Int), o.Pairwise (· < ·) →
    (m.foldl (fun o v => if rBad l v.name f = rBad l v.name t then o else ins o v.name) o).Pairwise (· < ·) ∧
    ∀ k, k ∈ m.foldl (fun o v => if rBad l v.name f = rBad l v.name t then o else ins o v.name) o ↔ k ∈ o ∨ ∃ v ∈ m, v.name = k ∧ rBad l k f ≠ rBad l k t
  | [], o, h => ⟨h, by simp⟩
  | v :: r, o, h => by
    simp only [List.foldl_cons]
    have ih := rChg_inv l f t r (if rBad l v.name f = rBad l v.name t then o else ins o v.name) (by split; exact h; exact ins_asc h _)
    refine ⟨ih.1, fun k => ?_⟩
    rw [ih.2 k]
    by_cases hc : rBad l v.name f = rBad l v.name t
    · rw [if_pos hc]
      simp only [List.mem_cons, exists_eq_or_imp]
      constructor
      · rintro (h1 | h1)
        · exact .inl h1
        · exact .inr (.inr h1)
      · rintro (h1 | ⟨rfl, h2⟩ | h1)
        · exact .inl h1
        · exact (h2 hc).elim
        · exact .inr h1
    · rw [if_neg hc]
      simp only [List.mem_cons, exists_eq_or_imp, ins_mem]
      constructor
      · rintro ((h1 | h1) | h1)
        · subst h1; exact .inr (.inl ⟨rfl, hc⟩)
        · exact .inl h1
        · exact .inr (.inr h1)
      · rintro (h1 | ⟨rfl, h2⟩ | h1)
        · exact .inl (.inr h1)
        · exact .inl (.inl rfl)
        · exact .inr h1
theorem sortI_asc {o : List Int} (h : o.Pairwise (· < ·)) : sortI o = o :=
  List.mergeSort_of_pairwise (h.imp fun hab => by simp; omega)
theorem Changed_eq (l : List Ver) (f t : Int) : Changed l f t = rChg l f t l := by
  have h1 := chg_inv l f t l [] List.nodup_nil
  have h2 := rChg_inv l f t l [] List.Pairwise.nil
  have hp : (mkeys (chgL l f t l)).Perm (rChg l f t l) := by
    refine (List.perm_ext_iff_of_nodup h1.1 (h2.1.imp fun hab => by omega)).2 fun k => ?_
    have a : k ∈ mkeys (chgL l f t l) ↔ k ∈ mkeys ([] : List (Int × Bool)) ∨ ∃ v ∈ l, v.name = k ∧ Bad l k f ≠ Bad l k t := h1.2 k
    have b : k ∈ rChg l f t l ↔ k ∈ ([] : List Int) ∨ ∃ v ∈ l, v.name = k ∧ rBad l k f ≠ rBad l k t := h2.2 k
    simp only [Bad_eq] at a
    refine a.trans (Iff.trans ?_ b.symm)
    simp [mkeys]
  have : Changed l f t = sortI (rChg l f t l) := Go.mergeSort_of_perm_i hp
  have h3 : (rChg l f t l).Pairwise (· < ·) := h2.1
  rw [this, sortI_asc h3]
end Go.Proofs.Ytklmfkejgjhneaa
