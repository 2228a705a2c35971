/-
  Numbers that are in exactly one of two ascending lists.
-/
import Derived.Test.YtklmfkejgjhneaaS9
namespace Go.Proofs.Ytklmfkejgjhneaa
open Go.Eng

def oddF : Nat → List Int → List Int → List Int
  | 0, _, _ => []
  | _ + 1, [], [] => []
  | n + 1, x :: a, [] => x :: oddF n a []
  | n + 1, [], y :: b => y :: oddF n [] b
  | n + 1, x :: a, y :: b => if x < y then x :: oddF n a (y :: b) else if y < x then y :: oddF n (x :: a) b else oddF n a b
def oddL (a b : List Int) : List Int := oddF (a.length + b.length) a b
theorem oddF_nil (n : Nat) : oddF n [] [] = [] := by cases n <;> rfl
theorem oddF_len : ∀ (n : Nat) (a b : List Int), (oddF n a b).length ≤ a.length + b.length
  | 0, a, b => by simp [oddF]
  | n + 1, [], [] => by simp [oddF]
  | n + 1, x :: a, [] => by have := oddF_len n a []; simp [oddF] at this ⊢; omega
  | n + 1, [], y :: b => by have := oddF_len n [] b; simp [oddF] at this ⊢; omega
  | n + 1, x :: a, y :: b => by
    have h1 := oddF_len n a (y :: b)
    have h2 := oddF_len n (x :: a) b
    have h3 := oddF_len n a b
    simp only [oddF, List.length_cons] at *
    split
    · simp; omega
    · split
      · simp; omega
      · omega
theorem oddF_asc : ∀ (n : Nat) (a b : List Int), a.length + b.length ≤ n → a.Pairwise (· < ·) → b.Pairwise (· < ·) → (oddF n a b).Pairwise (· < ·) ∧ ∀ k, k ∈ oddF n a b ↔ (k ∈ a ∧ k ∉ b) ∨ (k ∉ a ∧ k ∈ b)
  | 0, a, b, hn, _, _ => by
    have ha : a = [] := List.eq_nil_of_length_eq_zero (by omega)
    have hb : b = [] := List.eq_nil_of_length_eq_zero (by omega)
    subst ha; subst hb
    simp [oddF]
  | n + 1, [], [], _, _, _ => by simp [oddF]
  | n + 1, x :: a, [], hn, ha, hb => by
    rw [List.pairwise_cons] at ha
    have ih := oddF_asc n a [] (by simp at hn ⊢; omega) ha.2 hb
    simp only [oddF, List.pairwise_cons, List.mem_cons]
    refine ⟨⟨fun k hk => ?_, ih.1⟩, fun k => ?_⟩
    · rcases (ih.2 k).1 hk with h | h
      · exact ha.1 k h.1
      · simp at h
    · rw [ih.2 k]
      simp
  | n + 1, [], y :: b, hn, ha, hb => by
    rw [List.pairwise_cons] at hb
    have ih := oddF_asc n [] b (by simp at hn ⊢; omega) ha hb.2
    simp only [oddF, List.pairwise_cons, List.mem_cons]
    refine ⟨⟨fun k hk => ?_, ih.1⟩, fun k => ?_⟩
    · rcases (ih.2 k).1 hk with h | h
      · simp at h
      · exact hb.1 k h.2
    · rw [ih.2 k]
      simp
  | n + 1, x :: a, y :: b, hn, ha, hb => by
    have ha' := List.pairwise_cons.1 ha
    have hb' := List.pairwise_cons.1 hb
    simp only [List.length_cons] at hn
    simp only [oddF]
    split
    · rename_i hxy
      have ih := oddF_asc n a (y :: b) (by simp; omega) ha'.2 hb
      have hxb : x ∉ y :: b := by
        intro h
        rcases List.mem_cons.1 h with h | h
        · omega
        · have := hb'.1 x h; omega
      have hxa : x ∉ a := fun h => by have := ha'.1 x h; omega
      refine ⟨List.pairwise_cons.2 ⟨fun k hk => ?_, ih.1⟩, fun k => ?_⟩
      · rcases (ih.2 k).1 hk with h | h
        · exact ha'.1 k h.1
        · rcases List.mem_cons.1 h.2 with h | h
          · omega
          · have := hb'.1 k h; omega
      · rw [List.mem_cons, ih.2 k]
        by_cases hk : k = x
        · subst hk
          simp [hxb]
        · simp [hk]
    · split
      · rename_i hxy hyx
        have ih := oddF_asc n (x :: a) b (by simp; omega) ha hb'.2
        have hya : y ∉ x :: a := by
          intro h
          rcases List.mem_cons.1 h with h | h
          · omega
          · have := ha'.1 y h; omega
        refine ⟨List.pairwise_cons.2 ⟨fun k hk => ?_, ih.1⟩, fun k => ?_⟩
        · rcases (ih.2 k).1 hk with h | h
          · rcases List.mem_cons.1 h.1 with h | h
            · omega
            · have := ha'.1 k h; omega
          · exact hb'.1 k h.2
        · rw [List.mem_cons, ih.2 k]
          by_cases hk : k = y
          · subst hk
            simp [hya]
          · simp [hk]
      · rename_i hxy hyx
        have hxe : x = y := by omega
        subst hxe
        have ih := oddF_asc n a b (by omega) ha'.2 hb'.2
        refine ⟨ih.1, fun k => ?_⟩
        rw [ih.2 k]
        by_cases hk : k = x
        · subst hk
          have h1 : k ∉ a := fun h => by have := ha'.1 k h; omega
          have h2 : k ∉ b := fun h => by have := hb'.1 k h; omega
          simp [h1, h2]
        · simp [hk]
theorem snocI (o : List Int) (n : Int) : ∀ k, k < (o ++ [n]).length → catG o.length (rowsI o) (rowOf 1 [.i .i64 n]) k = rowsI (o ++ [n]) k := by
  intro k hk
  unfold catG rowsI
  by_cases h : k < o.length
  · rw [if_pos h]
    simp [List.getD, List.getElem?_append_left h]
  · rw [if_neg h]
    have : k = o.length := by simp at hk; omega
    subst this
    simp [List.getD, rowOf]
theorem drop_getD (l : List Int) (i : Nat) (h : i < l.length) : l.drop i = l.getD i 0 :: l.drop (i + 1) := by
  rw [List.drop_eq_getElem_cons h]
  simp [List.getD, h]

set_option maxRecDepth 20000 in
set_option maxHeartbeats 8000000 in
theorem odd_fn (a b : List Int) (ha : a.length < 2 ^ 40) (hb : b.length < 2 ^ 40) : Ctr Try.prog 39 [.rs 1 a.length (rowsI a), .rs 1 b.length (rowsI b)] [.row 3 1 (oddL a b).length (rowsI (oddL a b))] (.so 0) := by
  refine fn_of_exec tabOk Try.func39 (by kernel_rfl) rfl (N := Try.f39.ntmps) rfl (res := [.tmp 4]) rfl rfl [] ?_
  refine .inl ⟨[(5, 3, 1)], Nat × Nat × List Int, fun x => x.1 ≤ a.length ∧ x.2.1 ≤ b.length ∧ x.2.2.length ≤ x.1 + x.2.1 ∧ ∃ n, a.length - x.1 + (b.length - x.2.1) ≤ n ∧ oddL a b = x.2.2 ++ oddF n (a.drop x.1) (b.drop x.2.1),
    fun x => [⟨6, [], .i .i64 x.1⟩, ⟨7, [], .i .i64 x.2.1⟩, ⟨5, [], .so 0⟩], fun x => [⟨0, [], .row 3 1 x.2.2.length (rowsI x.2.2)⟩], fun x => a.length - x.1 + (b.length - x.2.1),
    ⟨(0, 0, []), [], ⟨Nat.zero_le _, Nat.zero_le _, Nat.zero_le _, a.length + b.length, by simp, rfl⟩, rfl, rfl, rfl, rfl, rfl, ⟨⟨rfl, rfl⟩, ⟨rfl, rfl⟩, rfl⟩, ⟨rfl, rfl, rfl, fun j hj => by simp at hj⟩⟩, ?_⟩
  rintro ⟨i, k, o⟩ ⟨hi, hk, ho, n, hn, he⟩
  dsimp only at hi hk ho hn he
  have hbo : (o.length + 1) * 8 ≤ 140737488355328 := by omega
  have ei : (i : Int).toNat = i := Int.toNat_natCast i
  have ekk : (k : Int).toNat = k := Int.toNat_natCast k
  have dA : i < a.length → a.drop i = a.getD i 0 :: a.drop (i + 1) := drop_getD a i
  have dB : k < b.length → b.drop k = b.getD k 0 :: b.drop (k + 1) := drop_getD b k
  have nA : ¬ i < a.length → a.drop i = [] := fun h => List.drop_eq_nil_of_le (by first | omega | (dsimp only; omega))
  have nB : ¬ k < b.length → b.drop k = [] := fun h => List.drop_eq_nil_of_le (by first | omega | (dsimp only; omega))
  refine .inl ⟨fun hc => ?_, fun hc => ?_⟩
  · have hc : (decide ((i : Int) < a.length) || decide ((k : Int) < b.length)) = true := hc
    have hc2 : i < a.length ∨ k < b.length := by
      simp only [Bool.or_eq_true, decide_eq_true_eq] at hc
      first | omega | (dsimp only; omega)
    obtain ⟨n, rfl⟩ : ∃ m, n = m + 1 := ⟨n - 1, by first | omega | (dsimp only; omega)⟩
    have snA := snocI o (a.getD (i : Int).toNat 0)
    have snB := snocI o (b.getD (k : Int).toNat 0)
    refine ⟨fun hg => ?_, fun hg => ?_, ⟨fun h2 => ?_, fun h2 => ?_⟩⟩
    · have hg1 : decide ((i : Int) < a.length) = true := hg.1
      have hd := dlt hg1
      first | omega | (dsimp only; omega)
    · have hg2 : ((k : Int) == b.length) = false := hg.2.1
      simp at hg2
      first | omega | (dsimp only; omega)
    · have h2 : ((k : Int) == b.length || (decide ((i : Int) < a.length) && decide (a.getD (i : Int).toNat 0 < b.getD (k : Int).toNat 0))) = true := h2
      rw [ei, ekk] at h2
      simp only [Bool.or_eq_true, Bool.and_eq_true, beq_iff_eq, decide_eq_true_eq] at h2
      have hia : i < a.length := by first | omega | (dsimp only; omega)
      refine ⟨⟨by first | omega | (dsimp only; omega), by first | omega | (dsimp only; omega)⟩, hbo, ?_⟩
      refine ⟨(i + 1, k, o ++ [a.getD (i : Int).toNat 0]), [(0, 2)], ⟨by dsimp only; omega, by dsimp only; omega, by simp; omega, n, by dsimp only; omega, ?_⟩, by dsimp only; omega, rfl, rfl, rfl, rfl, rfl, ⟨⟨rfl, wr (by first | omega | (dsimp only; omega)) (by first | omega | (dsimp only; omega))⟩, ⟨rfl, rfl⟩, rfl⟩, ⟨rfl, rfl, by simp, snA⟩⟩
      rw [he, dA hia, ei]
      dsimp only
      rw [List.append_assoc]
      congr 1
      by_cases hkb : k < b.length
      · rw [dB hkb]
        have hlt : a.getD i 0 < b.getD k 0 := by
          rcases h2 with h2 | h2
          · omega
          · exact h2.2
        simp only [oddF, if_pos hlt]
        rfl
      · rw [nB hkb]
        rfl
    · have h2 : ((k : Int) == b.length || (decide ((i : Int) < a.length) && decide (a.getD (i : Int).toNat 0 < b.getD (k : Int).toNat 0))) = false := h2
      rw [ei, ekk] at h2
      simp only [Bool.or_eq_false_iff, beq_eq_false_iff_ne] at h2
      have hkb : k < b.length := by first | omega | (dsimp only; omega)
      have hnlt : i < a.length → ¬ a.getD i 0 < b.getD k 0 := by
        intro h3 h4
        have h5 := h2.2
        rw [decide_eq_true (by first | omega | (dsimp only; omega)), decide_eq_true h4] at h5
        cases h5
      refine ⟨fun hg => by first | omega | (dsimp only; omega), fun hg => ?_, ⟨fun h3 => ?_, fun h3 => ?_⟩⟩
      · have hg1 : ((i : Int) == a.length) = false := hg.1
        simp at hg1
        first | omega | (dsimp only; omega)
      · have h3 : ((i : Int) == a.length || decide (b.getD (k : Int).toNat 0 < a.getD (i : Int).toNat 0)) = true := h3
        rw [ei, ekk] at h3
        simp only [Bool.or_eq_true, beq_iff_eq, decide_eq_true_eq] at h3
        refine ⟨⟨by first | omega | (dsimp only; omega), by first | omega | (dsimp only; omega)⟩, hbo, ?_⟩
        refine ⟨(i, k + 1, o ++ [b.getD (k : Int).toNat 0]), [(0, 2)], ⟨by dsimp only; omega, by dsimp only; omega, by simp; omega, n, by dsimp only; omega, ?_⟩, by dsimp only; omega, rfl, rfl, rfl, rfl, rfl, ⟨⟨rfl, rfl⟩, ⟨rfl, wr (by first | omega | (dsimp only; omega)) (by first | omega | (dsimp only; omega))⟩, rfl⟩, ⟨rfl, rfl, by simp, snB⟩⟩
        rw [he, dB hkb, ekk]
        dsimp only
        rw [List.append_assoc]
        congr 1
        by_cases hia : i < a.length
        · rw [dA hia]
          have hlt : b.getD k 0 < a.getD i 0 := by
            rcases h3 with h3 | h3
            · omega
            · exact h3
          simp only [oddF, if_neg (hnlt hia), if_pos hlt]
          rfl
        · rw [nA hia]
          rfl
      · have h3 : ((i : Int) == a.length || decide (b.getD (k : Int).toNat 0 < a.getD (i : Int).toNat 0)) = false := h3
        rw [ei, ekk] at h3
        simp only [Bool.or_eq_false_iff, beq_eq_false_iff_ne, decide_eq_false_iff_not] at h3
        have hia : i < a.length := by first | omega | (dsimp only; omega)
        refine ⟨(i + 1, k + 1, o), [], ⟨by dsimp only; omega, by dsimp only; omega, by dsimp only; omega, n, by dsimp only; omega, ?_⟩, by dsimp only; omega, rfl, rfl, rfl, rfl, rfl, ⟨⟨rfl, wr (by first | omega | (dsimp only; omega)) (by first | omega | (dsimp only; omega))⟩, ⟨rfl, wr (by first | omega | (dsimp only; omega)) (by first | omega | (dsimp only; omega))⟩, rfl⟩, ⟨rfl, rfl, rfl, fun _ _ => rfl⟩⟩
        rw [he, dA hia, dB hkb]
        simp only [oddF, if_neg (hnlt hia), if_neg h3.2]
  · have hc : (decide ((i : Int) < a.length) || decide ((k : Int) < b.length)) = false := hc
    simp only [Bool.or_eq_false_iff, decide_eq_false_iff_not] at hc
    rw [nA (by first | omega | (dsimp only; omega)), nB (by first | omega | (dsimp only; omega)), oddF_nil, List.append_nil] at he
    rw [he]
    exact RetIs.so rfl rfl (fun _ _ => rfl) (fun _ _ => rfl)
end Go.Proofs.Ytklmfkejgjhneaa
