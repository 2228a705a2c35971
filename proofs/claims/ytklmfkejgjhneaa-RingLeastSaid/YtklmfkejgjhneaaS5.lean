/-
  Verdicts: the reference's Changed.
-/
import Derived.Test.YtklmfkejgjhneaaS4
namespace Go.Proofs.Ytklmfkejgjhneaa
open Go.Eng

theorem RetIs.soN {e sz n n' : Nat} {get get' : Nat → List AV} {id nid : Nat} {O : List OE} (hg : getO id O = some ([], .row e sz n' get')) (hn : n' = n) (hget : ∀ k, k < n → get' k = get k) (hf : ∀ k, k < n → AV.freshs (get k) = true) :
    RetIs [.row e sz n get] (.so 0) (.so id) O nid := RetIs.so hg hn hget hf

/-- How many numbers at the front are less. -/
def cntLt : List Int → Int → Nat
  | [], _ => 0
  | x :: r, n => if x < n then cntLt r n + 1 else 0
def ins (o : List Int) (n : Int) : List Int := if cntLt o n = o.length ∨ o.getD (cntLt o n) 0 ≠ n then o.take (cntLt o n) ++ n :: o.drop (cntLt o n) else o
theorem cntLt_eq : ∀ (o : List Int) (n : Int) (k : Nat), k ≤ o.length → (∀ j, j < k → o.getD j 0 < n) → (k < o.length → ¬ o.getD k 0 < n) → cntLt o n = k
  | [], n, k, hk, _, _ => by simp at hk; simp [cntLt, hk]
  | x :: r, n, 0, _, _, h => by
    have := h (by simp)
    simp at this
    simp [cntLt, this]
  | x :: r, n, k + 1, hk, h1, h2 => by
    have h0 : x < n := by simpa using h1 0 (by omega)
    have := cntLt_eq r n k (by simpa using hk) (fun j hj => by simpa using h1 (j + 1) (by omega)) (fun hj => by simpa using h2 (by simpa using hj))
    simp [cntLt, h0, this]
theorem cntLt_le (o : List Int) (n : Int) : cntLt o n ≤ o.length := by
  induction o with
  | nil => simp [cntLt]
  | cons x r ih =>
    simp only [cntLt]
    split <;> simp <;> omega
theorem ins_len (o : List Int) (n : Int) : (ins o n).length ≤ o.length + 1 := by
  have := cntLt_le o n
  unfold ins
  split
  · simp; omega
  · omega
def rChg (l : List Ver) (f t : Int) (m : List Ver) : List Int := m.foldl (fun o v => if rBad l v.name f = rBad l v.name t then o else ins o v.name) []
theorem rChg_succ (l : List Ver) (f t : Int) (k : Nat) (h : k < l.length) : rChg l f t (l.take (k + 1)) = if rBad l (l.getD k dV).name f = rBad l (l.getD k dV).name t then rChg l f t (l.take k) else ins (rChg l f t (l.take k)) (l.getD k dV).name :=
  foldl_take _ _ l k dV h
theorem rChg_len (l : List Ver) (f t : Int) (m : List Ver) : (rChg l f t m).length ≤ m.length := by
  have : ∀ (m : List Ver) (o : List Int), (m.foldl (fun o v => if rBad l v.name f = rBad l v.name t then o else ins o v.name) o).length ≤ o.length + m.length := by
    intro m
    induction m with
    | nil => intro o; simp
    | cons v r ih =>
      intro o
      simp only [List.foldl_cons, List.length_cons]
      have := ih (if rBad l v.name f = rBad l v.name t then o else ins o v.name)
      have h2 := ins_len o v.name
      split at this <;> rename_i hc <;> simp only [hc, if_true, if_false] <;> omega
  have h := this m []
  rw [List.length_nil, Nat.zero_add] at h
  exact h
theorem ins_rows (o : List Int) (n : Int) (k : Nat) (hk : k ≤ o.length) : ∀ q, q < (o.take k ++ n :: o.drop k).length →
    catG (k - 0) (fun q => rowsI o (0 + q)) (catG 1 (rowOf 1 [.i .i64 n]) (fun q => rowsI o (k + q))) q = rowsI (o.take k ++ n :: o.drop k) q := by
  intro q hq
  have e : (o.take k).length = k := by simp; omega
  unfold catG rowsI
  simp only [Nat.sub_zero, Nat.zero_add]
  by_cases h : q < k
  · rw [if_pos h]
    simp only [List.getD]
    rw [List.getElem?_append_left (by omega), List.getElem?_take, if_pos h]
  · rw [if_neg h]
    simp only [List.getD]
    rw [List.getElem?_append_right (by omega), e]
    by_cases h2 : q - k < 1
    · rw [if_pos h2]
      have : q - k = 0 := by omega
      rw [this]
      rfl
    · rw [if_neg h2]
      obtain ⟨j, hj⟩ : ∃ j, q - k = j + 1 := ⟨q - k - 1, by omega⟩
      rw [hj, List.getElem?_cons_succ, List.getElem?_drop]
      rfl

set_option maxRecDepth 20000 in
set_option maxHeartbeats 8000000 in
theorem rChanged_fn (l : List Ver) (hl : l.length * 24 ≤ 140737488355328) (f t : Int) : Ctr Try.prog 38 [.rs 3 l.length (rowsV l), .i .i64 f, .i .i64 t] [.row 3 1 (rChg l f t l).length (rowsI (rChg l f t l))] (.so 0) := by
  refine fn_of_exec tabOk Try.func38 (by kernel_rfl) rfl (N := Try.f38.ntmps) rfl (res := [.tmp 6]) rfl rfl [] ?_
  have nl : l.length < 2 ^ 62 := by omega
  refine .inl ⟨[(7, 3, 1)], Nat, fun k => k ≤ l.length, fun k => [⟨8, [], .i .i64 k⟩, ⟨7, [], .so 0⟩], fun k => [⟨0, [], .row 3 1 (rChg l f t (l.take k)).length (rowsI (rChg l f t (l.take k)))⟩], fun k => l.length - k,
    ⟨0, [], Nat.zero_le _, rfl, rfl, rfl, rfl, rfl, ⟨⟨rfl, rfl⟩, rfl⟩, ⟨rfl, rfl, rfl, fun j hj => by simp [rChg] at hj⟩⟩, ?_⟩
  intro k hk
  refine .inl ⟨fun hc => ?_, fun hc => ?_⟩
  · have hc := dlt hc
    have hs := rChg_succ l f t k (by omega)
    have ho := rChg_len l f t (l.take k)
    rw [List.length_take] at ho
    generalize rChg l f t (l.take k) = o at *
    refine .inl ⟨⟨by omega, by omega⟩, ?_⟩
    refine .inl (.inl ⟨[], _, rBad_fn l nl _ _, .inl ⟨[], _, rBad_fn l nl _ _, ⟨fun h2 => ?_, fun h2 => ?_⟩⟩⟩)
    · have h2 : (rBad l (l.getD (k : Int).toNat dV).name f == rBad l (l.getD (k : Int).toNat dV).name t) = true := h2
      rw [Int.toNat_natCast, beq_iff_eq] at h2
      rw [if_pos h2] at hs
      refine ⟨k + 1, [], by dsimp only; omega, by dsimp only; omega, rfl, rfl, rfl, rfl, rfl, ⟨⟨rfl, wr (by omega) (by omega)⟩, rfl⟩, ?_⟩
      have hv : AOEq (.row 3 1 (rChg l f t (l.take (k + 1))).length (rowsI (rChg l f t (l.take (k + 1))))) (.row 3 1 o.length (rowsI o)) := by rw [hs]; exact AOEq.refl _
      exact hv
    · have h2 : (rBad l (l.getD (k : Int).toNat dV).name f == rBad l (l.getD (k : Int).toNat dV).name t) = false := h2
      rw [Int.toNat_natCast, beq_eq_false_iff_ne] at h2
      rw [if_neg h2] at hs
      refine .inl ⟨[], Nat, fun q => q ≤ o.length ∧ ∀ j, j < q → o.getD j 0 < (l.getD k dV).name, fun q => [⟨10, [], .i .i64 q⟩], fun _ => [], fun q => o.length - q,
        ⟨0, [], ⟨Nat.zero_le _, fun j hj => by omega⟩, rfl, rfl, rfl, rfl, rfl, ⟨rfl, rfl⟩, trivial⟩, ?_⟩
      rintro q ⟨hq, hlt⟩
      have hol : o.length < 2 ^ 61 := by omega
      refine .inl ⟨fun hg => ?_, fun hg => ?_, ⟨fun h3 => ?_, fun h3 => ?_⟩⟩
      · have hg : decide ((q : Int) < o.length) = true := hg.1
        have := dlt hg
        omega
      · have hg : decide ((q : Int) < o.length) = true := hg.1
        have := dlt hg
        omega
      · have h3 : (decide ((q : Int) < o.length) && decide (o.getD (q : Int).toNat 0 < (l.getD (k : Int).toNat dV).name)) = true := h3
        rw [Int.toNat_natCast, Int.toNat_natCast] at h3
        simp only [Bool.and_eq_true, decide_eq_true_eq] at h3
        refine ⟨q + 1, [], ⟨by omega, fun j hj => ?_⟩, by dsimp only; omega, rfl, rfl, rfl, rfl, rfl, ⟨rfl, wr (by omega) (by omega)⟩, trivial⟩
        by_cases hjk : j = q
        · rw [hjk]; exact h3.2
        · exact hlt j (by omega)
      · have h3 : (decide ((q : Int) < o.length) && decide (o.getD (q : Int).toNat 0 < (l.getD (k : Int).toNat dV).name)) = false := h3
        rw [Int.toNat_natCast, Int.toNat_natCast] at h3
        have hcnt : cntLt o (l.getD k dV).name = q := cntLt_eq o _ q hq hlt fun h4 h5 => by
          rw [decide_eq_true (by omega), decide_eq_true h5] at h3
          cases h3
        refine ⟨fun hg => ?_, fun hg => ?_, ⟨fun h4 => ?_, fun h4 => ?_⟩⟩
        · have hg : ((q : Int) == o.length) = false := hg.1
          simp at hg
          omega
        · have hg : ((q : Int) == o.length) = false := hg.1
          simp at hg
          omega
        · have h4 : ((q : Int) == o.length || o.getD (q : Int).toNat 0 != (l.getD (k : Int).toNat dV).name) = true := h4
          rw [Int.toNat_natCast, Int.toNat_natCast] at h4
          simp only [Bool.or_eq_true, beq_iff_eq, bne_iff_ne] at h4
          have hI : ins o (l.getD k dV).name = o.take q ++ (l.getD k dV).name :: o.drop q := by
            unfold ins
            rw [hcnt, if_pos]
            rcases h4 with h4 | h4
            · left; omega
            · exact .inr h4
          have e0 : ((o.length : Int) - q).toNat = o.length - q := by omega
          have e1 : (0 + 1 + ((o.length : Int) - q).toNat) * 8 ≤ 140737488355328 := by omega
          have e2 : (((q : Int) - 0).toNat + (0 + 1 + ((o.length : Int) - q).toNat)) * 8 ≤ 140737488355328 := by omega
          refine ⟨⟨by omega, by omega, by omega⟩, e1, ⟨by omega, by omega, by omega⟩, e2, ?_⟩
          refine ⟨k + 1, [(0, 3)], by dsimp only; omega, by dsimp only; omega, rfl, rfl, rfl, rfl, rfl, ⟨⟨rfl, wr (by omega) (by omega)⟩, rfl⟩, ?_⟩
          have hlen : ((q : Int) - 0).toNat + (1 + ((o.length : Int) - q).toNat) = (rChg l f t (l.take (k + 1))).length := by
            rw [hs, hI]
            simp
            omega
          have hrow : ∀ j, j < (rChg l f t (l.take (k + 1))).length → catG ((q : Int) - 0).toNat (fun q => rowsI o (Int.toNat 0 + q)) (catG 1 (rowOf 1 [.i .i64 (l.getD (k : Int).toNat dV).name]) (fun q1 => rowsI o ((q : Int).toNat + q1))) j = rowsI (rChg l f t (l.take (k + 1))) j := by
            rw [hs, hI]
            intro j hj
            have e3 : ((q : Int) - 0).toNat = q - 0 := by omega
            rw [e3, Int.toNat_natCast, Int.toNat_natCast]
            exact ins_rows o (l.getD k dV).name q hq j hj
          exact ⟨rfl, rfl, hlen, hrow⟩
        · have h4 : ((q : Int) == o.length || o.getD (q : Int).toNat 0 != (l.getD (k : Int).toNat dV).name) = false := h4
          rw [Int.toNat_natCast, Int.toNat_natCast] at h4
          simp only [Bool.or_eq_false_iff, beq_eq_false_iff_ne, bne_eq_false_iff_eq] at h4
          have hI : ins o (l.getD k dV).name = o := by
            unfold ins
            rw [hcnt, if_neg]
            rintro (h5 | h5)
            · exact h4.1 (by omega)
            · exact h5 h4.2
          refine ⟨k + 1, [], by dsimp only; omega, by dsimp only; omega, rfl, rfl, rfl, rfl, rfl, ⟨⟨rfl, wr (by omega) (by omega)⟩, rfl⟩, ?_⟩
          have hv : AOEq (.row 3 1 (rChg l f t (l.take (k + 1))).length (rowsI (rChg l f t (l.take (k + 1))))) (.row 3 1 o.length (rowsI o)) := by rw [hs, hI]; exact AOEq.refl _
          exact hv
  · have hc := dnlt hc
    have hk2 : l.take k = l := List.take_of_length_le (by omega)
    rw [hk2]
    exact RetIs.so rfl rfl (fun _ _ => rfl) (fun _ _ => rfl)
end Go.Proofs.Ytklmfkejgjhneaa
