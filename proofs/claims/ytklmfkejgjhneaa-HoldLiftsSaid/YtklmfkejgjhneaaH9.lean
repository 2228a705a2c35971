/-
  Holds: the reference's Due; small functions.
-/
import Derived.Test.YtklmfkejgjhneaaH8
namespace Go.Proofs.Ytklmfkejgjhneaa
open Go.Eng

def insAll (m : List Int) : List Int := m.foldl ins []
theorem insAll_snoc (m : List Int) (n : Int) : insAll (m ++ [n]) = ins (insAll m) n := by
  unfold insAll
  rw [List.foldl_append]
  rfl
theorem insAll_inv (m : List Int) : (insAll m).Pairwise (· < ·) ∧ ∀ x, x ∈ insAll m ↔ x ∈ m := by
  have : ∀ (m o : List Int), o.Pairwise (· < ·) → (m.foldl ins o).Pairwise (· < ·) ∧ ∀ x, x ∈ m.foldl ins o ↔ x ∈ o ∨ x ∈ m := by
    intro m
    induction m with
    | nil => intro o ho; exact ⟨ho, by simp⟩
    | cons a r ih =>
      intro o ho
      obtain ⟨h1, h2⟩ := ih (ins o a) (ins_asc ho a)
      refine ⟨h1, fun x => ?_⟩
      rw [List.foldl_cons, h2, ins_mem, List.mem_cons]
      constructor
      · rintro ((h | h) | h)
        · exact .inr (.inl h)
        · exact .inl h
        · exact .inr (.inr h)
      · rintro (h | h | h)
        · exact .inl (.inr h)
        · exact .inl (.inl h)
        · exact .inr h
  obtain ⟨h1, h2⟩ := this m [] List.Pairwise.nil
  exact ⟨h1, fun x => by rw [show insAll m = m.foldl ins [] from rfl, h2]; simp⟩
theorem insAll_eq (m : List Int) : insAll m = setI m := asc_ext (insAll_inv m).1 (setI_asc m) fun k => by rw [(insAll_inv m).2, setI_mem]
theorem insAll_len (m : List Int) : (insAll m).length ≤ m.length := by
  rw [insAll_eq]
  exact setI_len m
theorem ins3_rows (o : List Int) (n : Int) (k : Nat) (hk : k ≤ o.length) : ∀ q, q < (o.take k ++ n :: o.drop k).length →
    catG (0 + (k - 0) + 1) (catG (0 + (k - 0)) (catG 0 (rowOf 1 []) (fun q => rowsI o (0 + q))) (rowOf 1 [.i .i64 n])) (fun q => rowsI o (k + q)) q = rowsI (o.take k ++ n :: o.drop k) q := by
  intro q hq
  have e : (o.take k).length = k := by simp; omega
  unfold catG rowsI
  simp only [Nat.sub_zero, Nat.zero_add, Nat.not_lt_zero, if_false]
  by_cases h : q < k
  · rw [if_pos (by omega), if_pos h]
    simp only [List.getD]
    rw [List.getElem?_append_left (by omega), List.getElem?_take, if_pos h]
  · simp only [List.getD]
    rw [List.getElem?_append_right (by omega), e]
    by_cases h2 : q < k + 1
    · rw [if_pos h2, if_neg h]
      have : q - k = 0 := by omega
      rw [this]
      rfl
    · rw [if_neg h2]
      obtain ⟨j, hj⟩ : ∃ j, q - k = j + 1 := ⟨q - k - 1, by omega⟩
      rw [hj, List.getElem?_cons_succ, List.getElem?_drop]
      congr 3
      congr 2
      omega

set_option maxRecDepth 20000 in
set_option maxHeartbeats 8000000 in
theorem rDue_fn (h : List Hld) (hh : h.length < 2^62) (l : List Ord) (hl : l.length < 2^40) (now : Int) :
    Ctr Try.prog 53 [.rs 4 h.length (rowsH h), .rs 4 l.length (rowsO l), .i .i64 now] [.row 3 1 (insAll (dueL h l now l)).length (rowsI (insAll (dueL h l now l)))] (.so 0) := by
  refine fn_of_exec tabOk Try.func53 (by kernel_rfl) rfl (N := Try.f53.ntmps) rfl (res := [.tmp 6]) rfl rfl [] ?_
  refine .inl ⟨[(7, 3, 1)], Nat, fun k => k ≤ l.length, fun k => [⟨8, [], .i .i64 k⟩, ⟨7, [], .so 0⟩], fun k => [⟨0, [], .row 3 1 (insAll (dueL h l now (l.take k))).length (rowsI (insAll (dueL h l now (l.take k))))⟩], fun k => l.length - k,
    ⟨0, [], Nat.zero_le _, rfl, rfl, rfl, rfl, rfl, ⟨⟨rfl, rfl⟩, rfl⟩, ⟨rfl, rfl, rfl, fun j hj => by simp [dueL, insAll] at hj⟩⟩, ?_⟩
  intro k hk
  have ho := insAll_len (dueL h l now (l.take k))
  have ho2 := dueL_len h l now (l.take k)
  rw [List.length_take] at ho2
  refine .inl ⟨fun hc => ?_, fun hc => ?_⟩
  · have hc := dlt hc
    have hs := dueL_succ h l now k (by omega)
    have ek : (k : Int).toNat = k := Int.toNat_natCast k
    repeat refine Or.inl ?_
    refine ⟨⟨by omega, by omega⟩, ?_⟩
    repeat refine Or.inl ?_
    refine ⟨[], _, rDecide_fn h hh l (by omega) _ now, ⟨fun h2 => ?_, fun h2 => ?_⟩⟩
    · have h2 : (Decide h l (l.getD (k : Int).toNat dO).ev now == 0) = true := h2
      rw [ek, beq_iff_eq] at h2
      rw [if_neg (by rw [h2]; decide)] at hs
      refine ⟨k + 1, [], by dsimp only; omega, by dsimp only; omega, rfl, rfl, rfl, rfl, rfl, ⟨⟨rfl, wr (by omega) (by omega)⟩, rfl⟩, ?_⟩
      have hv : AOEq (.row 3 1 (insAll (dueL h l now (l.take (k + 1)))).length (rowsI (insAll (dueL h l now (l.take (k + 1)))))) (.row 3 1 (insAll (dueL h l now (l.take k))).length (rowsI (insAll (dueL h l now (l.take k))))) := by rw [hs]; exact AOEq.refl _
      exact hv
    have h2 : (Decide h l (l.getD (k : Int).toNat dO).ev now == 0) = false := h2
    rw [ek, beq_eq_false_iff_ne] at h2
    rw [if_pos (by simpa using h2)] at hs
    have hs2 : insAll (dueL h l now (l.take (k + 1))) = ins (insAll (dueL h l now (l.take k))) (l.getD k dO).ev := by rw [hs, insAll_snoc]
    generalize insAll (dueL h l now (l.take k)) = o at *
    repeat refine Or.inl ?_
    refine ⟨[], Nat, fun q => q ≤ o.length ∧ ∀ j, j < q → o.getD j 0 < (l.getD k dO).ev, fun q => [⟨10, [], .i .i64 q⟩], fun _ => [], fun q => o.length - q,
      ⟨0, [], ⟨Nat.zero_le _, fun j hj => by omega⟩, rfl, rfl, rfl, rfl, rfl, ⟨rfl, rfl⟩, trivial⟩, ?_⟩
    rintro q ⟨hq, hlt⟩
    have eq : (q : Int).toNat = q := Int.toNat_natCast q
    have hol : o.length < 2 ^ 41 := by omega
    refine .inl ⟨fun hg => ?_, fun hg => ?_, ⟨fun h3 => ?_, fun h3 => ?_⟩⟩
    · have hg : decide ((q : Int) < o.length) = true := hg.1
      have := dlt hg
      omega
    · have hg : decide ((q : Int) < o.length) = true := hg.1
      have := dlt hg
      omega
    · have h3 : (decide ((q : Int) < o.length) && decide (o.getD (q : Int).toNat 0 < (l.getD (k : Int).toNat dO).ev)) = true := h3
      rw [eq, ek] at h3
      simp only [Bool.and_eq_true, decide_eq_true_eq] at h3
      refine ⟨q + 1, [], ⟨by omega, fun j hj => ?_⟩, by dsimp only; omega, rfl, rfl, rfl, rfl, rfl, ⟨rfl, wr (by omega) (by omega)⟩, trivial⟩
      by_cases hjk : j = q
      · rw [hjk]; exact h3.2
      · exact hlt j (by omega)
    have h3 : (decide ((q : Int) < o.length) && decide (o.getD (q : Int).toNat 0 < (l.getD (k : Int).toNat dO).ev)) = false := h3
    rw [eq, ek] at h3
    have hcnt : cntLt o (l.getD k dO).ev = q := cntLt_eq o _ q hq hlt fun h4 h5 => by
      rw [decide_eq_true (by omega), decide_eq_true h5] at h3
      cases h3
    have b1 : (0 + ((q : Int) - 0).toNat) * 8 ≤ 140737488355328 := by omega
    have b2 : (0 + ((q : Int) - 0).toNat + 1) * 8 ≤ 140737488355328 := by omega
    have b3 : (0 + ((q : Int) - 0).toNat + 1 + ((o.length : Int) - q).toNat) * 8 ≤ 140737488355328 := by omega
    have row : (q = o.length ∨ o.getD q 0 ≠ (l.getD k dO).ev) → AOEq (.row 3 1 (insAll (dueL h l now (l.take (k + 1)))).length (rowsI (insAll (dueL h l now (l.take (k + 1))))))
        (.row 3 1 (0 + ((q : Int) - 0).toNat + 1 + ((o.length : Int) - q).toNat) (catG (0 + ((q : Int) - 0).toNat + 1) (catG (0 + ((q : Int) - 0).toNat) (catG 0 (rowOf 1 []) (fun q => rowsI o (Int.toNat 0 + q))) (rowOf 1 [.i .i64 (l.getD (k : Int).toNat dO).ev])) (fun q1 => rowsI o ((q : Int).toNat + q1)))) := by
      intro h4
      have hI : ins o (l.getD k dO).ev = o.take q ++ (l.getD k dO).ev :: o.drop q := by
        unfold ins
        rw [hcnt, if_pos h4]
      rw [hs2, hI]
      refine ⟨rfl, rfl, by simp; omega, fun j hj => ?_⟩
      have e3 : ((q : Int) - 0).toNat = q - 0 := by omega
      rw [e3, eq, ek]
      exact ins3_rows o _ q hq j hj
    repeat refine Or.inl ?_
    refine ⟨fun h4 => ?_, fun h4 => ?_⟩
    · have h4 := dlt h4
      refine ⟨⟨by omega, by omega⟩, by omega, ⟨fun h5 => ?_, fun h5 => ?_⟩⟩
      · have h5 : (o.getD (q : Int).toNat 0 == (l.getD (k : Int).toNat dO).ev) = true := h5
        rw [eq, ek, beq_iff_eq] at h5
        have hI : ins o (l.getD k dO).ev = o := by
          unfold ins
          rw [hcnt, if_neg]
          rintro (h6 | h6)
          · omega
          · exact h6 h5
        refine ⟨k + 1, [], by dsimp only; omega, by dsimp only; omega, rfl, rfl, rfl, rfl, rfl, ⟨⟨rfl, wr (by omega) (by omega)⟩, rfl⟩, ?_⟩
        have hv : AOEq (.row 3 1 (insAll (dueL h l now (l.take (k + 1)))).length (rowsI (insAll (dueL h l now (l.take (k + 1)))))) (.row 3 1 o.length (rowsI o)) := by rw [hs2, hI]; exact AOEq.refl _
        exact hv
      · have h5 : (o.getD (q : Int).toNat 0 == (l.getD (k : Int).toNat dO).ev) = false := h5
        rw [eq, ek, beq_eq_false_iff_ne] at h5
        refine ⟨⟨by omega, by omega, by omega⟩, b1, b2, ⟨by omega, by omega, by omega⟩, b3, ?_⟩
        exact ⟨k + 1, [(0, 5)], by dsimp only; omega, by dsimp only; omega, rfl, rfl, rfl, rfl, rfl, ⟨⟨rfl, wr (by omega) (by omega)⟩, rfl⟩, row (.inr h5)⟩
    · have h4 := dnlt h4
      refine ⟨⟨by omega, by omega, by omega⟩, b1, b2, ⟨by omega, by omega, by omega⟩, b3, ?_⟩
      exact ⟨k + 1, [(0, 5)], by dsimp only; omega, by dsimp only; omega, rfl, rfl, rfl, rfl, rfl, ⟨⟨rfl, wr (by omega) (by omega)⟩, rfl⟩, row (.inl (by omega))⟩
  · have hc := dnlt hc
    have hk2 : l.take k = l := List.take_of_length_le (by omega)
    rw [hk2]
    exact RetIs.so rfl rfl (fun _ _ => rfl) (fun _ _ => rfl)

set_option maxRecDepth 20000 in
theorem intsH_fn (a b : List Int) (ha : a.length < 2^62) (hb : b.length < 2^62) : Ctr Try.prog 51 [.rs 1 a.length (rowsI a), .rs 1 b.length (rowsI b)] [] (.b (decide (a = b))) := by
  refine fn_of_exec tabOk Try.func51 (by kernel_rfl) rfl (N := Try.f51.ntmps) rfl (res := [.tmp 4]) rfl rfl [] ?_
  refine .inl ⟨fun h => ?_, fun h => ?_⟩
  · refine RetIs.b ?_
    have h : ((a.length : Int) != b.length) = true := h
    simp at h
    simp
    intro he
    exact h (by rw [he])
  have h : ((a.length : Int) != b.length) = false := h
  simp at h
  have hl : a.length = b.length := by omega
  refine .inl ⟨[], Nat, fun k => k ≤ a.length ∧ eqUpto 0 a b k, fun k => [⟨5, [], .i .i64 k⟩], fun _ => [], fun k => a.length - k,
    ⟨0, [], ⟨Nat.zero_le _, fun j hj => by omega⟩, rfl, rfl, rfl, rfl, rfl, ⟨rfl, rfl⟩, trivial⟩, ?_⟩
  rintro k ⟨hk, he⟩
  refine .inl ⟨fun hc => ?_, fun hc => ?_⟩
  · have hc := dlt hc
    refine .inl ⟨⟨by omega, by omega⟩, ⟨by omega, by omega⟩, ⟨fun h2 => ?_, fun h2 => ?_⟩⟩
    · refine RetIs.b ?_
      have h2 : (a.getD (k : Int).toNat 0 != b.getD (k : Int).toNat 0) = true := h2
      rw [Int.toNat_natCast] at h2
      symm
      rw [decide_eq_false_iff_not]
      rintro rfl
      simp at h2
    · have h2 : (a.getD (k : Int).toNat 0 != b.getD (k : Int).toNat 0) = false := h2
      rw [Int.toNat_natCast] at h2
      have h3 : a.getD k 0 = b.getD k 0 := by simpa using h2
      refine ⟨k + 1, [], ⟨by omega, fun j hj => ?_⟩, by dsimp only; omega, rfl, rfl, rfl, rfl, rfl, ⟨rfl, wr (by omega) (by omega)⟩, trivial⟩
      by_cases hjk : j = k
      · rw [hjk]; exact h3
      · exact he j (by omega)
  · have hc := dnlt hc
    refine RetIs.b ?_
    have hk2 : k = a.length := by omega
    subst hk2
    simp [eqUpto_all hl he]

def hasI (l : List Int) (n : Int) : Bool := l.any (· == n)
theorem hasI_iff {l : List Int} {n : Int} : hasI l n = true ↔ n ∈ l := by simp [hasI]
set_option maxRecDepth 20000 in
theorem in_fn (l : List Int) (hl : l.length < 2^62) (n : Int) : Ctr Try.prog 54 [.rs 1 l.length (rowsI l), .i .i64 n] [] (.b (hasI l n)) := by
  refine fn_of_exec tabOk Try.func54 (by kernel_rfl) rfl (N := Try.f54.ntmps) rfl (res := [.tmp 4]) rfl rfl [] ?_
  refine .inl ⟨[], Nat, fun k => k ≤ l.length ∧ (l.take k).any (· == n) = false, fun k => [⟨5, [], .i .i64 k⟩], fun _ => [], fun k => l.length - k,
    ⟨0, [], ⟨Nat.zero_le _, rfl⟩, rfl, rfl, rfl, rfl, rfl, ⟨rfl, rfl⟩, trivial⟩, ?_⟩
  rintro k ⟨hk, hno⟩
  refine .inl ⟨fun hc => ?_, fun hc => ?_⟩
  · have hc := dlt hc
    have ek : (k : Int).toNat = k := Int.toNat_natCast k
    refine Or.inl ⟨⟨by omega, by omega⟩, ⟨fun h2 => ?_, fun h2 => ?_⟩⟩
    · have h2 : (l.getD (k : Int).toNat 0 == n) = true := h2
      rw [ek] at h2
      refine RetIs.b ?_
      unfold hasI
      rw [any_trueG 0 l _ k (by omega) h2]
    · have h2 : (l.getD (k : Int).toNat 0 == n) = false := h2
      rw [ek] at h2
      exact ⟨k + 1, [], ⟨by omega, by rw [any_takeG 0 l _ k (by omega), hno, h2]; rfl⟩, by dsimp only; omega, rfl, rfl, rfl, rfl, rfl, ⟨rfl, wr (by omega) (by omega)⟩, trivial⟩
  · have hc := dnlt hc
    have hk2 : l.take k = l := List.take_of_length_le (by omega)
    rw [hk2] at hno
    refine RetIs.b ?_
    unfold hasI
    rw [hno]
def FewH (h : List Hld) (l : List Ord) : Bool := decide (h.length ≤ 20) && decide (l.length ≤ 20)
set_option maxRecDepth 20000 in
theorem Few_fn (h : List Hld) (l : List Ord) : Ctr Try.prog 41 [.rs 4 h.length (rowsH h), .rs 4 l.length (rowsO l)] [] (.b (FewH h l)) := by
  refine fn_of_exec tabOk Try.func41 (by kernel_rfl) rfl (N := Try.f41.ntmps) rfl (res := [.tmp 4]) rfl rfl [] ?_
  refine RetIs.b ?_
  show (decide ((h.length : Int) ≤ 20) && decide ((l.length : Int) ≤ 20)) = FewH h l
  unfold FewH
  congr 1
  · rw [decide_eq_decide]; omega
  · rw [decide_eq_decide]; omega
end Go.Proofs.Ytklmfkejgjhneaa
