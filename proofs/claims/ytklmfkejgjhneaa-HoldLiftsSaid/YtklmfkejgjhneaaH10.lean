/-
  Holds: Lift.
-/
import Derived.Test.YtklmfkejgjhneaaH9
namespace Go.Proofs.Ytklmfkejgjhneaa
open Go.Eng

def stepB (n : Int) : Bool := decide (0 ≤ n) && decide (n ≤ 1073741824)
theorem idx_cases (p : Hld → Bool) (l : List Hld) : (idxF p l = -1 ∧ ∀ j, j < l.length → p (l.getD j dH) = false) ∨ ∃ k, k < l.length ∧ idxF p l = k ∧ p (l.getD k dH) = true ∧ ∀ j, j < k → p (l.getD j dH) = false := by
  cases h : l.findIdx? p with
  | none =>
    left
    refine ⟨by simp [idxF, h], fun j hj => ?_⟩
    rw [List.findIdx?_eq_none_iff] at h
    rw [gdH hj]
    exact h _ (List.getElem_mem hj)
  | some k =>
    right
    refine ⟨k, ?_⟩
    rw [List.findIdx?_eq_some_iff_getElem] at h
    obtain ⟨hk, hp, hno⟩ := h
    refine ⟨hk, ?_, by rw [gdH hk]; exact hp, fun j hj => ?_⟩
    · unfold idxF
      rw [List.findIdx?_eq_some_iff_getElem.2 ⟨hk, hp, hno⟩]
    · rw [gdH (by omega)]
      simpa using hno j hj
def Hld.lift (h : Hld) (now : Int) : Hld := ⟨h.id, h.ev, h.fr, now⟩
/-- What is to be done, once the hold's place is known. -/
def liftK (l : List Hld) (now : Int) (k : Nat) : List Hld × Int :=
  if (l.getD k dH).fr > now then (l, 15) else
  if ((l.getD k dH).to != -1 && decide ((l.getD k dH).to ≤ now)) = true then (l, 16) else (l.set k ((l.getD k dH).lift now), 0)
def Lift (l : List Hld) (id now : Int) : List Hld × Int :=
  if (!RightH l || !stepB now) = true then (l, 1) else
  match l.findIdx? (fun x => x.id == id) with
  | none => (l, 4)
  | some k => liftK l now k
theorem find_none {l : List Hld} {p : Hld → Bool} (h : ∀ j, j < l.length → p (l.getD j dH) = false) : l.findIdx? p = none := by
  rw [List.findIdx?_eq_none_iff]
  intro x hx
  obtain ⟨j, hj, rfl⟩ := List.getElem_of_mem hx
  have := h j hj
  rw [gdH hj] at this
  exact this
theorem find_some {l : List Hld} {p : Hld → Bool} {k : Nat} (hk : k < l.length) (h2 : p (l.getD k dH) = true) (h1 : ∀ j, j < k → p (l.getD j dH) = false) : l.findIdx? p = some k := by
  rw [List.findIdx?_eq_some_iff_getElem]
  refine ⟨hk, by rw [gdH hk] at h2; exact h2, fun j hj => ?_⟩
  have := h1 j hj
  rw [gdH (by omega)] at this
  simp [this]
theorem set_rowsH (l : List Hld) (k : Nat) (now : Int) (hk : k < l.length) : ∀ q, q < (l.set k ((l.getD k dH).lift now)).length →
    (if q = k then over 3 [.i .i64 now] (rowsH l q) else rowsH l q) = rowsH (l.set k ((l.getD k dH).lift now)) q := by
  intro q hq
  rw [List.length_set] at hq
  unfold rowsH
  by_cases h : q = k
  · subst h
    rw [if_pos rfl]
    have e : (l.set q ((l.getD q dH).lift now)).getD q dH = (l.getD q dH).lift now := by simp [List.getD, hk]
    rw [e]
    rfl
  · rw [if_neg h]
    have e : (l.set k ((l.getD k dH).lift now)).getD q dH = l.getD q dH := by simp [List.getD, Ne.symm h]
    rw [e]

set_option maxRecDepth 20000 in
set_option maxHeartbeats 8000000 in
theorem Lift_fn (l : List Hld) (hl : l.length * 32 ≤ 140737488355328) (id now : Int) :
    Ctr Try.prog 42 [.rs 4 l.length (rowsH l), .i .i64 id, .i .i64 now] [.row 70 4 (Lift l id now).1.length (rowsH (Lift l id now).1)] (.tup [.so 0, .i .i64 (Lift l id now).2]) := by
  refine fn_of_exec tabOk Try.func42 (by kernel_rfl) rfl (N := Try.f42.ntmps) rfl (res := [.tmp 6, .tmp 7]) rfl rfl [] ?_
  have nl : l.length < 2 ^ 62 := by omega
  have hI := index1_fn l nl 80 _ (fun x => x.id == id) (lift1_fn id)
  rcases idx_cases (fun x => x.id == id) l with ⟨hi, hno⟩ | ⟨k, hk, hi, hp, hno⟩
  · rw [hi] at hI
    refine .inl ⟨_, _, cloneH_fn l hl, .inl ⟨[], _, hI, ?_⟩⟩
    repeat refine Or.inl ?_
    refine ⟨[], _, RightH_fn l nl, ?_⟩
    repeat refine Or.inl ?_
    refine ⟨[], _, fun _ => step_fn now, ⟨fun h => ?_, fun h => ?_⟩⟩
    · have h : (!RightH l || !stepB now) = true := h
      unfold Lift
      rw [if_pos h]
      exact RetIs.soI rfl rfl (fun _ _ => rfl) (fresh_rowsH l) rfl
    · have h : (!RightH l || !stepB now) = false := h
      refine ⟨fun h2 => ?_, fun h2 => ?_⟩
      · unfold Lift
        rw [if_neg (by rw [h]; simp), find_none hno]
        exact RetIs.soI rfl rfl (fun _ _ => rfl) (fresh_rowsH l) rfl
      · exact absurd h2 (by decide)
  · rw [hi] at hI
    have ek : (k : Int).toNat = k := Int.toNat_natCast k
    refine .inl ⟨_, _, cloneH_fn l hl, .inl ⟨[], _, hI, ?_⟩⟩
    repeat refine Or.inl ?_
    refine ⟨[], _, RightH_fn l nl, ?_⟩
    repeat refine Or.inl ?_
    refine ⟨[], _, fun _ => step_fn now, ⟨fun h => ?_, fun h => ?_⟩⟩
    · have h : (!RightH l || !stepB now) = true := h
      unfold Lift
      rw [if_pos h]
      exact RetIs.soI rfl rfl (fun _ _ => rfl) (fresh_rowsH l) rfl
    have h : (!RightH l || !stepB now) = false := h
    have hL : Lift l id now = liftK l now k := by
      unfold Lift
      rw [if_neg (by rw [h]; simp), find_some hk hp hno]
    rw [hL]
    refine ⟨fun h2 => ?_, fun h2 => ?_⟩
    · have h2 := dlt h2
      omega
    refine ⟨⟨by omega, by omega⟩, by omega, ⟨fun h3 => ?_, fun h3 => ?_⟩⟩
    · have h3 : decide ((l.getD (k : Int).toNat dH).fr > now) = true := h3
      rw [ek, decide_eq_true_eq] at h3
      have e : liftK l now k = (l, 15) := by unfold liftK; rw [if_pos h3]
      rw [e]
      exact RetIs.soI rfl rfl (fun _ _ => rfl) (fresh_rowsH l) rfl
    have h3 : decide ((l.getD (k : Int).toNat dH).fr > now) = false := h3
    rw [ek, decide_eq_false_iff_not] at h3
    refine ⟨⟨by omega, by omega⟩, by omega, fun _ => by omega, fun _ => by omega, ⟨fun h4 => ?_, fun h4 => ?_⟩⟩
    · have h4 : ((l.getD (k : Int).toNat dH).to != -1 && decide ((l.getD (k : Int).toNat dH).to ≤ now)) = true := h4
      rw [ek] at h4
      have e : liftK l now k = (l, 16) := by unfold liftK; rw [if_neg h3, if_pos h4]
      rw [e]
      exact RetIs.soI rfl rfl (fun _ _ => rfl) (fresh_rowsH l) rfl
    · have h4 : ((l.getD (k : Int).toNat dH).to != -1 && decide ((l.getD (k : Int).toNat dH).to ≤ now)) = false := h4
      rw [ek] at h4
      have e : liftK l now k = (l.set k ((l.getD k dH).lift now), 0) := by unfold liftK; rw [if_neg h3, if_neg (by rw [h4]; simp)]
      rw [e]
      refine ⟨⟨by omega, by omega⟩, by omega, ?_⟩
      refine RetIs.soI rfl (by simp) (fun q hq => ?_) (fresh_rowsH _) rfl
      rw [← set_rowsH l k now hk q hq]
      show (if q = (k : Int).toNat then _ else _) = _
      rw [ek]
      rfl

theorem catH0 (l : List Hld) : ∀ q, q < l.length → catG 0 (rowOf 4 []) (rowsH l) q = rowsH l q := cat_rowsH l []
set_option maxRecDepth 20000 in
set_option maxHeartbeats 8000000 in
theorem rLift_fn (l : List Hld) (hl : l.length * 32 ≤ 140737488355328) (id now : Int) :
    Ctr Try.prog 43 [.rs 4 l.length (rowsH l), .i .i64 id, .i .i64 now] [.row 70 4 (Lift l id now).1.length (rowsH (Lift l id now).1)] (.tup [.so 0, .i .i64 (Lift l id now).2]) := by
  refine fn_of_exec tabOk Try.func43 (by kernel_rfl) rfl (N := Try.f43.ntmps) rfl (res := [.tmp 6, .tmp 7]) rfl rfl [(2, [.eq 1 (.row 70 4 l.length (rowsH l))])] ?_
  have nl : l.length < 2 ^ 62 := by omega
  have e1 : (0 + l.length) * 32 ≤ 140737488355328 := by rw [Nat.zero_add]; exact hl
  refine ⟨e1, ?_⟩
  repeat refine Or.inl ?_
  refine ⟨⟨rfl, rfl, Nat.zero_add _, catH0 l⟩, ?_⟩
  repeat refine Or.inl ?_
  refine ⟨[], _, rRightH_fn l nl, ⟨fun h => ?_, fun h => ?_⟩⟩
  · have h : (!RightH l || decide (now < 0) || decide (now > 1073741824)) = true := h
    have h : (!RightH l || !stepB now) = true := by
      rw [← h]
      unfold stepB
      cases RightH l
      · rfl
      · rw [Bool.eq_iff_iff]
        simp only [Bool.not_true, Bool.false_or, Bool.not_eq_true', Bool.and_eq_false_iff, decide_eq_false_iff_not, Bool.or_eq_true, decide_eq_true_eq]
        omega
    unfold Lift
    rw [if_pos h]
    exact RetIs.soI rfl rfl (fun _ _ => rfl) (fresh_rowsH l) rfl
  have h : (!RightH l || decide (now < 0) || decide (now > 1073741824)) = false := h
  have h : (!RightH l || !stepB now) = false := by
    rw [← h]
    unfold stepB
    cases RightH l
    · rfl
    · rw [Bool.eq_iff_iff]
      simp only [Bool.not_true, Bool.false_or, Bool.not_eq_true', Bool.and_eq_false_iff, decide_eq_false_iff_not, Bool.or_eq_true, decide_eq_true_eq]
      omega
  repeat refine Or.inl ?_
  refine ⟨[], Nat, fun k => k ≤ l.length ∧ ∀ j, j < k → ((l.getD j dH).id == id) = false, fun k => [⟨9, [], .i .i64 k⟩], fun _ => [], fun k => l.length - k,
    ⟨0, [], ⟨Nat.zero_le _, fun j hj => by omega⟩, rfl, rfl, rfl, rfl, rfl, ⟨rfl, rfl⟩, trivial⟩, ?_⟩
  rintro k ⟨hk, hno⟩
  have ek : (k : Int).toNat = k := Int.toNat_natCast k
  refine .inl ⟨fun hc => ?_, fun hc => ?_⟩
  · have hc := dlt hc
    repeat refine Or.inl ?_
    refine ⟨⟨by omega, by omega⟩, by omega, ?_⟩
    repeat refine Or.inl ?_
    refine ⟨fun h2 => ?_, fun h2 => ?_⟩
    · have h2 : ((l.getD (k : Int).toNat dH).id != id) = true := h2
      rw [ek] at h2
      refine ⟨k + 1, [], ⟨by omega, fun j hj => ?_⟩, by dsimp only; omega, rfl, rfl, rfl, rfl, rfl, ⟨rfl, wr (by omega) (by omega)⟩, trivial⟩
      by_cases hjk : j = k
      · rw [hjk]; simpa using h2
      · exact hno j (by omega)
    have h2 : ((l.getD (k : Int).toNat dH).id != id) = false := h2
    rw [ek] at h2
    have h2 : ((l.getD k dH).id == id) = true := by simpa using h2
    have hL : Lift l id now = liftK l now k := by
      unfold Lift
      rw [if_neg (by rw [h]; simp), find_some (p := fun x => x.id == id) (by omega) h2 hno]
    rw [hL]
    repeat refine Or.inl ?_
    refine ⟨⟨by omega, by omega⟩, by omega, ?_⟩
    repeat refine Or.inl ?_
    refine ⟨fun h3 => ?_, fun h3 => ?_⟩
    · have h3 : decide ((l.getD (k : Int).toNat dH).fr > now) = true := h3
      rw [ek, decide_eq_true_eq] at h3
      have e : liftK l now k = (l, 15) := by unfold liftK; rw [if_pos h3]
      rw [e]
      exact RetIs.soI rfl rfl (fun _ _ => rfl) (fresh_rowsH l) rfl
    have h3 : decide ((l.getD (k : Int).toNat dH).fr > now) = false := h3
    rw [ek, decide_eq_false_iff_not] at h3
    repeat refine Or.inl ?_
    refine ⟨⟨by omega, by omega⟩, by omega, fun _ => by omega, fun _ => by omega, ?_⟩
    refine ⟨fun h4 => ?_, fun h4 => ?_⟩
    · have h4 : ((l.getD (k : Int).toNat dH).to != -1 && decide ((l.getD (k : Int).toNat dH).to ≤ now)) = true := h4
      rw [ek] at h4
      have e : liftK l now k = (l, 16) := by unfold liftK; rw [if_neg h3, if_pos h4]
      rw [e]
      exact RetIs.soI rfl rfl (fun _ _ => rfl) (fresh_rowsH l) rfl
    · have h4 : ((l.getD (k : Int).toNat dH).to != -1 && decide ((l.getD (k : Int).toNat dH).to ≤ now)) = false := h4
      rw [ek] at h4
      have e : liftK l now k = (l.set k ((l.getD k dH).lift now), 0) := by unfold liftK; rw [if_neg h3, if_neg (by rw [h4]; simp)]
      rw [e]
      refine ⟨⟨by omega, by omega⟩, by omega, ?_⟩
      refine RetIs.soI rfl (by simp) (fun q hq => ?_) (fresh_rowsH _) rfl
      rw [← set_rowsH l k now (by omega) q hq]
      show (if q = (k : Int).toNat then _ else _) = _
      rw [ek]
      rfl
  · have hc := dnlt hc
    unfold Lift
    rw [if_neg (by rw [h]; simp), find_none (p := fun x => x.id == id) fun j hj => hno j (by omega)]
    exact RetIs.soI rfl rfl (fun _ _ => rfl) (fresh_rowsH l) rfl
end Go.Proofs.Ytklmfkejgjhneaa
