/-
  The engine: maps that only grow, as lists of pairs.
-/
import Derived.Test.YtklmfkejgjhneaaEng13
namespace Go.Eng
open Go.RowKit

section
variable {α γ : Type} [DecidableEq α]

/-- The pairs, with k's value set. -/
def mset : List (α × γ) → α → γ → List (α × γ)
  | [], k, v => [(k, v)]
  | p :: r, k, v => if p.1 = k then (k, v) :: r else p :: mset r k v
def mget : List (α × γ) → α → Option γ
  | [], _ => none
  | p :: r, k => if p.1 = k then some p.2 else mget r k
/-- A map of one's own that holds these pairs, in the order in which they came. -/
def mpL (kf : α → AV) (vf : γ → AV) (d : α × γ) (L : List (α × γ)) : AO := .mp L.length (fun i => kf (L.getD i d).1) (fun i => vf (L.getD i d).2) (fun i => i) L.length

theorem mget_none {L : List (α × γ)} {k : α} (h : mget L k = none) (d : α × γ) : ∀ i, i < L.length → (L.getD i d).1 ≠ k := by
  induction L with
  | nil => intro i hi; simp at hi
  | cons p r ih =>
    unfold mget at h
    split at h
    · cases h
    · rename_i hne
      intro i hi
      cases i with
      | zero => simpa using hne
      | succ i => simpa using ih h i (by simpa using hi)
theorem mget_some {L : List (α × γ)} {k : α} {v : γ} (h : mget L k = some v) (d : α × γ) : ∃ i, i < L.length ∧ (L.getD i d).1 = k ∧ (L.getD i d).2 = v := by
  induction L with
  | nil => cases h
  | cons p r ih =>
    unfold mget at h
    split at h
    · rename_i he
      exact ⟨0, by simp, by simpa using he, by simpa using h⟩
    · obtain ⟨i, h1, h2, h3⟩ := ih h
      exact ⟨i + 1, by simpa using h1, by simpa using h2, by simpa using h3⟩
theorem mset_upd {L : List (α × γ)} {k : α} {v : γ} (d : α × γ) : (∃ i, i < L.length ∧ (L.getD i d).1 = k ∧ (mset L k v).length = L.length ∧ ∀ j, j < L.length → ((mset L k v).getD j d).1 = (L.getD j d).1 ∧ ((mset L k v).getD j d).2 = if j = i then v else (L.getD j d).2) ∨
    ((∀ i, i < L.length → (L.getD i d).1 ≠ k) ∧ mset L k v = L ++ [(k, v)]) := by
  induction L with
  | nil => exact .inr ⟨fun i hi => by simp at hi, rfl⟩
  | cons p r ih =>
    unfold mset
    split
    · rename_i he
      refine .inl ⟨0, by simp, by simpa using he, by simp, fun j hj => ?_⟩
      cases j with
      | zero => simp [he]
      | succ j => simp
    · rename_i hne
      rcases ih with ⟨i, h1, h2, h3, h4⟩ | ⟨h1, h2⟩
      · refine .inl ⟨i + 1, by simpa using h1, by simpa using h2, by simp [h3], fun j hj => ?_⟩
        cases j with
        | zero => simp
        | succ j =>
          obtain ⟨e1, e2⟩ := h4 j (by simpa using hj)
          simp only [List.getD_cons_succ, Nat.add_right_cancel_iff]
          exact ⟨e1, e2⟩
      · refine .inr ⟨fun i hi => ?_, by rw [h2]; rfl⟩
        cases i with
        | zero => simpa using hne
        | succ i => simpa using h1 i (by simpa using hi)
theorem getD_snoc {α : Type} (L : List α) (x d : α) (j : Nat) : (L ++ [x]).getD j d = if j < L.length then L.getD j d else if j = L.length then x else d := by
  simp only [List.getD]
  by_cases h : j < L.length
  · rw [if_pos h, List.getElem?_append_left h]
  · rw [if_neg h, List.getElem?_append_right (by omega)]
    by_cases h2 : j = L.length
    · rw [if_pos h2, h2]; simp
    · rw [if_neg h2, List.getElem?_eq_none (by simp; omega)]; rfl

theorem updOk_mset {kf : α → AV} {vf : γ → AV} {d : α × γ} {L : List (α × γ)} (hk : ∀ a b, kf a = kf b → a = b) (k : α) (v : γ) :
    UpdOk L.length (fun i => kf (L.getD i d).1) (fun i => vf (L.getD i d).2) (fun i => i) L.length (kf k) (vf v) (mset L k v).length (fun i => kf ((mset L k v).getD i d).1) (fun i => vf ((mset L k v).getD i d).2) (fun i => i) (mset L k v).length := by
  rcases mset_upd (L := L) (k := k) (v := v) d with ⟨i, h1, h2, h3, h4⟩ | ⟨h1, h2⟩
  · refine .inl ⟨i, h1, congrArg kf h2, h3, h3, fun j hj => ?_⟩
    obtain ⟨e1, e2⟩ := h4 j hj
    refine ⟨congrArg kf e1, rfl, (congrArg vf e2).trans ?_⟩
    split <;> rfl
  · refine .inr ⟨fun i hi he => h1 i hi (hk _ _ he), by rw [h2]; simp, by rw [h2]; simp, fun j hj => ?_, ?_, ?_, rfl⟩
    · rw [h2]
      simp only [getD_snoc, if_pos hj]
      exact ⟨trivial, trivial, trivial⟩
    · rw [h2]
      simp []
    · rw [h2]
      simp []
theorem lookOk_mget {kf : α → AV} {vf : γ → AV} {d : α × γ} {L : List (α × γ)} (hk : ∀ a b, kf a = kf b → a = b) (k : α) (z : γ) :
    LookOk L.length (fun i => kf (L.getD i d).1) (fun i => vf (L.getD i d).2) (kf k) (vf ((mget L k).getD z)) (vf z) (mget L k).isSome := by
  cases h : mget L k with
  | none => exact ⟨fun h => (by cases h), fun _ => ⟨fun i hi he => mget_none h d i hi (hk _ _ he), AVEq.refl _⟩⟩
  | some v =>
    obtain ⟨i, h1, h2, h3⟩ := mget_some h d
    refine ⟨fun _ => ⟨i, h1, congrArg kf h2, ?_⟩, fun h => (by cases h)⟩
    have e : vf ((some v).getD z) = vf (L.getD i d).2 := congrArg vf h3.symm
    rw [e]
    exact AVEq.refl _
/-- What one map's lookup says behind a setting. -/
theorem mget_mset {L : List (α × γ)} {k j : α} {v : γ} : mget (mset L k v) j = if j = k then some v else mget L j := by
  induction L with
  | nil =>
    simp only [mset, mget]
    by_cases h : j = k
    · simp [h]
    · rw [if_neg (Ne.symm h), if_neg h]
  | cons p r ih =>
    simp only [mset]
    split
    · rename_i he
      simp only [mget]
      by_cases h : j = k
      · simp [h]
      · rw [if_neg (Ne.symm h), if_neg h, he, if_neg (Ne.symm h)]
    · rename_i hne
      simp only [mget, ih]
      by_cases h1 : p.1 = j
      · rw [if_pos h1, if_pos h1]
        by_cases h : j = k
        · exact absurd (h1.trans h) hne
        · rw [if_neg h]
      · rw [if_neg h1, if_neg h1]
def mkeys (L : List (α × γ)) : List α := L.map (·.1)
theorem mem_mkeys {L : List (α × γ)} {k : α} : k ∈ mkeys L ↔ (mget L k).isSome = true := by
  induction L with
  | nil => simp [mkeys, mget]
  | cons p r ih =>
    simp only [mkeys, List.map_cons, List.mem_cons, mget]
    by_cases h : p.1 = k
    · simp [h]
    · rw [if_neg h, ← ih]
      simp [mkeys, Ne.symm h]
theorem nodup_mset {L : List (α × γ)} (h : (mkeys L).Nodup) (k : α) (v : γ) : (mkeys (mset L k v)).Nodup := by
  induction L with
  | nil => simp [mset, mkeys]
  | cons p r ih =>
    simp only [mkeys, List.map_cons, List.nodup_cons] at h
    simp only [mset]
    split
    · rename_i he
      simp only [mkeys, List.map_cons, List.nodup_cons]
      rw [← he]
      exact h
    · rename_i hne
      simp only [mkeys, List.map_cons, List.nodup_cons]
      refine ⟨fun hm => h.1 ?_, ih h.2⟩
      have h1 : p.1 ∈ mkeys (mset r k v) := hm
      rw [mem_mkeys, mget_mset, if_neg hne] at h1
      exact mem_mkeys.2 h1
end
theorem i64_inj : ∀ a b : Int, AV.i .i64 a = AV.i .i64 b → a = b := fun a b h => by simpa using h
end Go.Eng
