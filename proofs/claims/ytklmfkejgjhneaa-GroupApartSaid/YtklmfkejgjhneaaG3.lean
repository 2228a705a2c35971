/-
  Groups: Stays.
-/
import Derived.Test.YtklmfkejgjhneaaG2
namespace Go.Proofs.Ytklmfkejgjhneaa
open Go.Eng

def openAt (S : List Sta) (a g : Int) (q : Nat) : Prop := q < S.length ∧ (S.getD q dS).acc = a ∧ (S.getD q dS).grp = g ∧ (S.getD q dS).to = -1
/-- The map leads from each place that is open to its stay. -/
structure OIS (S : List Sta) (O : List ((Int × Int) × Int)) : Prop where
  nodup : (mkeys O).Nodup
  get : ∀ (a g v : Int), mget O (a, g) = some v ↔ ∃ q : Nat, v = q ∧ openAt S a g q
theorem OIS.noOpen {S : List Sta} {O : List ((Int × Int) × Int)} (h : OIS S O) {a g : Int} (hn : mget O (a, g) = none) (q : Nat) : ¬ openAt S a g q := fun hq => by
  have := (h.get a g q).2 ⟨q, rfl, hq⟩
  rw [hn] at this
  cases this
theorem OIS.empty : OIS [] [] := ⟨List.nodup_nil, fun a g v => ⟨fun h => (by cases h), fun ⟨q, _, h, _⟩ => (by simp at h)⟩⟩
theorem OIS.join {S : List Sta} {O : List ((Int × Int) × Int)} (h : OIS S O) {a g : Int} (hn : mget O (a, g) = none) (k : Int) : OIS (S ++ [⟨a, g, k, -1⟩]) (mset O (a, g) S.length) := by
  refine ⟨nodup_mset h.nodup _ _, fun a' g' v => ?_⟩
  rw [mget_mset]
  by_cases hp : (a', g') = (a, g)
  · rw [if_pos hp]
    simp only [Prod.mk.injEq] at hp
    obtain ⟨rfl, rfl⟩ := hp
    constructor
    · intro hv
      refine ⟨S.length, (Option.some.inj hv).symm, by simp, ?_⟩
      rw [getD_append_ge dS _ _ _ (Nat.le_refl _)]
      simp
    · rintro ⟨q, rfl, hq, h1⟩
      by_cases hl : q < S.length
      · rw [getD_append_lt dS _ _ _ hl] at h1
        exact (h.noOpen hn q ⟨hl, h1⟩).elim
      · have : q = S.length := by simp at hq; omega
        rw [this]
  · rw [if_neg hp, h.get]
    constructor
    · rintro ⟨q, rfl, hq, h1⟩
      exact ⟨q, rfl, by simp; omega, by rw [getD_append_lt dS _ _ _ hq]; exact h1⟩
    · rintro ⟨q, rfl, hq, h1⟩
      by_cases hl : q < S.length
      · rw [getD_append_lt dS _ _ _ hl] at h1
        exact ⟨q, rfl, hl, h1⟩
      · have : q = S.length := by simp at hq; omega
        subst this
        rw [getD_append_ge dS _ _ _ (Nat.le_refl _)] at h1
        simp at h1
        exact (hp (by rw [h1.1, h1.2])).elim
theorem OIS.close {S : List Sta} {O : List ((Int × Int) × Int)} (h : OIS S O) {a g : Int} {q : Nat} (hq : openAt S a g q) (k : Nat) : OIS (S.set q ⟨a, g, (S.getD q dS).fr, k⟩) (mdel O (a, g)) := by
  refine ⟨nodup_mdel h.nodup _, fun a' g' v => ?_⟩
  rw [mget_mdel h.nodup]
  have hget := getD_setD dS S q ⟨a, g, (S.getD q dS).fr, k⟩ hq.1
  by_cases hp : (a', g') = (a, g)
  · rw [if_pos hp]
    simp only [Prod.mk.injEq] at hp
    obtain ⟨rfl, rfl⟩ := hp
    refine ⟨fun hv => (by cases hv), ?_⟩
    rintro ⟨j, rfl, hj, h1⟩
    exfalso
    rw [hget] at h1
    rw [List.length_set] at hj
    by_cases hjq : j = q
    · rw [if_pos hjq] at h1
      have := h1.2.2
      dsimp only at this
      omega
    · rw [if_neg hjq] at h1
      have e1 := (h.get a' g' j).2 ⟨j, rfl, hj, h1⟩
      have e2 := (h.get a' g' q).2 ⟨q, rfl, hq⟩
      rw [e1] at e2
      have := Option.some.inj e2
      omega
  · rw [if_neg hp, h.get]
    constructor
    · rintro ⟨j, rfl, hj, h1⟩
      refine ⟨j, rfl, by rw [List.length_set]; exact hj, ?_⟩
      rw [hget, if_neg]
      · exact h1
      · rintro rfl
        exact hp (by rw [← h1.1, ← h1.2.1, hq.2.1, hq.2.2.1])
    · rintro ⟨j, rfl, hj, h1⟩
      rw [List.length_set] at hj
      rw [hget] at h1
      by_cases hjq : j = q
      · rw [if_pos hjq] at h1
        have := h1.2.2
        dsimp only at this
        omega
      · rw [if_neg hjq] at h1
        exact ⟨j, rfl, hj, h1⟩

theorem stays_get {e : Nat → Ev} {n q : Nat} (h : q < (stays e n).length) : ∃ i, i < n ∧ startP e i = true ∧ (stays e n).getD q dS = mkS e n i ∧ (starts e n).getD q 0 = i := by
  unfold stays at h ⊢
  rw [List.length_map] at h
  have hm : (starts e n).getD q 0 ∈ starts e n := getD_memD 0 h
  refine ⟨_, (mem_starts.1 hm).1, (mem_starts.1 hm).2, ?_, rfl⟩
  rw [getD_mapD 0 dS _ _ _ h]
theorem isSome_in {e : Nat → Ev} {n : Nat} {O : List ((Int × Int) × Int)} (h : OIS (stays e n) O) (a g : Int) : (mget O (a, g)).isSome = inN e a g n := by
  rw [Bool.eq_iff_iff, in_open, Option.isSome_iff_exists]
  constructor
  · rintro ⟨v, hv⟩
    obtain ⟨q, _, hq, h1, h2, h3⟩ := (h.get a g v).1 hv
    obtain ⟨i, hi, hs, he, _⟩ := stays_get hq
    rw [he] at h1 h2 h3
    subst h1 h2
    exact ⟨i, hi, hs, rfl, rfl, h3⟩
  · rintro ⟨i, hi, hs, rfl, rfl, h3⟩
    have hm : i ∈ starts e n := mem_starts.2 ⟨hi, hs⟩
    obtain ⟨q, hq, hqi⟩ := List.getElem_of_mem hm
    refine ⟨q, (h.get _ _ q).2 ⟨q, rfl, ?_⟩⟩
    have hgd : (stays e n).getD q dS = mkS e n i := by
      unfold stays
      rw [getD_mapD 0 dS _ _ _ hq]
      simp [List.getD, hq, hqi]
    refine ⟨by unfold stays; rw [List.length_map]; exact hq, ?_⟩
    rw [hgd]
    exact ⟨rfl, rfl, h3⟩
theorem close_id {S : List Sta} {ev : Ev} {n : Nat} (h : ∀ q a g, openAt S a g q → endsP ev a g = false) : S.map (closeS ev n) = S := by
  refine List.ext_getElem (by simp) fun q h1 h2 => ?_
  rw [List.getElem_map]
  unfold closeS
  rw [if_neg]
  rintro ⟨h3, h4⟩
  have e : S.getD q dS = S[q] := by simp [List.getD, h2]
  have := h q S[q].acc S[q].grp ⟨h2, by rw [e], by rw [e], by rw [e]; exact h3⟩
  rw [this] at h4
  cases h4
theorem close_set {S : List Sta} {O : List ((Int × Int) × Int)} (h : OIS S O) {ev : Ev} {n : Nat} {a g : Int} (hE : ∀ a' g', endsP ev a' g' = true ↔ a' = a ∧ g' = g) {q : Nat} (hq : openAt S a g q) :
    S.map (closeS ev n) = S.set q ⟨a, g, (S.getD q dS).fr, n⟩ := by
  refine List.ext_getElem (by simp) fun j h1 h2 => ?_
  rw [List.length_map] at h1
  rw [List.getElem_map, List.getElem_set]
  have e : S.getD j dS = S[j] := by simp [List.getD, h1]
  unfold closeS
  by_cases hj : q = j
  · subst hj
    rw [if_pos rfl, if_pos]
    · have := hq.2
      rw [e] at this ⊢
      rw [this.1, this.2.1]
    · have := hq.2
      rw [e] at this
      exact ⟨this.2.2, (hE _ _).2 ⟨this.1, this.2.1⟩⟩
  · rw [if_neg hj, if_neg]
    rintro ⟨h3, h4⟩
    obtain ⟨h5, h6⟩ := (hE _ _).1 h4
    have e1 := (h.get a g j).2 ⟨j, rfl, h1, by rw [e, h5], by rw [e, h6], by rw [e]; exact h3⟩
    have e2 := (h.get a g q).2 ⟨q, rfl, hq⟩
    rw [e1] at e2
    have := Option.some.inj e2
    omega

/-- The place that an event is about. -/
def plc (e : Ev) : Int × Int := if e.kind = 6 then (e.author, e.group) else (e.who, e.group)
theorem ends_iff {e : Ev} (h : e.kind = 6 ∨ e.kind = 7) (a g : Int) : endsP e a g = true ↔ a = (plc e).1 ∧ g = (plc e).2 := by
  unfold endsP plc
  rcases h with h | h
  · rw [if_pos h, h]
    simp only [Bool.and_eq_true, beq_iff_eq, Bool.or_eq_true]
    constructor
    · rintro ⟨h1, h2⟩
      rcases h2 with ⟨_, h2⟩ | ⟨h2, _⟩
      · exact ⟨h2.symm, h1.symm⟩
      · omega
    · rintro ⟨h1, h2⟩
      exact ⟨h2.symm, .inl ⟨trivial, h1.symm⟩⟩
  · rw [if_neg (by omega), h]
    simp only [Bool.and_eq_true, beq_iff_eq, Bool.or_eq_true]
    constructor
    · rintro ⟨h1, h2⟩
      rcases h2 with ⟨h2, _⟩ | ⟨_, h2⟩
      · omega
      · exact ⟨h2.symm, h1.symm⟩
    · rintro ⟨h1, h2⟩
      exact ⟨h2.symm, .inr ⟨trivial, h1.symm⟩⟩
theorem ends_kind {e : Ev} {a g : Int} (h : endsP e a g = true) : e.kind = 6 ∨ e.kind = 7 := by
  unfold endsP at h
  simp only [Bool.and_eq_true, beq_iff_eq, Bool.or_eq_true] at h
  rcases h.2 with h | h
  · exact .inl h.1
  · exact .inr h.1

section
variable {e : Nat → Ev} {k : Nat} {O : List ((Int × Int) × Int)} (h : OIS (stays e k) O)
include h
theorem go_join (h5 : (e k).kind = 5) (hn : mget O (plc (e k)) = none) : stays e (k + 1) = stays e k ++ [⟨(plc (e k)).1, (plc (e k)).2, k, -1⟩] ∧ OIS (stays e (k + 1)) (mset O (plc (e k)) (stays e k).length) := by
  have hp : plc (e k) = ((e k).who, (e k).group) := by unfold plc; rw [if_neg (by omega)]
  have hin : inN e (e k).who (e k).group k = false := by
    rw [← isSome_in h, ← hp, hn]
    rfl
  have hst : startP e k = true := by
    unfold startP
    rw [h5, hin]
    rfl
  have hS : stays e (k + 1) = stays e k ++ [⟨(plc (e k)).1, (plc (e k)).2, k, -1⟩] := by
    rw [stays_succ, close_id (fun q a g _ => join_not_end h5 a g), if_pos hst, hp]
  rw [hS]
  refine ⟨rfl, ?_⟩
  rw [hp] at hn ⊢
  exact h.join hn k
theorem go_end (hk : (e k).kind = 6 ∨ (e k).kind = 7) {v : Int} (hv : mget O (plc (e k)) = some v) : ∃ q : Nat, v = q ∧ q < (stays e k).length ∧
    stays e (k + 1) = (stays e k).set q ⟨((stays e k).getD q dS).acc, ((stays e k).getD q dS).grp, ((stays e k).getD q dS).fr, k⟩ ∧ OIS (stays e (k + 1)) (mdel O (plc (e k))) := by
  obtain ⟨q, rfl, hq⟩ := (h.get (plc (e k)).1 (plc (e k)).2 v).1 hv
  have hst : ¬ startP e k = true := by
    unfold startP
    rw [beq_eq_false_iff_ne.2 (by omega : (e k).kind ≠ 5)]
    simp
  have hS : stays e (k + 1) = (stays e k).set q ⟨(plc (e k)).1, (plc (e k)).2, ((stays e k).getD q dS).fr, k⟩ := by
    rw [stays_succ, if_neg hst, List.append_nil, close_set h (ends_iff hk) hq]
  refine ⟨q, rfl, hq.1, ?_, ?_⟩
  · rw [hS, hq.2.1, hq.2.2.1]
  · rw [hS]
    exact h.close hq k
theorem go_skip (h1 : (e k).kind = 5 → (mget O (plc (e k))).isSome = true) (h2 : (e k).kind = 6 ∨ (e k).kind = 7 → mget O (plc (e k)) = none) : stays e (k + 1) = stays e k := by
  have hst : ¬ startP e k = true := by
    unfold startP
    by_cases h5 : (e k).kind = 5
    · have hp : plc (e k) = ((e k).who, (e k).group) := by unfold plc; rw [if_neg (by omega)]
      have hin := h1 h5
      rw [hp, isSome_in h] at hin
      rw [hin]
      simp
    · rw [beq_eq_false_iff_ne.2 h5]
      simp
  rw [stays_succ, if_neg hst, List.append_nil, close_id]
  intro q a g hq
  cases hE : endsP (e k) a g
  · rfl
  · have hk := ends_kind hE
    obtain ⟨rfl, rfl⟩ := (ends_iff hk a g).1 hE
    exact (h.noOpen (h2 hk) q hq).elim
end

def kfP (p : Int × Int) : AV := .ag [.i .i64 p.1, .i .i64 p.2]
def dP : (Int × Int) × Int := ((0, 0), 0)
theorem kfP_inj : ∀ a b, kfP a = kfP b → a = b := by
  rintro ⟨a1, a2⟩ ⟨b1, b2⟩ h
  simp only [kfP, AV.ag.injEq, List.cons.injEq, AV.i.injEq] at h
  rw [h.1.2, h.2.1.2]
abbrev mpP (O : List ((Int × Int) × Int)) (born : Nat → Nat) (clock : Nat) : AO := mpB kfP (fun v : Int => .i .i64 v) dP O born clock
theorem snocS (S : List Sta) (s : Sta) : ∀ k, k < (S ++ [s]).length → catG S.length (rowsS S) (rowOf 4 s.av) k = rowsS (S ++ [s]) k := by
  intro k hk
  unfold catG rowsS
  by_cases h : k < S.length
  · rw [if_pos h, getD_append_lt dS _ _ _ h]
  · rw [if_neg h]
    have : k = S.length := by simp at hk; omega
    subst this
    rw [getD_append_ge dS _ _ _ (Nat.le_refl _)]
    simp
    rfl
theorem set_rowsS (S : List Sta) (q : Nat) (k : Int) (hq : q < S.length) (s : Sta) (hs : s = ⟨(S.getD q dS).acc, (S.getD q dS).grp, (S.getD q dS).fr, k⟩) : ∀ j, j < (S.set q s).length →
    (if j = q then over 3 [.i .i64 k] (rowsS S j) else rowsS S j) = rowsS (S.set q s) j := by
  intro j hj
  subst hs
  unfold rowsS
  rw [getD_setD dS S q _ hq]
  by_cases h : j = q
  · subst h
    rw [if_pos rfl, if_pos rfl]
    rfl
  · rw [if_neg h, if_neg h]
end Go.Proofs.Ytklmfkejgjhneaa
