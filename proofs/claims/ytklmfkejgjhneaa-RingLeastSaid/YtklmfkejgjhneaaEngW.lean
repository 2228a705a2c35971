/-
  The engine: contracts at arguments of which more is known; maps from which pairs are taken; small lemmas on lists.
-/
import Derived.Test.YtklmfkejgjhneaaEngL
namespace Go.Eng
open Go.RowKit

/-! ### less known of a value -/
/-- Whatever b says of a value, a says. -/
def AVW (a b : AV) : Prop := ∀ (w : World) (v : Value), Rep0 (fun _ => False) w b v → Rep0 (fun _ => False) w a v
theorem AVW.refl (a : AV) : AVW a a := fun _ _ h => h
theorem AVW.of_eq {a b : AV} (h : AVEq a b) : AVW a b := fun _ _ hr => h.rep0 hr
theorem AVW.u (b : AV) : AVW .u b := fun _ v _ => .u v
theorem AVW.nil (sz : Nat) (get : Nat → List AV) : AVW (.rs sz 0 get) (.val (.slice none 0 0)) := fun _ v h => by cases h; exact .rsnil _ _
theorem AVW.nil2 (sz : Nat) (get get' : Nat → List AV) : AVW (.rs sz 0 get) (.rs sz 0 get') := fun _ v h => by
  have e : AVEq (.rs sz 0 get) (.rs sz 0 get') := ⟨rfl, rfl, fun k hk => by omega⟩
  exact e.rep0 h
def AVWs : List AV → List AV → Prop
  | [], [] => True
  | a :: r, b :: t => AVW a b ∧ AVWs r t
  | _, _ => False
theorem AVWs.get : ∀ {l m : List AV}, AVWs l m → l.length = m.length ∧ ∀ (j : Nat) (h1 : j < l.length) (h2 : j < m.length), AVW l[j] m[j]
  | [], [], _ => ⟨rfl, fun j h1 => by simp at h1⟩
  | [], _ :: _, h => h.elim
  | _ :: _, [], h => h.elim
  | a :: r, b :: t, h => by
    obtain ⟨h1, h2⟩ := h.2.get
    refine ⟨by simp [h1], fun j h3 h4 => ?_⟩
    cases j with
    | zero => exact h.1
    | succ j => exact h2 j (by simpa using h3) (by simpa using h4)
theorem AVWs.refl : ∀ l : List AV, AVWs l l
  | [] => trivial
  | a :: r => ⟨AVW.refl a, AVWs.refl r⟩
theorem AVW.rs {sz n : Nat} {g g' : Nat → List AV} (h : ∀ k, k < n → AVWs (g k) (g' k)) : AVW (.rs sz n g) (.rs sz n g') := by
  intro w v hr
  cases hr with
  | rsnil => exact .rsnil _ _
  | rsz _ _ a => exact .rsz _ _ a
  | rs _ _ _ b off cap vs hn hm hF hg hlen hc h1 hh =>
    refine .rs sz n g b off cap vs hn hm hF hg (fun k hk => by rw [(h k hk).get.1]; exact hlen k hk) hc h1 fun k j hk hj => ?_
    have hg' := (h k hk).get
    exact hg'.2 j hj (by rw [← hg'.1]; exact hj) w _ (hh k j hk (by rw [← hg'.1]; exact hj))
theorem AVW.rs' {sz n n' : Nat} {g g' : Nat → List AV} (hn : n' = n) (h : ∀ k, k < n → AVWs (g k) (g' k)) : AVW (.rs sz n g) (.rs sz n' g') := by
  subst hn
  exact AVW.rs h
theorem AVW.ag {cs ds : List AV} (h : AVWs cs ds) : AVW (.ag cs) (.ag ds) := by
  intro w v hr
  cases hr with
  | ag _ vs hl hh =>
    have hg := h.get
    exact .ag cs vs (by rw [hg.1]; exact hl) fun j h1 h2 => hg.2 j h1 (by rw [← hg.1]; exact h1) w _ (hh j (by rw [← hg.1]; exact h1) h2)
theorem Ctr.of_w {P : Program} {f : FuncId} {args args' : List AV} {os : List AO} {r : AV} (h : AVWs args args') (c : Ctr P f args os r) : Ctr P f args' os r :=
  ⟨c.1, fun w vs hl hr => c.2 w vs (h.get.1.trans hl) fun j h1 h2 => h.get.2 j h1 (by rw [← h.get.1]; exact h1) w _ (hr j (by rw [← h.get.1]; exact h1) h2)⟩

/-! ### sizes -/
theorem fits {n sz : Nat} (h : n ≤ 1000000) (hs : sz ≤ 1000 := by decide) : n * sz ≤ 140737488355328 := Nat.le_trans (Nat.mul_le_mul h hs) (by decide)

/-! ### maps from which pairs are taken -/
section
variable {α γ : Type} [DecidableEq α]
/-- A map of one's own with these pairs; when each came, is said beside. -/
def mpB (kf : α → AV) (vf : γ → AV) (d : α × γ) (L : List (α × γ)) (born : Nat → Nat) (clock : Nat) : AO := .mp L.length (fun i => kf (L.getD i d).1) (fun i => vf (L.getD i d).2) born clock
def mdel : List (α × γ) → α → List (α × γ)
  | [], _ => []
  | p :: r, k => if p.1 = k then r else p :: mdel r k
theorem mdel_at {L : List (α × γ)} {k : α} (h : (mget L k).isSome = true) (d : α × γ) : ∃ i, i < L.length ∧ (L.getD i d).1 = k ∧ L.length = (mdel L k).length + 1 ∧ ∀ j, j < (mdel L k).length → (mdel L k).getD j d = L.getD (if j < i then j else j + 1) d := by
  induction L with
  | nil => cases h
  | cons p r ih =>
    simp only [mget] at h
    simp only [mdel]
    by_cases he : p.1 = k
    · rw [if_pos he]
      exact ⟨0, by simp, by simpa using he, by simp, fun j hj => by simp⟩
    · rw [if_neg he] at h
      rw [if_neg he]
      obtain ⟨i, h1, h2, h3, h4⟩ := ih h
      refine ⟨i + 1, by simpa using h1, by simpa using h2, by simp [h3], fun j hj => ?_⟩
      cases j with
      | zero => simp
      | succ j =>
        have := h4 j (by simpa using hj)
        simp only [List.getD_cons_succ, Nat.add_lt_add_iff_right]
        rw [this]
        split
        · rw [List.getD_cons_succ]
        · rw [List.getD_cons_succ]
theorem mget_mem {L : List (α × γ)} {k : α} {v : γ} (h : mget L k = some v) : k ∈ mkeys L := mem_mkeys.2 (by rw [h]; rfl)
theorem mget_mdel {L : List (α × γ)} (hn : (mkeys L).Nodup) (k j : α) : mget (mdel L k) j = if j = k then none else mget L j := by
  induction L with
  | nil => simp [mdel, mget]
  | cons p r ih =>
    simp only [mkeys, List.map_cons, List.nodup_cons] at hn
    have ih := ih hn.2
    simp only [mdel]
    by_cases he : p.1 = k
    · rw [if_pos he]
      by_cases hj : j = k
      · rw [if_pos hj]
        have hnot : ¬ (mget r j).isSome = true := fun hs => hn.1 (by rw [he, ← hj]; exact mem_mkeys.2 hs)
        cases hm : mget r j with
        | none => rfl
        | some v => rw [hm] at hnot; exact (hnot rfl).elim
      · rw [if_neg hj]
        simp only [mget]
        rw [if_neg (by rw [he]; exact Ne.symm hj)]
    · rw [if_neg he]
      simp only [mget]
      by_cases hj : p.1 = j
      · rw [if_pos hj, if_pos hj, if_neg (by rw [← hj]; exact he)]
      · rw [if_neg hj, if_neg hj, ih]
theorem nodup_mdel {L : List (α × γ)} (h : (mkeys L).Nodup) (k : α) : (mkeys (mdel L k)).Nodup := by
  induction L with
  | nil => simp [mdel, mkeys]
  | cons p r ih =>
    simp only [mkeys, List.map_cons, List.nodup_cons] at h
    simp only [mdel]
    by_cases he : p.1 = k
    · rw [if_pos he]; exact h.2
    · rw [if_neg he]
      simp only [mkeys, List.map_cons, List.nodup_cons]
      refine ⟨fun hm => h.1 ?_, ih h.2⟩
      have h1 : p.1 ∈ mkeys (mdel r k) := hm
      rw [mem_mkeys, mget_mdel h.2, if_neg he] at h1
      exact mem_mkeys.2 h1
theorem mset_new {L : List (α × γ)} {k : α} (h : mget L k = none) (v : γ) : mset L k v = L ++ [(k, v)] := by
  induction L with
  | nil => rfl
  | cons p r ih =>
    simp only [mget] at h
    by_cases he : p.1 = k
    · rw [if_pos he] at h; cases h
    · rw [if_neg he] at h
      simp only [mset, if_neg he, ih h]
      rfl
variable {kf : α → AV} {vf : γ → AV} {d : α × γ} {L : List (α × γ)} {born : Nat → Nat} {clock : Nat}
theorem updOk_new (hk : ∀ a b, kf a = kf b → a = b) {k : α} (h : mget L k = none) (v : γ) :
    UpdOk L.length (fun i => kf (L.getD i d).1) (fun i => vf (L.getD i d).2) born clock (kf k) (vf v) (mset L k v).length (fun i => kf ((mset L k v).getD i d).1) (fun i => vf ((mset L k v).getD i d).2)
      (fun j => if j < L.length then born j else clock) (clock + 1) := by
  rw [mset_new h]
  refine .inr ⟨fun i hi he => mget_none h d i hi (hk _ _ he), by simp, rfl, fun j hj => ?_, ?_, ?_, ?_⟩
  · simp only [getD_snoc, if_pos hj]
    exact ⟨trivial, trivial, trivial⟩
  · simp []
  · simp []
  · simp
theorem delOk_mdel {k : α} (h : (mget L k).isSome = true) : ∃ born', DelOk L.length (fun i => kf (L.getD i d).1) (fun i => vf (L.getD i d).2) born (kf k) (mdel L k).length (fun i => kf ((mdel L k).getD i d).1) (fun i => vf ((mdel L k).getD i d).2) born' := by
  obtain ⟨i, h1, h2, h3, h4⟩ := mdel_at h d
  refine ⟨fun j => born (if j < i then j else j + 1), .inl ⟨i, h1, congrArg kf h2, h3, fun j hj => ?_⟩⟩
  have := h4 j hj
  exact ⟨congrArg (fun p => kf p.1) this, rfl, congrArg (fun p => vf p.2) this⟩
end

/-! ### lists -/
theorem any_takeD {α : Type} (d : α) (l : List α) (p : α → Bool) (k : Nat) (h : k < l.length) : (l.take (k + 1)).any p = ((l.take k).any p || p (l.getD k d)) := by
  rw [List.take_succ_eq_append_getElem h, List.any_append]
  simp [List.getD, h]
theorem any_atD {α : Type} (d : α) (l : List α) (p : α → Bool) (k : Nat) (h : k < l.length) (hp : p (l.getD k d) = true) : l.any p = true := by
  rw [List.any_eq_true]
  exact ⟨l.getD k d, by simp [List.getD, h], hp⟩
theorem getD_memD {α : Type} (d : α) {l : List α} {k : Nat} (h : k < l.length) : l.getD k d ∈ l := by
  simp [List.getD, h]
theorem take_getD {α : Type} (d : α) (l : List α) (m k : Nat) (h : k < m) : (l.take m).getD k d = l.getD k d := by
  simp only [List.getD]
  rw [List.getElem?_take, if_pos h]
theorem getD_append_lt {α : Type} (d : α) (l m : List α) (k : Nat) (h : k < l.length) : (l ++ m).getD k d = l.getD k d := by
  simp only [List.getD]
  rw [List.getElem?_append_left h]
theorem getD_append_ge {α : Type} (d : α) (l m : List α) (k : Nat) (h : l.length ≤ k) : (l ++ m).getD k d = m.getD (k - l.length) d := by
  simp only [List.getD]
  rw [List.getElem?_append_right h]
theorem getD_setD {α : Type} (d : α) (l : List α) (k : Nat) (v : α) (hk : k < l.length) (j : Nat) : (l.set k v).getD j d = if j = k then v else l.getD j d := by
  by_cases h : j = k
  · subst h; simp [List.getD, hk]
  · rw [if_neg h]; simp [List.getD, Ne.symm h]
theorem getD_mapD {α β : Type} (d : α) (e : β) (f : α → β) (l : List α) (k : Nat) (h : k < l.length) : (l.map f).getD k e = f (l.getD k d) := by
  simp [List.getD, h]
theorem asc_at {l : List Int} (h : l.Pairwise (· < ·)) {i j : Nat} (hij : i < j) (hj : j < l.length) : l.getD i 0 < l.getD j 0 := by
  have := List.pairwise_iff_getElem.1 h i j (by omega) hj hij
  simpa [List.getD, hj, show i < l.length by omega] using this
/-- A row of anything, with one thing more. -/
theorem snocG {α : Type} (av : α → List AV) (d : α) (l : List α) (v : α) : ∀ k, k < (l ++ [v]).length → catG l.length (fun q => av (l.getD q d)) (fun _ => av v) k = av ((l ++ [v]).getD k d) := by
  intro k hk
  unfold catG
  by_cases h : k < l.length
  · rw [if_pos h]
    dsimp only
    rw [getD_append_lt d l _ k h]
  · rw [if_neg h]
    have : k = l.length := by simp at hk; omega
    subst this
    rw [getD_append_ge d l _ _ (Nat.le_refl _)]
    simp
end Go.Eng
