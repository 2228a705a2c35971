/-
  Verdicts: Changed, on what the kit says of slices.Sorted and maps.Keys.
-/
import Derived.Test.YtklmfkejgjhneaaS5
import Derived.Test.YtklmfkejgjhneaaEngS
namespace Go.Proofs.Ytklmfkejgjhneaa
open Go.Eng

theorem keys_fn (L : List (Int × Bool)) : CtrM Try.prog 71 false [mpIB L] [.mo 0] (fun _ : Unit => True) (fun _ => [mpIB L]) (fun _ => [.cells 94 [.mo 0]]) (fun _ => .fn 96 [.p 1 0]) := by
  refine fn_of_execM tabOk Try.func71 (by kernel_rfl) rfl (N := Try.f71.ntmps) rfl (res := [.tmp 2]) rfl false false [mpIB L] _ _ _ _ rfl (fun h => by cases h) [] ?_
  exact ⟨⟨(), [], trivial, ⟨⟨⟨rfl, rfl, rfl⟩, trivial⟩, ⟨⟨rfl, rfl, trivial, ⟨rfl, rfl, fun _ _ => ⟨rfl, rfl, rfl⟩⟩⟩, ⟨⟨rfl, rfl, rfl, ⟨rfl, rfl⟩⟩, trivial⟩⟩, rfl⟩, rfl, fun _ => ⟨rfl, ⟨fun _ _ => ⟨rfl, rfl⟩, rfl⟩⟩⟩⟩

theorem keysRow (L : List (Int × Bool)) (i : Nat) (h : i < (mkeys L).length) : (mkeys L).getD i 0 = (L.getD i (0, false)).1 := by
  have h2 : i < L.length := by simpa [mkeys] using h
  simp [mkeys, List.getD, h2]
theorem sorted_fn (hS : SortsKeys Try.prog 70 96 3) (L : List (Int × Bool)) (hwf : ∀ k ∈ mkeys L, (Lit.int .i64 k).wf = true) (hb : L.length * 8 ≤ 140737488355328) :
    CtrM Try.prog 70 false [.cells 94 [.mo 1], mpIB L] [.fn 96 [.p 0 0]] (fun _ : Unit => True) (fun _ => [.cells 94 [.mo 1], mpIB L]) (fun _ => [.row 3 1 L.length (rowsI (sortI (mkeys L)))]) (fun _ => .so 2) := by
  have hl : (mkeys L).length = L.length := by simp [mkeys]
  have h := sorts_ctr (mt := 94) hS Try.underlying3 (mkeys L) (fun i => .i .i64 (L.getD i (0, false)).1) (fun i => .b (L.getD i (0, false)).2) (fun i => i) L.length (fun i hi => by rw [keysRow L i hi]) hwf (fun _ _ => rfl) (by rw [hl]; exact hb)
  rw [hl] at h
  exact h

def chgL (l : List Ver) (f t : Int) (m : List Ver) : List (Int × Bool) := m.foldl (fun L v => if Bad l v.name f != Bad l v.name t then mset L v.name true else L) []
theorem chgL_succ (l : List Ver) (f t : Int) (k : Nat) (h : k < l.length) : chgL l f t (l.take (k + 1)) = if Bad l (l.getD k dV).name f != Bad l (l.getD k dV).name t then mset (chgL l f t (l.take k)) (l.getD k dV).name true else chgL l f t (l.take k) :=
  foldl_take _ _ l k dV h
theorem chg_inv (l : List Ver) (f t : Int) : ∀ (m : List Ver) (L : List (Int × Bool)), (mkeys L).Nodup →
    (mkeys (m.foldl (fun L v => if Bad l v.name f != Bad l v.name t then mset L v.name true else L) L)).Nodup ∧
    ∀ k, k ∈ mkeys (m.foldl (fun L v => if Bad l v.name f != Bad l v.name t then mset L v.name true else L) L) ↔ k ∈ mkeys L ∨ ∃ v ∈ m, v.name = k ∧ Bad l k f ≠ Bad l k t
  | [], L, h => ⟨h, by simp⟩
  | v :: r, L, h => by
    simp only [List.foldl_cons]
    have ih := chg_inv l f t r (if Bad l v.name f != Bad l v.name t then mset L v.name true else L) (by split; exact nodup_mset h _ _; exact h)
    refine ⟨ih.1, fun k => ?_⟩
    rw [ih.2 k]
    by_cases hc : Bad l v.name f = Bad l v.name t
    · have e : (Bad l v.name f != Bad l v.name t) = false := by simp [hc]
      rw [e]
      simp only [Bool.false_eq_true, if_false, List.mem_cons, exists_eq_or_imp]
      constructor
      · rintro (h1 | h1)
        · exact .inl h1
        · exact .inr (.inr h1)
      · rintro (h1 | ⟨rfl, h2⟩ | h1)
        · exact .inl h1
        · exact (h2 hc).elim
        · exact .inr h1
    · have e : (Bad l v.name f != Bad l v.name t) = true := by simp [hc]
      rw [e]
      simp only [if_true, List.mem_cons, exists_eq_or_imp, mem_mkeys, mget_mset]
      constructor
      · rintro (h1 | h1)
        · by_cases hk : k = v.name
          · subst hk; exact .inr (.inl ⟨rfl, hc⟩)
          · rw [if_neg hk] at h1; exact .inl h1
        · exact .inr (.inr h1)
      · rintro (h1 | ⟨rfl, h2⟩ | h1)
        · left
          split
          · rfl
          · exact h1
        · left; rw [if_pos rfl]; rfl
        · exact .inr h1
theorem mset_len {α γ : Type} [DecidableEq α] (L : List (α × γ)) (k : α) (v : γ) : (mset L k v).length ≤ L.length + 1 := by
  induction L with
  | nil => simp [mset]
  | cons p r ih =>
    simp only [mset]
    split
    · simp
    · simp; omega
theorem chgL_len (l : List Ver) (f t : Int) (m : List Ver) : (chgL l f t m).length ≤ m.length := by
  have : ∀ (m : List Ver) (L : List (Int × Bool)), (m.foldl (fun L v => if Bad l v.name f != Bad l v.name t then mset L v.name true else L) L).length ≤ L.length + m.length := by
    intro m
    induction m with
    | nil => intro L; simp
    | cons v r ih =>
      intro L
      simp only [List.foldl_cons, List.length_cons]
      refine Nat.le_trans (ih _) ?_
      have h2 := mset_len L v.name true
      split <;> omega
  have h := this m []
  rw [List.length_nil, Nat.zero_add] at h
  exact h
def Changed (l : List Ver) (f t : Int) : List Int := sortI (mkeys (chgL l f t l))

set_option maxRecDepth 20000 in
set_option maxHeartbeats 8000000 in
theorem Changed_fn (hS : SortsKeys Try.prog 70 96 3) (l : List Ver) (hl : l.length * 24 ≤ 140737488355328) (hwf : ∀ v ∈ l, (Lit.int .i64 v.name).wf = true) (f t : Int) :
    Ctr Try.prog 37 [.rs 3 l.length (rowsV l), .i .i64 f, .i .i64 t] [.row 3 1 (Changed l f t).length (rowsI (Changed l f t))] (.so 0) := by
  refine fn_of_exec tabOk Try.func37 (by kernel_rfl) rfl (N := Try.f37.ntmps) rfl (res := [.tmp 6]) rfl rfl [] ?_
  have nl : l.length < 2 ^ 62 := by omega
  refine .inl ⟨_, _, bad_fn l nl f, .inl ⟨_, _, bad_fn l nl t, ?_⟩⟩
  refine .inl ⟨[], Nat, fun k => k ≤ l.length, fun k => [⟨21, [], .i .i64 k⟩], fun k => [⟨2, [], mpIB (chgL l f t (l.take k))⟩], fun k => l.length - k,
    ⟨0, [], Nat.zero_le _, rfl, rfl, rfl, rfl, rfl, ⟨rfl, rfl⟩, ⟨rfl, rfl, fun j hj => by simp [chgL] at hj⟩⟩, ?_⟩
  intro k hk
  refine .inl ⟨fun hc => ?_, fun hc => ?_⟩
  · have hc := dlt hc
    have hs := chgL_succ l f t k (by omega)
    refine .inl ⟨⟨by omega, by omega⟩, ⟨_, _, ⟨fun _ _ => rfl, rfl, lookOk_mget (L := badL l f) (d := (0, false)) (vf := fun b => AV.b b) i64_inj (l.getD (k : Int).toNat dV).name false⟩, ⟨_, _, ⟨fun _ _ => rfl, rfl, lookOk_mget (L := badL l t) (d := (0, false)) (vf := fun b => AV.b b) i64_inj (l.getD (k : Int).toNat dV).name false⟩, ⟨fun h2 => ?_, fun h2 => ?_⟩⟩⟩⟩
    · have h2 : (Bad l (l.getD (k : Int).toNat dV).name f != Bad l (l.getD (k : Int).toNat dV).name t) = true := h2
      rw [Int.toNat_natCast] at h2
      refine ⟨_, _, _, _, _, ⟨fun _ _ => rfl, rfl, updOk_mset (L := chgL l f t (l.take k)) (vf := fun b => AV.b b) i64_inj (l.getD (k : Int).toNat dV).name true⟩, ?_⟩
      refine ⟨k + 1, [], by dsimp only; omega, by dsimp only; omega, rfl, rfl, rfl, rfl, rfl, ⟨rfl, wr (by omega) (by omega)⟩, ?_⟩
      have e : mpIB (chgL l f t (l.take (k + 1))) = mpIB (mset (chgL l f t (l.take k)) (l.getD (k : Int).toNat dV).name true) := by rw [hs, if_pos h2, Int.toNat_natCast]
      have hv : AOEq (mpIB (chgL l f t (l.take (k + 1)))) (mpIB (mset (chgL l f t (l.take k)) (l.getD (k : Int).toNat dV).name true)) := by rw [e]; exact AOEq.refl _
      exact hv
    · have h2 : (Bad l (l.getD (k : Int).toNat dV).name f != Bad l (l.getD (k : Int).toNat dV).name t) = false := h2
      rw [Int.toNat_natCast] at h2
      refine ⟨k + 1, [], by dsimp only; omega, by dsimp only; omega, rfl, rfl, rfl, rfl, rfl, ⟨rfl, wr (by omega) (by omega)⟩, ?_⟩
      have e : mpIB (chgL l f t (l.take (k + 1))) = mpIB (chgL l f t (l.take k)) := by rw [hs, if_neg (by rw [h2]; simp)]
      have hv : AOEq (mpIB (chgL l f t (l.take (k + 1)))) (mpIB (chgL l f t (l.take k))) := by rw [e]; exact AOEq.refl _
      exact hv
  · have hc := dnlt hc
    have hk2 : l.take k = l := List.take_of_length_le (by omega)
    rw [hk2]
    have hi := chg_inv l f t l [] List.nodup_nil
    have hlen := chgL_len l f t l
    have hw : ∀ k ∈ mkeys (chgL l f t l), (Lit.int .i64 k).wf = true := by
      intro k hk
      rcases (hi.2 k).1 hk with h | ⟨v, hv, rfl, _⟩
      · simp [mkeys] at h
      · exact hwf v hv
    have hn : (Changed l f t).length = (chgL l f t l).length := by unfold Changed; rw [sortI_length]; simp [mkeys]
    refine .inr (.inr ⟨false, [2], rfl, Unit, _, _, _, _, keys_fn (chgL l f t l), fun _ _ => ?_⟩)
    refine .inr (.inr ⟨false, [3, 2], rfl, Unit, _, _, _, _, sorted_fn hS (chgL l f t l) hw (by omega), fun _ _ => ?_⟩)
    exact RetIs.so rfl hn.symm (fun _ _ => rfl) (fun _ _ => rfl)
end Go.Proofs.Ytklmfkejgjhneaa
