/-
  Verdicts: Add and the reference's Right.
-/
import Derived.Test.YtklmfkejgjhneaaS2
namespace Go.Proofs.Ytklmfkejgjhneaa
open Go.Eng

theorem RetIs.soI {k : IntKind} {c d : Int} {e sz n n' : Nat} {get get' : Nat → List AV} {id nid : Nat} {O : List OE} (hg : getO id O = some ([], .row e sz n' get')) (hn : n' = n) (hget : ∀ k, k < n → get' k = get k) (hf : ∀ k, k < n → AV.freshs (get k) = true) (hd : d = c) :
    RetIs [.row e sz n get] (.tup [.so 0, .i k c]) (.tup [.so id, .i k d]) O nid := by
  subst hn
  subst hd
  refine ⟨[(0, id)], ⟨⟨⟨rfl, rfl, ?_⟩, trivial⟩, ⟨⟨rfl, rfl, trivial, ?_⟩, trivial⟩, rfl⟩, rfl, hf⟩
  · exact rfl
  · show (match AO.row e sz n' get, getO id O with
      | .dead, _ => True
      | o, some ([], o') => AOEq (o.ren (rn [(0, id)])) o'
      | _, _ => False)
    rw [hg]
    exact ⟨rfl, rfl, rfl, hget⟩

def lastOf (l : List Ver) (k : Nat) : Int := if k = 0 then 0 else (l.getD (k - 1) dV).step
def okAt (l : List Ver) (j : Nat) : Bool := rightV (l.getD j dV) && !decide ((l.getD j dV).step < lastOf l j)
def okV (l : List Ver) : Bool := (List.range l.length).all (okAt l)
theorem not_ok {a b : Bool} (h : (!a || b) = true) : (a && !b) = false := by cases a <;> cases b <;> first | rfl | cases h
theorem is_ok {a b : Bool} (h : (!a || b) = false) : (a && !b) = true := by cases a <;> cases b <;> first | rfl | cases h
theorem okV_true {l : List Ver} (h : ∀ j, j < l.length → okAt l j = true) : okV l = true := by
  unfold okV
  rw [List.all_eq_true]
  intro j hj
  exact h j (List.mem_range.1 hj)
theorem okV_false {l : List Ver} {j : Nat} (hj : j < l.length) (h : okAt l j = false) : okV l = false := by
  unfold okV
  rw [List.all_eq_false]
  exact ⟨j, List.mem_range.2 hj, by rw [h]; simp⟩
def addV (l : List Ver) (v : Ver) : List Ver × Int :=
  if (!rightV v || decide (l.length > 50000)) = true then ([], 1) else
  if okV l = false then ([], 1) else
  if v.step < lastOf l l.length then ([], 15) else
  if l.length = 50000 then ([], 6) else (l ++ [v], 0)

theorem snocV (l : List Ver) (v : Ver) : ∀ k, k < (l ++ [v]).length → catG l.length (rowsV l) (rowOf 3 v.av) k = rowsV (l ++ [v]) k := by
  intro k hk
  unfold catG rowsV
  by_cases h : k < l.length
  · rw [if_pos h]
    simp [List.getD, List.getElem?_append_left h]
  · rw [if_neg h]
    have : k = l.length := by simp at hk; omega
    subst this
    simp [List.getD]
    rfl

set_option maxRecDepth 20000 in
set_option maxHeartbeats 4000000 in
theorem Add_fn (l : List Ver) (hl : l.length < 2^62) (v : Ver) : Ctr Try.prog 31 [.rs 3 l.length (rowsV l), .ag v.av] [.row 45 3 (addV l v).1.length (rowsV (addV l v).1)] (.tup [.so 0, .i .i64 (addV l v).2]) := by
  refine fn_of_exec tabOk Try.func31 (by kernel_rfl) rfl (N := Try.f31.ntmps) rfl (res := [.tmp 4, .tmp 5]) rfl rfl [(999999, [.nl 4 45 3])] ?_
  refine .inl (.inl ⟨[], _, right_fn v, ⟨fun h => ?_, fun h => ?_⟩⟩)
  · have h : (!rightV v || decide ((l.length : Int) > 50000)) = true := h
    have h : (!rightV v || decide (l.length > 50000)) = true := by
      cases hr : rightV v
      · rfl
      · simp [hr] at h ⊢
        omega
    have e : addV l v = ([], 1) := by unfold addV; rw [if_pos h]
    rw [e]
    exact RetIs.soI rfl rfl (fun k hk => by simp at hk) (fun k hk => by simp at hk) rfl
  have h : (!rightV v || decide ((l.length : Int) > 50000)) = false := h
  have hv : rightV v = true := by
    cases hr : rightV v
    · simp [hr] at h
    · rfl
  have hlen : l.length ≤ 50000 := by simp [hv] at h; omega
  have hno : ¬ (!rightV v || decide (l.length > 50000)) = true := by simp [hv]; omega
  refine .inl ⟨[], Nat, fun k => k ≤ l.length ∧ ∀ j, j < k → okAt l j = true, fun k => [⟨19, [], .i .i64 k⟩, ⟨6, [], .i .i64 (lastOf l k)⟩], fun _ => [], fun k => l.length - k,
    ⟨0, [], ⟨Nat.zero_le _, fun j hj => by omega⟩, rfl, rfl, rfl, rfl, rfl, ⟨⟨rfl, rfl⟩, rfl, rfl⟩, trivial⟩, ?_⟩
  rintro k ⟨hk, hok⟩
  refine .inl ⟨fun hc => ?_, fun hc => ?_⟩
  · have hc := dlt hc
    refine .inl ⟨⟨by omega, by omega⟩, .inl (.inl ⟨[], _, right_fn (l.getD (k : Int).toNat dV), ⟨fun h2 => ?_, fun h2 => ?_⟩⟩)⟩
    · have h2 : (!rightV (l.getD (k : Int).toNat dV) || decide ((l.getD (k : Int).toNat dV).step < lastOf l k)) = true := h2
      rw [Int.toNat_natCast] at h2
      have hb : okAt l k = false := not_ok h2
      have e : addV l v = ([], 1) := by unfold addV; rw [if_neg hno, if_pos (okV_false (by omega) hb)]
      rw [e]
      exact RetIs.soI rfl rfl (fun k hk => by simp at hk) (fun k hk => by simp at hk) rfl
    · have h2 : (!rightV (l.getD (k : Int).toNat dV) || decide ((l.getD (k : Int).toNat dV).step < lastOf l k)) = false := h2
      rw [Int.toNat_natCast] at h2
      have hb : okAt l k = true := is_ok h2
      have e : lastOf l (k + 1) = (l.getD (k : Int).toNat dV).step := by simp [lastOf]
      refine ⟨k + 1, [], ⟨by omega, fun j hj => ?_⟩, by dsimp only; omega, rfl, rfl, rfl, rfl, rfl, ⟨⟨rfl, wr (by omega) (by omega)⟩, rfl, e.symm⟩, trivial⟩
      by_cases hjk : j = k
      · rw [hjk]; exact hb
      · exact hok j (by omega)
  · have hc := dnlt hc
    have hk2 : k = l.length := by omega
    subst hk2
    have hV := okV_true hok
    have hno2 : ¬ okV l = false := by rw [hV]; simp
    refine .inl ⟨fun h2 => ?_, fun h2 => ?_⟩
    · have e : addV l v = ([], 15) := by unfold addV; rw [if_neg hno, if_neg hno2, if_pos (dlt h2)]
      rw [e]
      exact RetIs.soI rfl rfl (fun k hk => by simp at hk) (fun k hk => by simp at hk) rfl
    have h2 := dnlt h2
    refine .inl ⟨fun h3 => ?_, fun h3 => ?_⟩
    · have h3 : ((l.length : Int) == 50000) = true := h3
      simp at h3
      have e : addV l v = ([], 6) := by unfold addV; rw [if_neg hno, if_neg hno2, if_neg (by omega), if_pos (by omega)]
      rw [e]
      exact RetIs.soI rfl rfl (fun k hk => by simp at hk) (fun k hk => by simp at hk) rfl
    have h3 : ((l.length : Int) == 50000) = false := h3
    simp at h3
    have e : addV l v = (l ++ [v], 0) := by unfold addV; rw [if_neg hno, if_neg hno2, if_neg (by omega), if_neg (by omega)]
    have e1 : (l.length + 1) * 24 ≤ 140737488355328 := by omega
    refine .inl ⟨_, _, clone_fn l (by omega), e1, ?_⟩
    rw [e]
    exact RetIs.soI rfl (by simp) (snocV l v) (fresh_rowsV _) rfl
end Go.Proofs.Ytklmfkejgjhneaa
