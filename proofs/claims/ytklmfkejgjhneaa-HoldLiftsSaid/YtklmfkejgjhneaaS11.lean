/-
  ScanApart: what it computes.
-/
import Derived.Test.YtklmfkejgjhneaaS10
namespace Go.Proofs.Ytklmfkejgjhneaa
open Go.Eng

theorem filter_take {α : Type} (p : α → Bool) (d : α) (l : List α) (k : Nat) (h : k < l.length) : (l.take (k + 1)).filter p = if p (l.getD k d) then (l.take k).filter p ++ [l.getD k d] else (l.take k).filter p := by
  rw [List.take_succ_eq_append_getElem h, List.filter_append]
  have e : l.getD k d = l[k] := by simp [List.getD, h]
  rw [e]
  cases hp : p l[k] <;> simp [hp]
theorem filter_take_len {α : Type} (p : α → Bool) (l : List α) (k : Nat) : ((l.take k).filter p).length ≤ k := by
  have := List.length_filter_le p (l.take k)
  simp at this
  omega
theorem bad_filter {p : Ver → Bool} {name step : Int} : ∀ (l : List Ver) (L L' : List (Int × Bool)), (∀ v ∈ l, v.name = name → v.step ≤ step → p v = true) → mget L name = mget L' name →
    mget ((l.filter p).foldl (fun L v => if decide (v.step ≤ step) then mset L v.name v.bad else L) L) name = mget (l.foldl (fun L v => if decide (v.step ≤ step) then mset L v.name v.bad else L) L') name
  | [], L, L', _, h => h
  | v :: r, L, L', hp, h => by
    have hp2 : ∀ v ∈ r, v.name = name → v.step ≤ step → p v = true := fun x hx => hp x (List.mem_cons_of_mem _ hx)
    cases hv : p v with
    | true =>
      rw [List.filter_cons_of_pos hv, List.foldl_cons, List.foldl_cons]
      refine bad_filter r _ _ hp2 ?_
      split
      · rw [mget_mset, mget_mset, h]
      · exact h
    | false =>
      rw [List.filter_cons_of_neg (by rw [hv]; simp), List.foldl_cons]
      refine bad_filter r _ _ hp2 ?_
      split
      · rename_i hs
        rw [mget_mset, if_neg, h]
        intro hn
        have := hp v (by simp) hn.symm (by simpa using hs)
        rw [hv] at this
        cases this
      · exact h
theorem bad_none {name step : Int} : ∀ (l : List Ver) (L : List (Int × Bool)), (∀ v ∈ l, v.name ≠ name) → mget (l.foldl (fun L v => if decide (v.step ≤ step) then mset L v.name v.bad else L) L) name = mget L name
  | [], L, _ => rfl
  | v :: r, L, h => by
    rw [List.foldl_cons, bad_none r _ fun x hx => h x (List.mem_cons_of_mem _ hx)]
    split
    · rw [mget_mset, if_neg (Ne.symm (h v (by simp)))]
    · rfl

theorem row_step (p : Ver → Bool) (l : List Ver) (k : Nat) (h : k < l.length) :
    (p (l.getD k dV) = true → AOEq (.row 45 3 ((l.take (k + 1)).filter p).length (rowsV ((l.take (k + 1)).filter p))) (.row 45 3 (((l.take k).filter p).length + 1) (catG ((l.take k).filter p).length (rowsV ((l.take k).filter p)) (rowOf 3 (l.getD (k : Int).toNat dV).av)))) ∧
    (p (l.getD k dV) = false → AOEq (.row 45 3 ((l.take (k + 1)).filter p).length (rowsV ((l.take (k + 1)).filter p))) (.row 45 3 ((l.take k).filter p).length (rowsV ((l.take k).filter p)))) := by
  have hf := filter_take p dV l k h
  constructor
  · intro hp
    rw [hf, if_pos hp, Int.toNat_natCast]
    exact ⟨rfl, rfl, by simp, snocV _ _⟩
  · intro hp
    rw [hf, if_neg (by rw [hp]; simp)]
    exact AOEq.refl _

set_option maxRecDepth 20000 in
set_option maxHeartbeats 8000000 in
theorem apart_fn (l : List Ver) (name step : Int) : Ctr Try.prog 10 [.rs 3 l.length (rowsV l), .i .i64 name, .i .i64 step] [] (.b true) := by
  refine fn_of_exec tabOk Try.func10 (by kernel_rfl) rfl (N := Try.f10.ntmps) rfl (res := [.tmp 6]) rfl rfl [] ?_
  refine .inl ⟨[], _, small_fn, .inl ⟨fun h => RetIs.b rfl, fun h => ?_⟩⟩
  have h : decide ((l.length : Int) > 60) = false := h
  have h60 : l.length ≤ 60 := by simp at h; omega
  have nl : l.length < 2 ^ 62 := by omega
  let pO : Ver → Bool := fun v => v.name == name
  let pR : Ver → Bool := fun v => !(v.name == name)
  let pE : Ver → Bool := fun v => decide (v.step ≤ step)
  refine .inl ⟨[(8, 45, 3), (9, 45, 3), (10, 45, 3)], Nat, fun k => k ≤ l.length, fun k => [⟨11, [], .i .i64 k⟩, ⟨8, [], .so 0⟩, ⟨9, [], .so 1⟩, ⟨10, [], .so 2⟩],
    fun k => [⟨0, [], .row 45 3 ((l.take k).filter pO).length (rowsV ((l.take k).filter pO))⟩, ⟨1, [], .row 45 3 ((l.take k).filter pR).length (rowsV ((l.take k).filter pR))⟩, ⟨2, [], .row 45 3 ((l.take k).filter pE).length (rowsV ((l.take k).filter pE))⟩], fun k => l.length - k,
    ⟨0, [], Nat.zero_le _, rfl, rfl, rfl, rfl, rfl, ⟨⟨rfl, rfl⟩, rfl, rfl, rfl⟩, ⟨⟨rfl, rfl, rfl, fun j hj => by simp at hj⟩, ⟨rfl, rfl, rfl, fun j hj => by simp at hj⟩, ⟨rfl, rfl, rfl, fun j hj => by simp at hj⟩⟩⟩, ?_⟩
  intro k hk
  have lO := filter_take_len pO l k
  have lR := filter_take_len pR l k
  have lE := filter_take_len pE l k
  refine .inl ⟨fun hc => ?_, fun hc => ?_⟩
  · have hc := dlt hc
    have rO := row_step pO l k (by omega)
    have rR := row_step pR l k (by omega)
    have rE := row_step pE l k (by omega)
    have ek : (k : Int).toNat = k := Int.toNat_natCast k
    have bO : (((l.take k).filter pO).length + 1) * 24 ≤ 140737488355328 := by omega
    have bR : (((l.take k).filter pR).length + 1) * 24 ≤ 140737488355328 := by omega
    have bE : (((l.take k).filter pE).length + 1) * 24 ≤ 140737488355328 := by omega
    have w : IntKind.i64.wrap ((k : Int) + 1) = ((k + 1 : Nat) : Int) := wr (by omega) (by omega)
    refine .inl (.inl ⟨⟨by omega, by omega⟩, ⟨fun h2 => ?_, fun h2 => ?_⟩⟩)
    · have h2 : ((l.getD (k : Int).toNat dV).name == name) = true := h2
      rw [ek] at h2
      have vO := rO.1 h2
      have vR := rR.2 (by show (!((l.getD k dV).name == name)) = false; rw [h2]; rfl)
      refine ⟨⟨by omega, by omega⟩, bO, ⟨by omega, by omega⟩, ⟨fun h3 => ⟨⟨by omega, by omega⟩, bE, ?_⟩, fun h3 => ?_⟩⟩
      · have h3 : decide ((l.getD (k : Int).toNat dV).step ≤ step) = true := h3
        rw [ek] at h3
        exact ⟨k + 1, [(0, 4), (2, 6)], by dsimp only; omega, by dsimp only; omega, rfl, rfl, rfl, rfl, rfl, ⟨⟨rfl, w⟩, rfl, rfl, rfl⟩, ⟨vO, vR, rE.1 h3⟩⟩
      · have h3 : decide ((l.getD (k : Int).toNat dV).step ≤ step) = false := h3
        rw [ek] at h3
        exact ⟨k + 1, [(0, 4)], by dsimp only; omega, by dsimp only; omega, rfl, rfl, rfl, rfl, rfl, ⟨⟨rfl, w⟩, rfl, rfl, rfl⟩, ⟨vO, vR, rE.2 h3⟩⟩
    · have h2 : ((l.getD (k : Int).toNat dV).name == name) = false := h2
      rw [ek] at h2
      have vO := rO.2 h2
      have vR := rR.1 (by show (!((l.getD k dV).name == name)) = true; rw [h2]; rfl)
      refine ⟨⟨by omega, by omega⟩, bR, ⟨by omega, by omega⟩, ⟨fun h3 => ⟨⟨by omega, by omega⟩, bE, ?_⟩, fun h3 => ?_⟩⟩
      · have h3 : decide ((l.getD (k : Int).toNat dV).step ≤ step) = true := h3
        rw [ek] at h3
        exact ⟨k + 1, [(1, 4), (2, 6)], by dsimp only; omega, by dsimp only; omega, rfl, rfl, rfl, rfl, rfl, ⟨⟨rfl, w⟩, rfl, rfl, rfl⟩, ⟨vO, vR, rE.1 h3⟩⟩
      · have h3 : decide ((l.getD (k : Int).toNat dV).step ≤ step) = false := h3
        rw [ek] at h3
        exact ⟨k + 1, [(1, 4)], by dsimp only; omega, by dsimp only; omega, rfl, rfl, rfl, rfl, rfl, ⟨⟨rfl, w⟩, rfl, rfl, rfl⟩, ⟨vO, vR, rE.2 h3⟩⟩
  · have hc := dnlt hc
    have hk2 : l.take k = l := List.take_of_length_le (by omega)
    rw [hk2] at lO lR lE
    rw [hk2]
    refine .inl ⟨[], _, Bad_fn l nl name step, .inl ⟨[], _, fun _ => Bad_fn (l.filter pO) (by omega) name step, .inl ⟨[], _, fun _ => Bad_fn (l.filter pE) (by omega) name step, .inl ⟨[], _, fun _ => Bad_fn (l.filter pR) (by omega) name step, ?_⟩⟩⟩⟩
    refine RetIs.b ?_
    have h1 : Bad (l.filter pO) name step = Bad l name step := by
      unfold Bad badL
      rw [bad_filter l [] [] (fun v _ hn _ => by show (v.name == name) = true; rw [hn]; simp) rfl]
    have h2 : Bad (l.filter pE) name step = Bad l name step := by
      unfold Bad badL
      rw [bad_filter l [] [] (fun v _ _ hs => by show decide (v.step ≤ step) = true; exact decide_eq_true hs) rfl]
    have h3 : Bad (l.filter pR) name step = false := by
      have : mget (badL (l.filter pR) step) name = none := bad_none _ [] fun v hv he => by
        have hv := (List.mem_filter.1 hv).2
        have hv : (!(v.name == name)) = true := hv
        rw [he] at hv
        simp at hv
      unfold Bad
      rw [this]
      rfl
    rw [h1, h2, h3]
    simp
end Go.Proofs.Ytklmfkejgjhneaa
