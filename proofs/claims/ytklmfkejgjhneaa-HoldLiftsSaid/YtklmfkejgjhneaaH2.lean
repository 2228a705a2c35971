/-
  Holds: Right.
-/
import Derived.Test.YtklmfkejgjhneaaH1
namespace Go.Proofs.Ytklmfkejgjhneaa
open Go.Eng

def badA (h : Hld) : Bool := decide (h.id < 0) || decide (h.ev < 0) || !(decide (0 ≤ h.fr) && decide (h.fr ≤ 1073741824))
def badC (h : Hld) : Bool := h.to != -1 && (decide (h.to < h.fr) || !(decide (0 ≤ h.to) && decide (h.to ≤ 1073741824)))
def badB (l : List Hld) (j : Nat) : Bool := badA (l.getD j dH) || (l.take j).any fun x => x.id == (l.getD j dH).id
def okH (l : List Hld) (j : Nat) : Bool := !badB l j && !badC (l.getD j dH)
def RightH (l : List Hld) : Bool := (List.range l.length).all (okH l)
theorem RightH_true {l : List Hld} (h : ∀ j, j < l.length → okH l j = true) : RightH l = true := by
  unfold RightH
  rw [List.all_eq_true]
  intro j hj
  exact h j (List.mem_range.1 hj)
theorem RightH_false {l : List Hld} {j : Nat} (hj : j < l.length) (h : okH l j = false) : RightH l = false := by
  unfold RightH
  rw [List.all_eq_false]
  exact ⟨j, List.mem_range.2 hj, by rw [h]; simp⟩
theorem take_rowsH (l : List Hld) (i : Nat) (hi : i ≤ l.length) : ∀ k, k < (l.take i).length → rowsH l (Int.toNat 0 + k) = rowsH (l.take i) k := by
  intro k hk
  have hk2 : k < i := by simp at hk; omega
  have e : Int.toNat 0 + k = k := by simp
  rw [e]
  unfold rowsH
  simp only [List.getD]
  rw [List.getElem?_take, if_pos hk2]

set_option maxRecDepth 20000 in
set_option maxHeartbeats 4000000 in
theorem RightH_fn (l : List Hld) (hl : l.length < 2^62) : Ctr Try.prog 44 [.rs 4 l.length (rowsH l)] [] (.b (RightH l)) := by
  refine fn_of_exec tabOk Try.func44 (by kernel_rfl) rfl (N := Try.f44.ntmps) rfl (res := [.tmp 2]) rfl rfl [] ?_
  refine .inl ⟨[], Nat, fun k => k ≤ l.length ∧ ∀ j, j < k → okH l j = true, fun k => [⟨8, [], .i .i64 k⟩], fun _ => [], fun k => l.length - k,
    ⟨0, [], ⟨Nat.zero_le _, fun j hj => by omega⟩, rfl, rfl, rfl, rfl, rfl, ⟨rfl, rfl⟩, trivial⟩, ?_⟩
  rintro k ⟨hk, hok⟩
  refine .inl ⟨fun hc => ?_, fun hc => ?_⟩
  · have hc := dlt hc
    refine .inl ⟨⟨by omega, by omega⟩, .inl (.inl ⟨[], _, fun _ => step_fn _, ?_⟩)⟩
    have ek : (k : Int).toNat = k := Int.toNat_natCast k
    have cT : Ctr Try.prog 83 [.rs 4 ((k : Int) - 0).toNat (fun q => rowsH l (Int.toNat 0 + q)), .fn 82 [.rp (l.getD (k : Int).toNat dH).av]] [] (.b ((l.take k).any fun x => x.id == (l.getD (k : Int).toNat dH).id)) :=
      Ctr.of_eq (args := [.rs 4 (l.take k).length (rowsH (l.take k)), .fn 82 [.rp (l.getD (k : Int).toNat dH).av]]) ⟨⟨rfl, by simp; omega, take_rowsH l k (by omega)⟩, AVEq.refl _⟩
        (contains1_fn (l.take k) (by simp; omega) 82 _ (fun x => x.id == (l.getD (k : Int).toNat dH).id) (again_fn (l.getD (k : Int).toNat dH)))
    refine ⟨fun _ => ⟨by omega, by omega, by omega⟩, .inl ⟨[], _, fun _ => cT, ⟨fun h2 => ?_, fun h2 => ?_⟩⟩⟩
    · have h2 : (badA (l.getD (k : Int).toNat dH) || (l.take k).any fun x => x.id == (l.getD (k : Int).toNat dH).id) = true := h2
      rw [ek] at h2
      refine RetIs.b ?_
      rw [RightH_false (j := k) (by omega) (by unfold okH badB; rw [h2]; rfl)]
    · have h2 : (badA (l.getD (k : Int).toNat dH) || (l.take k).any fun x => x.id == (l.getD (k : Int).toNat dH).id) = false := h2
      rw [ek] at h2
      refine Or.inl ⟨[], _, fun _ => step_fn _, ⟨fun h3 => ?_, fun h3 => ?_⟩⟩
      · have h3 : badC (l.getD (k : Int).toNat dH) = true := h3
        rw [ek] at h3
        refine RetIs.b ?_
        rw [RightH_false (j := k) (by omega) (by unfold okH; rw [h3]; simp)]
      · have h3 : badC (l.getD (k : Int).toNat dH) = false := h3
        rw [ek] at h3
        refine ⟨k + 1, [], ⟨by omega, fun j hj => ?_⟩, by dsimp only; omega, rfl, rfl, rfl, rfl, rfl, ⟨rfl, wr (by omega) (by omega)⟩, trivial⟩
        by_cases hjk : j = k
        · rw [hjk]
          unfold okH badB
          rw [h2, h3]
          rfl
        · exact hok j (by omega)
  · have hc := dnlt hc
    have hk2 : k = l.length := by omega
    subst hk2
    refine RetIs.b ?_
    rw [RightH_true hok]
end Go.Proofs.Ytklmfkejgjhneaa
