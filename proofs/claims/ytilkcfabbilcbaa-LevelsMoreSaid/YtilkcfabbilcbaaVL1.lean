import Derived.Test.YtilkcfabbilcbaaVW7
namespace Go.Proofs.Ytilkcfabbilcbaa
open Go.Eng

theorem foldl_le (b : Bool) (m w : Int) : ∀ (l : List Note) (a : Int), a ≤ 4 → (∀ n ∈ l, n.l ≤ 4) → l.foldl (fun a n => if says n b m w then max a n.l else a) a ≤ 4
  | [], a, h, _ => h
  | n :: r, a, h, hv => by
    refine foldl_le b m w r _ ?_ fun n hn => hv n (List.mem_cons_of_mem _ hn)
    have := hv n (by simp)
    dsimp only
    split <;> omega
theorem foldl_none (m w : Int) : ∀ (l : List Note) (a : Int), (∀ n ∈ l, den n m w = false) → l.foldl (fun a n => if den n m w then min a (IntKind.i64.wrap (n.l - 1)) else a) a = a
  | [], a, _ => rfl
  | n :: r, a, hv => by
    simp only [List.foldl_cons, hv n (by simp), Bool.false_eq_true, if_false]
    exact foldl_none m w r a fun n hn => hv n (List.mem_cons_of_mem _ hn)
theorem valid_all {l : List Note} (h : valid l = true) : ∀ n ∈ l, vnote n = true := by
  intro n hn
  unfold valid at h
  simp at h
  exact h.2 n hn
theorem right_eq (l : List Note) (b : Bool) : Right l b = rRight l b := by
  unfold Right rRight
  cases hv : valid l with
  | false => rfl
  | true =>
    have hall := valid_all hv
    simp only [Bool.true_and, Low, High, hv, if_true]
    rw [Bool.eq_iff_iff]
    simp only [Bool.not_eq_true', List.any_eq_false, List.all_eq_true, decide_eq_true_eq]
    constructor
    · intro h n hn
      by_cases hd : ∃ x ∈ l, den x n.m n.w = true
      · obtain ⟨x, hx, hxd⟩ := hd
        have h2 := h x hx
        unfold den at hxd
        simp at hxd
        obtain ⟨⟨h3, h4⟩, h5⟩ := hxd
        unfold bad at h2
        rw [h3, h4, h5] at h2
        simp at h2
        omega
      · have hno : ∀ x ∈ l, den x n.m n.w = false := fun x hx => by
          cases hh : den x n.m n.w with
          | false => rfl
          | true => exact (hd ⟨x, hx, hh⟩).elim
        have h1 : high l n.m n.w = 4 := foldl_none n.m n.w l 4 hno
        have h2 : low l b n.m n.w ≤ 4 := foldl_le b n.m n.w l 0 (by omega) fun x hx => by
          have := hall x hx
          unfold vnote at this
          simp at this
          omega
        omega
    · intro h n hn hb
      unfold bad at hb
      simp at hb
      have := h n hn
      omega
theorem tells_true (l : List Note) (b : Bool) (m w : Int) : tells l b m w = true := by
  unfold tells
  split
  · rfl
  · simp [right_eq]
end Go.Proofs.Ytilkcfabbilcbaa
