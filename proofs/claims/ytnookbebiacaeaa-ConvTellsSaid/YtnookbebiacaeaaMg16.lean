/-
  Several texts in one: Cvd, Cvf, Cvn, Cvq, Cvr, Cve, Cvs, Cvt, Cvu, Cvv, Cvm, Cvg.
-/
import Derived.Test.YtnookbebiacaeaaMg15

section
/-
  Conversations: an event that is there stays there, and is told its number again (the law Again, in plain words).
-/
namespace Go.Proofs.Ytnookbebiacaeaa
open Go.Eng

theorem bare_bare (e : Ev) : bareE (bareE e) = bareE e := by
  unfold bareE
  by_cases h : e.k = 0 ∨ e.k = 1
  · rw [if_pos h, if_pos h]
  · rw [if_neg h, if_neg h]
theorem bare_text {e : Ev} (h : e.k = 0 ∨ e.k = 1) (x : ByteArray) : bareE { e with x := x } = bareE e := by
  unfold bareE
  rw [if_pos h, if_pos (show ({ e with x := x } : Ev).k = 0 ∨ ({ e with x := x } : Ev).k = 1 from h)]
theorem right_text {e : Ev} (hr : rightE e = true) (h : e.k = 0 ∨ e.k = 1) {x : ByteArray} (hx : x.size ≤ 4000) : rightE { e with x := x } = true := by
  have hsp := (right_rt hr).sp
  have hs2 : ({ e with x := x } : Ev) = spareE { e with x := x } := by
    rcases h with h | h
    · rw [spare0 h] at hsp
      rw [spare0 (e := { e with x := x }) h]
      have : e.n = 0 := by rw [hsp]
      rw [Ev.mk.injEq]
      exact ⟨rfl, rfl, rfl, rfl, rfl, rfl, rfl, rfl, this, rfl, rfl, rfl⟩
    · rw [spare1 h] at hsp
      rw [spare1 (e := { e with x := x }) h]
      have h1 : e.q = -1 := by rw [hsp]
      have h2 : e.w = -1 := by rw [hsp]
      have h3 : e.n = 0 := by rw [hsp]
      rw [Ev.mk.injEq]
      exact ⟨rfl, rfl, rfl, rfl, rfl, rfl, h1, h2, h3, rfl, rfl, rfl⟩
  unfold rightE at hr ⊢
  simp only [Bool.and_eq_true, decide_eq_true_eq] at hr ⊢
  exact ⟨hr.1, ⟨⟨⟨⟨hr.2.1.1.1.1.1, hr.2.1.1.1.1.2⟩, hr.2.1.1.1.2⟩, by show ((x.size : Nat) : Int) ≤ 4000; omega⟩, hr.2.1.2⟩, hs2⟩
/-- The event is there, at id. -/
structure AgI (E : List Ev) (e : Ev) (id : Int) : Prop where
  right : rightE e = true
  lt : e.s < (idsOf E e.a).length
  at' : (idsOf E e.a).getD e.s.toNat 0 = id
  alike : alikeE (E.getD id.toNat dE) e = true
theorem AgI.add {E : List Ev} {e : Ev} {id : Int} (h : AgI E e id) : addC E e = (E, (id, 0)) := by
  unfold addC
  rw [if_neg (by rw [h.right]; decide), if_pos h.lt, h.at', if_neg (by rw [h.alike]; decide)]
theorem AgI.rng {E : List Ev} {e : Ev} {id : Int} (h : AgI E e id) : 0 ≤ id ∧ id < E.length := by
  have := (right_rt h.right).s
  have hlt := h.lt
  rw [← h.at']
  exact idsOf_lt (getD_memI (by omega))
theorem AgI.snoc {E : List Ev} {e : Ev} {id : Int} (h : AgI E e id) (e' : Ev) : AgI (E ++ [e']) e id := by
  have hrg := h.rng
  have hs := (right_rt h.right).s
  have hlt := h.lt
  have hi := idsOf_snoc E e' e.a
  refine ⟨h.right, ?_, ?_, ?_⟩
  · rw [hi]
    split
    · rw [List.length_append]; omega
    · exact h.lt
  · rw [hi]
    split
    · rw [getD_snoc, if_pos (by omega)]; exact h.at'
    · exact h.at'
  · rw [getD_snoc, if_pos (by omega)]
    exact h.alike
theorem AgI.added {E : List Ev} {e : Ev} {id : Int} (h : AgI E e id) (e' : Ev) : AgI (addC E e').1 e id := by
  rcases addC_shape (E := E) (e := e') with h' | ⟨h', _⟩
  · rw [h']; exact h
  · rw [h']; exact h.snoc e'
theorem AgI.erased {E : List Ev} {e : Ev} {id : Int} (h : AgI E e id) (i : Int) : AgI (eraseC E i).1 e id := by
  unfold eraseC
  split
  · exact h
  · have hi : idsOf (eraseTo E i E.length) e.a = idsOf E e.a := idsOf_congr (eraseTo_map Ev.a bareE_a E i _) _
    have hrg := h.rng
    refine ⟨h.right, by rw [hi]; exact h.lt, by rw [hi]; exact h.at', ?_⟩
    show alikeE ((eraseTo E i E.length).getD id.toNat dE) e = true
    rw [eraseTo_getD E i E.length id.toNat (by omega)]
    split
    · have := h.alike
      unfold alikeE at this ⊢
      rw [bare_bare]
      exact this
    · exact h.alike
theorem AgI.text {E : List Ev} {e : Ev} {id : Int} (h : AgI E e id) (hk : e.k = 0 ∨ e.k = 1) {x : ByteArray} (hx : x.size ≤ 4000) : AgI E { e with x := x } id := by
  refine ⟨right_text h.right hk hx, h.lt, h.at', ?_⟩
  have := h.alike
  unfold alikeE at this ⊢
  rw [bare_text hk]
  exact this
end Go.Proofs.Ytnookbebiacaeaa
end

section
/-
  Conversations: what is there is opened again; what an adding says (plain laws of Opens and Refuses).
-/
namespace Go.Proofs.Ytnookbebiacaeaa
open Go.Eng

/-- Each event is taken by those before it. -/
def Live (E : List Ev) : Prop := ∀ j, j < E.length → addC (E.take j) (E.getD j dE) = (E.take (j + 1), ((j : Int), 0))
theorem live_nil : Live [] := fun j hj => absurd hj (Nat.not_lt_zero j)
theorem live_snoc {E : List Ev} {e : Ev} (h : Live E) (ha : addC E e = (E ++ [e], ((E.length : Int), 0))) : Live (E ++ [e]) := by
  intro j hj
  rw [List.length_append, List.length_singleton] at hj
  by_cases e1 : j < E.length
  · rw [List.take_append_of_le_length (by omega), List.take_append_of_le_length (by omega), getD_snoc, if_pos e1]
    exact h j e1
  · have e2 : j = E.length := by omega
    subst e2
    rw [List.take_left, getD_snoc, if_neg (Nat.lt_irrefl _), if_pos rfl, List.take_of_length_le (by simp)]
    exact ha
theorem addC_live {E : List Ev} (h : Live E) (e : Ev) : Live (addC E e).1 := by
  rcases addC_shape (E := E) (e := e) with h' | ⟨h', _⟩
  · rw [h']; exact h
  · rw [h']; exact live_snoc h h'
theorem live_copy {E : List Ev} (h : Live E) : copyC E = E := by
  have key : ∀ k, k ≤ E.length → copyC (E.take k) = E.take k := by
    intro k
    induction k with
    | zero => intro _; rfl
    | succ k ih => intro hk; rw [copy_snoc E k (by omega), ih (by omega), h k (by omega)]
  have := key E.length (Nat.le_refl _)
  rwa [List.take_length] at this
end Go.Proofs.Ytnookbebiacaeaa
end

section
/-
  Conversations: the reference's side in plain Lean (law Tells).
-/
namespace Go.Proofs.Ytnookbebiacaeaa
open Go.Eng

def hasS (x : ByteArray) (l : List ByteArray) : Bool := l.any fun y => decide (y = x)
/-- A right event has nothing in the fields that its kind does not use. -/
theorem clean_iff {e : Ev} (hf : fieldsE e = true) : e = spareE e ↔ (e.t = -1 ∨ hasS sT (usesS e.k) = true) ∧ (e.q = -1 ∨ hasS sQ (usesS e.k) = true) ∧ (e.w = -1 ∨ hasS sW (usesS e.k) = true) ∧ (e.n = 0 ∨ hasS sN (usesS e.k) = true) ∧ (e.x = noB ∨ hasS sX (usesS e.k) = true) ∧ (e.fs = [] ∨ hasS sF (usesS e.k) = true) := by
  have hk := fields_k hf
  by_cases h : e.k = 0
  · rw [spare0 h]
    have m0 : (hasS sT (usesS e.k) = true) = True := eq_true (by rw [h]; decide +kernel)
    have m1 : (hasS sQ (usesS e.k) = true) = True := eq_true (by rw [h]; decide +kernel)
    have m2 : (hasS sW (usesS e.k) = true) = True := eq_true (by rw [h]; decide +kernel)
    have m3 : (hasS sN (usesS e.k) = true) = False := eq_false (by rw [h]; decide +kernel)
    have m4 : (hasS sX (usesS e.k) = true) = True := eq_true (by rw [h]; decide +kernel)
    have m5 : (hasS sF (usesS e.k) = true) = True := eq_true (by rw [h]; decide +kernel)
    rw [m0, m1, m2, m3, m4, m5]
    refine ⟨fun h2 => ⟨.inr trivial, .inr trivial, .inr trivial, .inl (congrArg Ev.n h2), .inr trivial, .inr trivial⟩, fun ⟨g0, g1, g2, g3, g4, g5⟩ => ?_⟩
    cases e
    have g3 := g3.resolve_right id
    dsimp only at g3
    rw [g3]
  by_cases h : e.k = 1
  · rw [spare1 h]
    have m0 : (hasS sT (usesS e.k) = true) = True := eq_true (by rw [h]; decide +kernel)
    have m1 : (hasS sQ (usesS e.k) = true) = False := eq_false (by rw [h]; decide +kernel)
    have m2 : (hasS sW (usesS e.k) = true) = False := eq_false (by rw [h]; decide +kernel)
    have m3 : (hasS sN (usesS e.k) = true) = False := eq_false (by rw [h]; decide +kernel)
    have m4 : (hasS sX (usesS e.k) = true) = True := eq_true (by rw [h]; decide +kernel)
    have m5 : (hasS sF (usesS e.k) = true) = True := eq_true (by rw [h]; decide +kernel)
    rw [m0, m1, m2, m3, m4, m5]
    refine ⟨fun h2 => ⟨.inr trivial, .inl (congrArg Ev.q h2), .inl (congrArg Ev.w h2), .inl (congrArg Ev.n h2), .inr trivial, .inr trivial⟩, fun ⟨g0, g1, g2, g3, g4, g5⟩ => ?_⟩
    cases e
    have g1 := g1.resolve_right id
    have g2 := g2.resolve_right id
    have g3 := g3.resolve_right id
    dsimp only at g1 g2 g3
    rw [g1, g2, g3]
  by_cases h : e.k = 2
  · rw [spare2 h]
    have m0 : (hasS sT (usesS e.k) = true) = True := eq_true (by rw [h]; decide +kernel)
    have m1 : (hasS sQ (usesS e.k) = true) = False := eq_false (by rw [h]; decide +kernel)
    have m2 : (hasS sW (usesS e.k) = true) = False := eq_false (by rw [h]; decide +kernel)
    have m3 : (hasS sN (usesS e.k) = true) = False := eq_false (by rw [h]; decide +kernel)
    have m4 : (hasS sX (usesS e.k) = true) = False := eq_false (by rw [h]; decide +kernel)
    have m5 : (hasS sF (usesS e.k) = true) = False := eq_false (by rw [h]; decide +kernel)
    rw [m0, m1, m2, m3, m4, m5]
    refine ⟨fun h2 => ⟨.inr trivial, .inl (congrArg Ev.q h2), .inl (congrArg Ev.w h2), .inl (congrArg Ev.n h2), .inl (congrArg Ev.x h2), .inl (congrArg Ev.fs h2)⟩, fun ⟨g0, g1, g2, g3, g4, g5⟩ => ?_⟩
    cases e
    have g1 := g1.resolve_right id
    have g2 := g2.resolve_right id
    have g3 := g3.resolve_right id
    have g4 := g4.resolve_right id
    have g5 := g5.resolve_right id
    dsimp only at g1 g2 g3 g4 g5
    rw [g1, g2, g3, g4, g5]
  by_cases h : e.k = 3
  · rw [spare34 (.inl h)]
    have m0 : (hasS sT (usesS e.k) = true) = True := eq_true (by rw [h]; decide +kernel)
    have m1 : (hasS sQ (usesS e.k) = true) = False := eq_false (by rw [h]; decide +kernel)
    have m2 : (hasS sW (usesS e.k) = true) = False := eq_false (by rw [h]; decide +kernel)
    have m3 : (hasS sN (usesS e.k) = true) = True := eq_true (by rw [h]; decide +kernel)
    have m4 : (hasS sX (usesS e.k) = true) = False := eq_false (by rw [h]; decide +kernel)
    have m5 : (hasS sF (usesS e.k) = true) = False := eq_false (by rw [h]; decide +kernel)
    rw [m0, m1, m2, m3, m4, m5]
    refine ⟨fun h2 => ⟨.inr trivial, .inl (congrArg Ev.q h2), .inl (congrArg Ev.w h2), .inr trivial, .inl (congrArg Ev.x h2), .inl (congrArg Ev.fs h2)⟩, fun ⟨g0, g1, g2, g3, g4, g5⟩ => ?_⟩
    cases e
    have g1 := g1.resolve_right id
    have g2 := g2.resolve_right id
    have g4 := g4.resolve_right id
    have g5 := g5.resolve_right id
    dsimp only at g1 g2 g4 g5
    rw [g1, g2, g4, g5]
  by_cases h : e.k = 4
  · rw [spare34 (.inr h)]
    have m0 : (hasS sT (usesS e.k) = true) = True := eq_true (by rw [h]; decide +kernel)
    have m1 : (hasS sQ (usesS e.k) = true) = False := eq_false (by rw [h]; decide +kernel)
    have m2 : (hasS sW (usesS e.k) = true) = False := eq_false (by rw [h]; decide +kernel)
    have m3 : (hasS sN (usesS e.k) = true) = True := eq_true (by rw [h]; decide +kernel)
    have m4 : (hasS sX (usesS e.k) = true) = False := eq_false (by rw [h]; decide +kernel)
    have m5 : (hasS sF (usesS e.k) = true) = False := eq_false (by rw [h]; decide +kernel)
    rw [m0, m1, m2, m3, m4, m5]
    refine ⟨fun h2 => ⟨.inr trivial, .inl (congrArg Ev.q h2), .inl (congrArg Ev.w h2), .inr trivial, .inl (congrArg Ev.x h2), .inl (congrArg Ev.fs h2)⟩, fun ⟨g0, g1, g2, g3, g4, g5⟩ => ?_⟩
    cases e
    have g1 := g1.resolve_right id
    have g2 := g2.resolve_right id
    have g4 := g4.resolve_right id
    have g5 := g5.resolve_right id
    dsimp only at g1 g2 g4 g5
    rw [g1, g2, g4, g5]
  by_cases h : e.k = 5
  · rw [spare57 (.inl h)]
    have m0 : (hasS sT (usesS e.k) = true) = False := eq_false (by rw [h]; decide +kernel)
    have m1 : (hasS sQ (usesS e.k) = true) = False := eq_false (by rw [h]; decide +kernel)
    have m2 : (hasS sW (usesS e.k) = true) = True := eq_true (by rw [h]; decide +kernel)
    have m3 : (hasS sN (usesS e.k) = true) = False := eq_false (by rw [h]; decide +kernel)
    have m4 : (hasS sX (usesS e.k) = true) = False := eq_false (by rw [h]; decide +kernel)
    have m5 : (hasS sF (usesS e.k) = true) = False := eq_false (by rw [h]; decide +kernel)
    rw [m0, m1, m2, m3, m4, m5]
    refine ⟨fun h2 => ⟨.inl (congrArg Ev.t h2), .inl (congrArg Ev.q h2), .inr trivial, .inl (congrArg Ev.n h2), .inl (congrArg Ev.x h2), .inl (congrArg Ev.fs h2)⟩, fun ⟨g0, g1, g2, g3, g4, g5⟩ => ?_⟩
    cases e
    have g0 := g0.resolve_right id
    have g1 := g1.resolve_right id
    have g3 := g3.resolve_right id
    have g4 := g4.resolve_right id
    have g5 := g5.resolve_right id
    dsimp only at g0 g1 g3 g4 g5
    rw [g0, g1, g3, g4, g5]
  by_cases h : e.k = 6
  · rw [spare68 (.inl h)]
    have m0 : (hasS sT (usesS e.k) = true) = False := eq_false (by rw [h]; decide +kernel)
    have m1 : (hasS sQ (usesS e.k) = true) = False := eq_false (by rw [h]; decide +kernel)
    have m2 : (hasS sW (usesS e.k) = true) = False := eq_false (by rw [h]; decide +kernel)
    have m3 : (hasS sN (usesS e.k) = true) = False := eq_false (by rw [h]; decide +kernel)
    have m4 : (hasS sX (usesS e.k) = true) = False := eq_false (by rw [h]; decide +kernel)
    have m5 : (hasS sF (usesS e.k) = true) = False := eq_false (by rw [h]; decide +kernel)
    rw [m0, m1, m2, m3, m4, m5]
    refine ⟨fun h2 => ⟨.inl (congrArg Ev.t h2), .inl (congrArg Ev.q h2), .inl (congrArg Ev.w h2), .inl (congrArg Ev.n h2), .inl (congrArg Ev.x h2), .inl (congrArg Ev.fs h2)⟩, fun ⟨g0, g1, g2, g3, g4, g5⟩ => ?_⟩
    cases e
    have g0 := g0.resolve_right id
    have g1 := g1.resolve_right id
    have g2 := g2.resolve_right id
    have g3 := g3.resolve_right id
    have g4 := g4.resolve_right id
    have g5 := g5.resolve_right id
    dsimp only at g0 g1 g2 g3 g4 g5
    rw [g0, g1, g2, g3, g4, g5]
  by_cases h : e.k = 7
  · rw [spare57 (.inr h)]
    have m0 : (hasS sT (usesS e.k) = true) = False := eq_false (by rw [h]; decide +kernel)
    have m1 : (hasS sQ (usesS e.k) = true) = False := eq_false (by rw [h]; decide +kernel)
    have m2 : (hasS sW (usesS e.k) = true) = True := eq_true (by rw [h]; decide +kernel)
    have m3 : (hasS sN (usesS e.k) = true) = False := eq_false (by rw [h]; decide +kernel)
    have m4 : (hasS sX (usesS e.k) = true) = False := eq_false (by rw [h]; decide +kernel)
    have m5 : (hasS sF (usesS e.k) = true) = False := eq_false (by rw [h]; decide +kernel)
    rw [m0, m1, m2, m3, m4, m5]
    refine ⟨fun h2 => ⟨.inl (congrArg Ev.t h2), .inl (congrArg Ev.q h2), .inr trivial, .inl (congrArg Ev.n h2), .inl (congrArg Ev.x h2), .inl (congrArg Ev.fs h2)⟩, fun ⟨g0, g1, g2, g3, g4, g5⟩ => ?_⟩
    cases e
    have g0 := g0.resolve_right id
    have g1 := g1.resolve_right id
    have g3 := g3.resolve_right id
    have g4 := g4.resolve_right id
    have g5 := g5.resolve_right id
    dsimp only at g0 g1 g3 g4 g5
    rw [g0, g1, g3, g4, g5]
  by_cases h : e.k = 8
  · rw [spare68 (.inr h)]
    have m0 : (hasS sT (usesS e.k) = true) = False := eq_false (by rw [h]; decide +kernel)
    have m1 : (hasS sQ (usesS e.k) = true) = False := eq_false (by rw [h]; decide +kernel)
    have m2 : (hasS sW (usesS e.k) = true) = False := eq_false (by rw [h]; decide +kernel)
    have m3 : (hasS sN (usesS e.k) = true) = False := eq_false (by rw [h]; decide +kernel)
    have m4 : (hasS sX (usesS e.k) = true) = False := eq_false (by rw [h]; decide +kernel)
    have m5 : (hasS sF (usesS e.k) = true) = False := eq_false (by rw [h]; decide +kernel)
    rw [m0, m1, m2, m3, m4, m5]
    refine ⟨fun h2 => ⟨.inl (congrArg Ev.t h2), .inl (congrArg Ev.q h2), .inl (congrArg Ev.w h2), .inl (congrArg Ev.n h2), .inl (congrArg Ev.x h2), .inl (congrArg Ev.fs h2)⟩, fun ⟨g0, g1, g2, g3, g4, g5⟩ => ?_⟩
    cases e
    have g0 := g0.resolve_right id
    have g1 := g1.resolve_right id
    have g2 := g2.resolve_right id
    have g3 := g3.resolve_right id
    have g4 := g4.resolve_right id
    have g5 := g5.resolve_right id
    dsimp only at g0 g1 g2 g3 g4 g5
    rw [g0, g1, g2, g3, g4, g5]
  by_cases h : e.k = 9
  · rw [spare9 h]
    have m0 : (hasS sT (usesS e.k) = true) = False := eq_false (by rw [h]; decide +kernel)
    have m1 : (hasS sQ (usesS e.k) = true) = False := eq_false (by rw [h]; decide +kernel)
    have m2 : (hasS sW (usesS e.k) = true) = True := eq_true (by rw [h]; decide +kernel)
    have m3 : (hasS sN (usesS e.k) = true) = True := eq_true (by rw [h]; decide +kernel)
    have m4 : (hasS sX (usesS e.k) = true) = False := eq_false (by rw [h]; decide +kernel)
    have m5 : (hasS sF (usesS e.k) = true) = False := eq_false (by rw [h]; decide +kernel)
    rw [m0, m1, m2, m3, m4, m5]
    refine ⟨fun h2 => ⟨.inl (congrArg Ev.t h2), .inl (congrArg Ev.q h2), .inr trivial, .inr trivial, .inl (congrArg Ev.x h2), .inl (congrArg Ev.fs h2)⟩, fun ⟨g0, g1, g2, g3, g4, g5⟩ => ?_⟩
    cases e
    have g0 := g0.resolve_right id
    have g1 := g1.resolve_right id
    have g4 := g4.resolve_right id
    have g5 := g5.resolve_right id
    dsimp only at g0 g1 g4 g5
    rw [g0, g1, g4, g5]
  omega

/-! ### the past, from the event downwards -/
theorem Rch.last {E : List Ev} {x z : Int} (h : Rch E x z) : z ∈ nmE E x ∨ ∃ y, Rch E x y ∧ z ∈ nmE E y := by
  induction h with
  | one _ _ c => exact .inl c
  | step a b c _ ih =>
    rcases ih with h | ⟨y, h1, h2⟩
    · exact .inr ⟨_, .one a b c, h⟩
    · exact .inr ⟨y, .step a b c h1, h2⟩
/-- x is known when the events behind i have been looked at. -/
def isP (E : List Ev) (id i x : Int) : Prop := x = id ∨ ∃ y, i < y ∧ (y = id ∨ Rch E id y) ∧ x ∈ nmE E y
theorem isP_start {E : List Ev} (hw : Wf E) {id x : Int} : isP E id id x ↔ x = id := by
  refine ⟨fun h => ?_, .inl⟩
  rcases h with h | ⟨y, h1, h2 | h2, _⟩
  · exact h
  · omega
  · have := h2.lt hw; omega
theorem isP_at {E : List Ev} (hw : Wf E) {id i : Int} (h0 : 0 ≤ id) (h1 : id < E.length) : isP E id i i ↔ i = id ∨ Rch E id i := by
  refine ⟨fun h => ?_, fun h => ?_⟩
  · rcases h with h | ⟨y, hy, h2 | h2, h3⟩
    · exact .inl h
    · subst h2; exact .inr (.one h0 h1 h3)
    · have := h2.lt hw
      exact .inr (h2.snoc h3 this.1 (by omega))
  · rcases h with h | h
    · exact .inl h
    · rcases h.last with h2 | ⟨y, h2, h3⟩
      · exact .inr ⟨id, (nm_lt hw h0 h1 h2).2, .inl rfl, h2⟩
      · have := h2.lt hw
        exact .inr ⟨y, (nm_lt hw this.1 (by omega) h3).2, .inr h2, h3⟩
theorem isP_step (E : List Ev) (id i x : Int) : isP E id (i - 1) x ↔ isP E id i x ∨ ((i = id ∨ Rch E id i) ∧ x ∈ nmE E i) := by
  refine ⟨fun h => ?_, fun h => ?_⟩
  · rcases h with h | ⟨y, hy, h2, h3⟩
    · exact .inl (.inl h)
    · by_cases he : y = i
      · subst he; exact .inr ⟨h2, h3⟩
      · exact .inl (.inr ⟨y, by omega, h2, h3⟩)
  · rcases h with (h | ⟨y, hy, h2, h3⟩) | ⟨h2, h3⟩
    · exact .inl h
    · exact .inr ⟨y, by omega, h2, h3⟩
    · exact .inr ⟨i, by omega, h2, h3⟩
theorem isP_end {E : List Ev} (hw : Wf E) {id x : Int} (h0 : 0 ≤ id) (h1 : id < E.length) : isP E id (-1) x ↔ x = id ∨ Rch E id x := by
  refine ⟨fun h => ?_, fun h => ?_⟩
  · rcases h with h | ⟨y, hy, h2 | h2, h3⟩
    · exact .inl h
    · subst h2; exact .inr (.one h0 h1 h3)
    · have := h2.lt hw
      exact .inr (h2.snoc h3 this.1 (by omega))
  · rcases h with h | h
    · exact .inl h
    · have := h.lt hw
      rcases h.last with h2 | ⟨y, h2, h3⟩
      · exact .inr ⟨id, by omega, .inl rfl, h2⟩
      · have := h2.lt hw
        exact .inr ⟨y, by omega, .inr h2, h3⟩
end Go.Proofs.Ytnookbebiacaeaa
end

section
/-
  Conversations: the reference's functions on events.
-/
namespace Go.Proofs.Ytnookbebiacaeaa
open Go.Eng

theorem toB {n m m1 : Int} (h : m1 = m + 1) : (decide (n ≥ 0) && decide (n ≤ m)) = bl n m1 := by
  unfold bl
  rw [Bool.eq_iff_iff]
  simp only [Bool.and_eq_true, decide_eq_true_eq]
  omega
set_option maxRecDepth 20000 in
set_option maxHeartbeats 8000000 in
theorem ranges_fn (e : Ev) : Ctr Try.prog 188 [.ag e.av] [] (.b (fieldsE e)) := by
  refine fn_of_exec tabOk Try.func188 (by kernel_rfl) rfl (N := Try.f188.ntmps) rfl (res := [.tmp 2]) rfl rfl [] ?_
  repeat refine Or.inl ?_
  refine ⟨fun h => ?_, fun h0 => ?_⟩
  · have h : (e.k == 0) = true := h
    rw [beq_iff_eq] at h
    refine RetIs.b ?_
    unfold fieldsE mb bl
    rw [if_pos h, Bool.eq_iff_iff]
    simp only [Bool.and_eq_true, Bool.or_eq_true, beq_iff_eq, decide_eq_true_eq]
    omega
  have h0 : (e.k == 0) = false := h0
  rw [beq_eq_false_iff_ne] at h0
  have c12 : e.k = 1 ∨ e.k = 2 → fieldsE e = bl e.t 100000 := fun h => by unfold fieldsE; rw [if_neg h0, if_pos h]
  repeat refine Or.inl ?_
  refine ⟨fun h => ?_, fun h1 => ?_⟩
  · have h' : (e.k == 1) = true := h
    rw [beq_iff_eq] at h'
    repeat refine Or.inl ?_
    refine ⟨fun _ => ?_, fun hn => ?_⟩
    · repeat refine Or.inl ?_
      refine ⟨[], _, to_fn e.t 99999, ?_⟩
      exact RetIs.b ((toB rfl).trans (c12 (.inl h')).symm)
    · have hn : (e.k == 1) = false := hn
      rw [beq_eq_false_iff_ne] at hn
      exact absurd h' hn
  have h1 : (e.k == 1) = false := h1
  rw [beq_eq_false_iff_ne] at h1
  repeat refine Or.inl ?_
  refine ⟨fun h => ?_, fun h2 => ?_⟩
  · have h' : (e.k == 2) = true := h
    rw [beq_iff_eq] at h'
    repeat refine Or.inl ?_
    refine ⟨[], _, to_fn e.t 99999, ?_⟩
    exact RetIs.b ((toB rfl).trans (c12 (.inr h')).symm)
  have h2 : (e.k == 2) = false := h2
  rw [beq_eq_false_iff_ne] at h2
  have c34 : e.k = 3 ∨ e.k = 4 → fieldsE e = ((bl e.t 100000 && decide (1 ≤ e.n)) && decide (e.n ≤ 100)) := fun h => by unfold fieldsE; rw [if_neg h0, if_neg (by omega), if_pos h]
  repeat refine Or.inl ?_
  refine ⟨fun h => ?_, fun h3 => ?_⟩
  · have h' : (e.k == 3) = true := h
    rw [beq_iff_eq] at h'
    repeat refine Or.inl ?_
    refine ⟨fun _ => ?_, fun hn => ?_⟩
    · repeat refine Or.inl ?_
      refine ⟨[], _, to_fn e.t 99999, ?_⟩
      refine RetIs.b ?_
      rw [c34 (.inl h'), ← toB (n := e.t) (m := 99999) (m1 := 100000) rfl]
    · have hn : (e.k == 3) = false := hn
      rw [beq_eq_false_iff_ne] at hn
      exact absurd h' hn
  have h3 : (e.k == 3) = false := h3
  rw [beq_eq_false_iff_ne] at h3
  repeat refine Or.inl ?_
  refine ⟨fun h => ?_, fun h4 => ?_⟩
  · have h' : (e.k == 4) = true := h
    rw [beq_iff_eq] at h'
    repeat refine Or.inl ?_
    refine ⟨[], _, to_fn e.t 99999, ?_⟩
    refine RetIs.b ?_
    rw [c34 (.inr h'), ← toB (n := e.t) (m := 99999) (m1 := 100000) rfl]
  have h4 : (e.k == 4) = false := h4
  rw [beq_eq_false_iff_ne] at h4
  have c57 : e.k = 5 ∨ e.k = 7 → fieldsE e = bl e.w 2000 := fun h => by unfold fieldsE; rw [if_neg h0, if_neg (by omega), if_neg (by omega), if_pos h]
  repeat refine Or.inl ?_
  refine ⟨fun h => ?_, fun h5 => ?_⟩
  · have h' : (e.k == 5) = true := h
    rw [beq_iff_eq] at h'
    repeat refine Or.inl ?_
    refine ⟨fun _ => ?_, fun hn => ?_⟩
    · repeat refine Or.inl ?_
      refine ⟨[], _, to_fn e.w 1999, ?_⟩
      exact RetIs.b ((toB rfl).trans (c57 (.inl h')).symm)
    · have hn : (e.k == 5) = false := hn
      rw [beq_eq_false_iff_ne] at hn
      exact absurd h' hn
  have h5 : (e.k == 5) = false := h5
  rw [beq_eq_false_iff_ne] at h5
  repeat refine Or.inl ?_
  refine ⟨fun h => ?_, fun h7 => ?_⟩
  · have h' : (e.k == 7) = true := h
    rw [beq_iff_eq] at h'
    repeat refine Or.inl ?_
    refine ⟨[], _, to_fn e.w 1999, ?_⟩
    exact RetIs.b ((toB rfl).trans (c57 (.inr h')).symm)
  have h7 : (e.k == 7) = false := h7
  rw [beq_eq_false_iff_ne] at h7
  repeat refine Or.inl ?_
  refine ⟨fun h => ?_, fun h9 => ?_⟩
  · have h' : (e.k == 9) = true := h
    rw [beq_iff_eq] at h'
    repeat refine Or.inl ?_
    refine ⟨[], _, to_fn e.w 1999, ?_⟩
    repeat refine Or.inl ?_
    refine ⟨[], _, fun _ => to_fn e.n 15, ?_⟩
    refine RetIs.b ?_
    unfold fieldsE
    rw [if_neg h0, if_neg (by omega), if_neg (by omega), if_neg (by omega), if_pos h', ← toB (n := e.w) (m := 1999) (m1 := 2000) rfl, ← toB (n := e.n) (m := 15) (m1 := 16) rfl]
  have h9 : (e.k == 9) = false := h9
  rw [beq_eq_false_iff_ne] at h9
  have c68 : fieldsE e = ((e.k == 6) || (e.k == 8)) := by unfold fieldsE; rw [if_neg h0, if_neg (by omega), if_neg (by omega), if_neg (by omega), if_neg h9]
  repeat refine Or.inl ?_
  refine ⟨fun h => ?_, fun h6 => ?_⟩
  · have h' : (e.k == 6) = true := h
    repeat refine Or.inl ?_
    refine ⟨fun _ => ?_, fun hn => ?_⟩
    · refine RetIs.b ?_
      rw [c68, h']
      rfl
    · have hn : (e.k == 6) = false := hn
      rw [h'] at hn
      cases hn
  have h6 : (e.k == 6) = false := h6
  repeat refine Or.inl ?_
  refine ⟨fun h => ?_, fun h8 => ?_⟩
  · have h' : (e.k == 8) = true := h
    refine RetIs.b ?_
    rw [c68, h', Bool.or_true]
  have h8 : (e.k == 8) = false := h8
  refine RetIs.b ?_
  rw [c68, h6, h8]
  rfl
set_option maxRecDepth 20000 in
set_option maxHeartbeats 8000000 in
theorem rUses_fn (k : Int) : CtrA Try.prog 236 [.i .i64 k] (.rs 1 (usesS k).length (rS (usesS k))) := by
  refine fn_of_execA tabOk Try.func236 (by kernel_rfl) rfl (N := Try.f236.ntmps) rfl (res := [.tmp 2]) rfl rfl [(1000003, [.frz 2 [0]]), (1000005, [.frz 2 [0]]), (1000007, [.frz 2 [0]]), (1000010, [.frz 2 [0]]), (1000013, [.frz 2 [0]]), (1000015, [.frz 2 [0]])] ?_
  repeat refine Or.inl ?_
  refine ⟨fun h => ?_, fun h0 => ?_⟩
  · have h : (k == 0) = true := h
    rw [beq_iff_eq] at h
    refine RetA.rsS (l' := [sT, sQ, sW, sX, sF]) (by unfold usesS; rw [if_pos h]) rfl fun j hj => ?_
    match j, hj with
    | 0, _ => rfl
    | 1, _ => rfl
    | 2, _ => rfl
    | 3, _ => rfl
    | 4, _ => rfl
  have h0 : (k == 0) = false := h0
  rw [beq_eq_false_iff_ne] at h0
  repeat refine Or.inl ?_
  refine ⟨fun h => ?_, fun h1 => ?_⟩
  · have h : (k == 1) = true := h
    rw [beq_iff_eq] at h
    refine RetA.rsS (l' := [sT, sX, sF]) (by unfold usesS; rw [if_neg h0, if_pos h]) rfl fun j hj => ?_
    match j, hj with
    | 0, _ => rfl
    | 1, _ => rfl
    | 2, _ => rfl
  have h1 : (k == 1) = false := h1
  rw [beq_eq_false_iff_ne] at h1
  repeat refine Or.inl ?_
  refine ⟨fun h => ?_, fun h2 => ?_⟩
  · have h : (k == 2) = true := h
    rw [beq_iff_eq] at h
    refine RetA.rsS (l' := [sT]) (by unfold usesS; rw [if_neg h0, if_neg h1, if_pos h]) rfl fun j hj => ?_
    match j, hj with
    | 0, _ => rfl
  have h2 : (k == 2) = false := h2
  rw [beq_eq_false_iff_ne] at h2
  have two' : ∀ {p : Nat → Prop}, p 0 → p 1 → ∀ j, j < 2 → p j := fun h0 h1 j hj => by
    match j, hj with
    | 0, _ => exact h0
    | 1, _ => exact h1
  have one' : ∀ {p : Nat → Prop}, p 0 → ∀ j, j < 1 → p j := fun h0 j hj => by
    match j, hj with
    | 0, _ => exact h0
  repeat refine Or.inl ?_
  refine ⟨fun h3 => ?_, fun h3 => ?_⟩
  · have h3' : (k == 3) = true := h3
    rw [beq_iff_eq] at h3'
    repeat refine Or.inl ?_
    refine ⟨fun _ => ?_, fun h => ?_⟩
    · exact RetA.rsS (l' := [sT, sN]) (by unfold usesS; rw [if_neg h0, if_neg h1, if_neg h2, if_pos (.inl h3')]) rfl (two' rfl rfl)
    · have h : (k == 3) = false := h
      rw [beq_eq_false_iff_ne] at h
      exact absurd h3' h
  have h3 : (k == 3) = false := h3
  rw [beq_eq_false_iff_ne] at h3
  repeat refine Or.inl ?_
  refine ⟨fun h => ?_, fun h4 => ?_⟩
  · have h : (k == 4) = true := h
    rw [beq_iff_eq] at h
    exact RetA.rsS (l' := [sT, sN]) (by unfold usesS; rw [if_neg h0, if_neg h1, if_neg h2, if_pos (.inr h)]) rfl (two' rfl rfl)
  have h4 : (k == 4) = false := h4
  rw [beq_eq_false_iff_ne] at h4
  repeat refine Or.inl ?_
  refine ⟨fun h5 => ?_, fun h5 => ?_⟩
  · have h5' : (k == 5) = true := h5
    rw [beq_iff_eq] at h5'
    repeat refine Or.inl ?_
    refine ⟨fun _ => ?_, fun h => ?_⟩
    · exact RetA.rsS (l' := [sW]) (by unfold usesS; rw [if_neg h0, if_neg h1, if_neg h2, if_neg (by omega), if_pos (.inl h5')]) rfl (one' rfl)
    · have h : (k == 5) = false := h
      rw [beq_eq_false_iff_ne] at h
      exact absurd h5' h
  have h5 : (k == 5) = false := h5
  rw [beq_eq_false_iff_ne] at h5
  repeat refine Or.inl ?_
  refine ⟨fun h => ?_, fun h7 => ?_⟩
  · have h : (k == 7) = true := h
    rw [beq_iff_eq] at h
    exact RetA.rsS (l' := [sW]) (by unfold usesS; rw [if_neg h0, if_neg h1, if_neg h2, if_neg (by omega), if_pos (.inr h)]) rfl (one' rfl)
  have h7 : (k == 7) = false := h7
  rw [beq_eq_false_iff_ne] at h7
  repeat refine Or.inl ?_
  refine ⟨fun h => ?_, fun h9 => ?_⟩
  · have h : (k == 9) = true := h
    rw [beq_iff_eq] at h
    exact RetA.rsS (l' := [sW, sN]) (by unfold usesS; rw [if_neg h0, if_neg h1, if_neg h2, if_neg (by omega), if_neg (by omega), if_pos h]) rfl (two' rfl rfl)
  have h9 : (k == 9) = false := h9
  rw [beq_eq_false_iff_ne] at h9
  exact RetA.nilS (by unfold usesS; rw [if_neg h0, if_neg h1, if_neg h2, if_neg (by omega), if_neg (by omega), if_neg h9])
set_option maxRecDepth 20000 in
theorem has130_fn (l : List ByteArray) (hl : l.length < 2^62) (x : ByteArray) : Ctr Try.prog 130 [.rs 1 l.length (rS l), .s x] [] (.b (hasS x l)) := by
  refine fn_of_exec tabOk Try.func130 (by kernel_rfl) rfl (N := Try.f130.ntmps) rfl (res := [.tmp 4]) rfl rfl [] ?_
  repeat refine Or.inl ?_
  refine ⟨[], Nat, fun k => k ≤ l.length ∧ ∀ j, j < k → l.getD j noB ≠ x, fun k => [⟨5, [], .i .i64 k⟩], fun _ => [], fun k => l.length - k,
    ⟨0, [], ⟨Nat.zero_le _, fun j hj => by omega⟩, rfl, rfl, rfl, rfl, rfl, ⟨rfl, rfl⟩, trivial⟩, ?_⟩
  rintro k ⟨hk, hno⟩
  have hk : k ≤ l.length := hk
  refine .inl ⟨fun hc => ?_, fun hc => ?_⟩
  · have hc := dlt hc
    have hc : (k : Int) < l.length := hc
    have ek : (k : Int).toNat = k := Int.toNat_natCast k
    repeat refine Or.inl ?_
    refine ⟨⟨by omega, by omega⟩, ?_⟩
    repeat refine Or.inl ?_
    refine ⟨fun h => ?_, fun h => ?_⟩
    · have h : bytesEq (l.getD (k : Int).toNat noB) x = true := h
      rw [ek, bytes_eq] at h
      refine RetIs.b ?_
      symm
      unfold hasS
      rw [List.any_eq_true]
      exact ⟨l.getD k noB, by rw [gdI (by omega)]; exact List.getElem_mem _, decide_eq_true h⟩
    · have h : bytesEq (l.getD (k : Int).toNat noB) x = false := h
      rw [ek, bytesEq_dec, decide_eq_false_iff_not] at h
      refine ⟨k + 1, [], ⟨by omega, fun j hj => ?_⟩, by dsimp only; omega, rfl, rfl, rfl, rfl, rfl, ⟨rfl, wr (by omega) (by omega)⟩, trivial⟩
      by_cases hjk : j = k
      · rw [hjk]; exact h
      · exact hno j (by omega)
  · have hc := dnlt hc
    have hc : (l.length : Int) ≤ k := hc
    obtain rfl : k = l.length := by omega
    refine RetIs.b ?_
    symm
    unfold hasS
    rw [List.any_eq_false]
    intro y hm
    obtain ⟨j, hj, rfl⟩ := List.mem_iff_getElem.1 hm
    rw [decide_eq_true_eq, ← gdI (d := noB) hj]
    exact hno j hj
set_option maxRecDepth 20000 in
theorem unused_fn (k : Int) (f : ByteArray) : Ctr Try.prog 217 [.i .i64 k, .s f] [] (.b (!hasS f (usesS k))) := by
  have hu := usesS_len k
  refine fn_of_exec tabOk Try.func217 (by kernel_rfl) rfl (N := Try.f217.ntmps) rfl (res := [.tmp 4]) rfl rfl [] ?_
  refine Or.inr (Or.inl ?_)
  refine ⟨_, rUses_fn k, ?_⟩
  repeat refine Or.inl ?_
  refine ⟨[], _, has130_fn (usesS k) (by omega) f, ?_⟩
  exact RetIs.b rfl
/-- What the reference asks of the fields that the kind does not use. -/
def cleanE (e : Ev) : Bool :=
  ((((((e.t == -1) || !(!hasS sT (usesS e.k))) && ((e.q == -1) || !(!hasS sQ (usesS e.k)))) && ((e.w == -1) || !(!hasS sW (usesS e.k)))) &&
    ((e.n == 0) || !(!hasS sN (usesS e.k)))) && (bytesEq e.x noB || !(!hasS sX (usesS e.k)))) && (((e.fs.length : Int) == 0) || !(!hasS sF (usesS e.k)))
theorem clean_eq {e : Ev} (hf : fieldsE e = true) : cleanE e = decide (e = spareE e) := by
  rw [Bool.eq_iff_iff, decide_eq_true_eq, clean_iff hf]
  unfold cleanE
  rw [bytesEq_dec]
  have h0 : ((e.fs.length : Int) = 0) ↔ e.fs = [] := by rw [← List.length_eq_zero_iff]; omega
  simp only [Bool.and_eq_true, Bool.or_eq_true, beq_iff_eq, decide_eq_true_eq, Bool.not_not, h0, and_assoc]
set_option maxRecDepth 20000 in
set_option maxHeartbeats 8000000 in
theorem clean_fn (e : Ev) : Ctr Try.prog 189 [.ag e.av] [] (.b (cleanE e)) := by
  refine fn_of_exec tabOk Try.func189 (by kernel_rfl) rfl (N := Try.f189.ntmps) rfl (res := [.tmp 2]) rfl rfl [] ?_
  repeat refine Or.inl ?_
  refine ⟨[], _, fun _ => unused_fn e.k sT, ?_⟩
  repeat refine Or.inl ?_
  refine ⟨[], _, fun _ => unused_fn e.k sQ, ?_⟩
  repeat refine Or.inl ?_
  refine ⟨[], _, fun _ => unused_fn e.k sW, ?_⟩
  repeat refine Or.inl ?_
  refine ⟨[], _, fun _ => unused_fn e.k sN, ?_⟩
  repeat refine Or.inl ?_
  refine ⟨[], _, fun _ => unused_fn e.k sX, ?_⟩
  repeat refine Or.inl ?_
  refine ⟨[], _, fun _ => unused_fn e.k sF, ?_⟩
  exact RetIs.b rfl
end Go.Proofs.Ytnookbebiacaeaa
end

section
/-
  Conversations: the reference's Right, Copied, Bare and Alike.
-/
namespace Go.Proofs.Ytnookbebiacaeaa
open Go.Eng

theorem rightE_iff (e : Ev) : rightE e = true ↔ (∀ k, k < e.cs.length → badC e.cs k = false) ∧ whoB e = true ∧ (e.cs.length : Int) ≤ 8 ∧ (e.fs.length : Int) ≤ 4 ∧ (e.x.size : Int) ≤ 4000 ∧ (∀ k, k < e.fs.length → badN e.fs k = false) ∧ fieldsE e = true ∧ e = spareE e := by
  unfold rightE causesB filesB
  simp only [Bool.and_eq_true, List.all_eq_true, List.mem_range, Bool.not_eq_true', decide_eq_true_eq]
  constructor
  · rintro ⟨h1, ⟨⟨⟨⟨h2, h3⟩, h4⟩, h5⟩, h6, h7⟩, h8⟩
    exact ⟨h1, h2, h3, h7, h5, h6, h4, h8⟩
  · rintro ⟨h1, h2, h3, h7, h5, h6, h4, h8⟩
    exact ⟨h1, ⟨⟨⟨⟨h2, h3⟩, h4⟩, h5⟩, h6, h7⟩, h8⟩
theorem not_right {e : Ev} (h : rightE e = true → False) : false = rightE e := by
  cases hr : rightE e with
  | true => exact (h hr).elim
  | false => rfl
theorem mem_takeI {l : List Int} {k : Nat} (hk : k ≤ l.length) {x : Int} : x ∈ l.take k ↔ ∃ j, j < k ∧ l.getD j 0 = x := by
  constructor
  · intro h
    obtain ⟨j, hj, rfl⟩ := List.mem_iff_getElem.1 h
    rw [List.length_take] at hj
    exact ⟨j, by omega, by rw [List.getElem_take, gdI (by omega)]⟩
  · rintro ⟨j, hj, rfl⟩
    rw [gdI (by omega)]
    exact List.mem_iff_getElem.2 ⟨j, by rw [List.length_take]; omega, List.getElem_take ..⟩
set_option maxRecDepth 20000 in
set_option maxHeartbeats 16000000 in
theorem rRight_fn (e : Ev) (h1 : e.cs.length < 2^62) (h2 : e.fs.length < 2^62) : Ctr Try.prog 148 [.ag e.av] [] (.b (rightE e)) := by
  refine fn_of_exec tabOk Try.func148 (by kernel_rfl) rfl (N := Try.f148.ntmps) rfl (res := [.tmp 2]) rfl rfl [] ?_
  repeat refine Or.inl ?_
  refine ⟨[], _, to_fn _ _, ?_⟩
  repeat refine Or.inl ?_
  refine ⟨[], _, fun _ => to_fn _ _, ?_⟩
  repeat refine Or.inl ?_
  refine ⟨[], _, fun _ => to_fn _ _, ?_⟩
  repeat refine Or.inl ?_
  refine ⟨[], _, fun _ => to_fn _ _, ?_⟩
  repeat refine Or.inl ?_
  refine ⟨fun h => ?_, fun h => ?_⟩
  · have h : ((((((!(decide (e.a ≥ 0) && decide (e.a ≤ 1999)) || !(decide (e.s ≥ 0) && decide (e.s ≤ 99999))) || !(decide (e.g ≥ 0) && decide (e.g ≤ 499))) || !(decide (e.st ≥ 0) && decide (e.st ≤ 1073741824))) || decide ((e.cs.length : Int) > 8)) || decide ((e.fs.length : Int) > 4)) || decide ((e.x.size : Int) > 4000)) = true := h
    rw [toB (m1 := 2000) rfl, toB (m1 := 100000) rfl, toB (m1 := 500) rfl, toB (m1 := 1073741825) rfl] at h
    refine RetIs.b (not_right fun hr => ?_)
    obtain ⟨_, g2, g3, g4, g5, _⟩ := (rightE_iff e).1 hr
    unfold whoB at g2
    simp only [Bool.and_eq_true] at g2
    rw [g2.1.1.1, g2.1.1.2, g2.1.2, g2.2, decide_eq_false (by omega), decide_eq_false (by omega), decide_eq_false (by omega)] at h
    cases h
  have h : ((((((!(decide (e.a ≥ 0) && decide (e.a ≤ 1999)) || !(decide (e.s ≥ 0) && decide (e.s ≤ 99999))) || !(decide (e.g ≥ 0) && decide (e.g ≤ 499))) || !(decide (e.st ≥ 0) && decide (e.st ≤ 1073741824))) || decide ((e.cs.length : Int) > 8)) || decide ((e.fs.length : Int) > 4)) || decide ((e.x.size : Int) > 4000)) = false := h
  rw [toB (m1 := 2000) rfl, toB (m1 := 100000) rfl, toB (m1 := 500) rfl, toB (m1 := 1073741825) rfl] at h
  simp only [Bool.or_eq_false_iff, Bool.not_eq_false', decide_eq_false_iff_not] at h
  obtain ⟨⟨⟨⟨⟨⟨q1, q2⟩, q3⟩, q4⟩, q5⟩, q6⟩, q7⟩ := h
  have hwho : whoB e = true := by unfold whoB; rw [q1, q2, q3, q4]; rfl
  repeat refine Or.inl ?_
  refine ⟨[], Nat, fun k => k ≤ e.cs.length ∧ ∀ j, j < k → badC e.cs j = false, fun k => [⟨3, [], .i .i64 k⟩], fun _ => [], fun k => e.cs.length - k,
    ⟨0, [], ⟨Nat.zero_le _, fun j hj => by omega⟩, rfl, rfl, rfl, rfl, rfl, ⟨rfl, rfl⟩, trivial⟩, ?_⟩
  rintro k ⟨hk, hno⟩
  have hk : k ≤ e.cs.length := hk
  refine .inl ⟨fun hc => ?_, fun hc => ?_⟩
  · have hc := dlt hc
    have hc : (k : Int) < e.cs.length := hc
    have ek : (k : Int).toNat = k := Int.toNat_natCast k
    have sub1 : decide ((k : Int) > 0) = true → max (IntKind.i64.wrap ((k : Int) - 1)) 0 = ((k - 1 : Nat) : Int) ∧ 0 < k := fun h => by
      have h := of_decide_eq_true h
      exact ⟨by rw [wr (by omega) (by omega)]; omega, by omega⟩
    repeat refine Or.inl ?_
    refine ⟨⟨by omega, by omega⟩, ?_⟩
    repeat refine Or.inl ?_
    refine ⟨[], _, to_fn _ _, ?_⟩
    refine ⟨fun _ => ⟨by omega, by omega⟩, ?_⟩
    refine ⟨fun hg => ?_, ?_⟩
    · have := sub1 hg.1
      rw [this.1]
      omega
    have key : (!(decide (e.cs.getD (k : Int).toNat 0 ≥ 0) && decide (e.cs.getD (k : Int).toNat 0 ≤ 99999)) || (decide ((k : Int) > 0) && decide (e.cs.getD (k : Int).toNat 0 ≤ e.cs.getD (max (IntKind.i64.wrap ((k : Int) - 1)) 0).toNat 0))) = badC e.cs k := by
      unfold badC
      rw [ek, toB (m1 := 100000) rfl]
      cases h0 : decide ((k : Int) > 0) with
      | false =>
        rw [show decide (0 < k) = false from decide_eq_false (by have := of_decide_eq_false h0; omega)]
        rfl
      | true =>
        obtain ⟨e1, e2⟩ := sub1 h0
        rw [e1, Int.toNat_natCast, decide_eq_true e2]
    repeat refine Or.inl ?_
    refine ⟨fun h => ?_, fun h => ?_⟩
    · have h := key.symm.trans h
      refine RetIs.b (not_right fun hr => ?_)
      rw [((rightE_iff e).1 hr).1 k (by omega)] at h
      cases h
    · have h := key.symm.trans h
      refine ⟨k + 1, [], ⟨by omega, fun j hj => ?_⟩, by dsimp only; omega, rfl, rfl, rfl, rfl, rfl, ⟨rfl, wr (by omega) (by omega)⟩, trivial⟩
      by_cases hjk : j = k
      · rw [hjk]; exact h
      · exact hno j (by omega)
  · have hc := dnlt hc
    have hc : (e.cs.length : Int) ≤ k := hc
    obtain rfl : k = e.cs.length := by omega
    repeat refine Or.inl ?_
    refine ⟨[], Nat, fun k => k ≤ e.fs.length ∧ ∀ j, j < k → badN e.fs j = false, fun k => [⟨4, [], .i .i64 k⟩], fun _ => [], fun k => e.fs.length - k,
      ⟨0, [], ⟨Nat.zero_le _, fun j hj => by omega⟩, rfl, rfl, rfl, rfl, rfl, ⟨rfl, rfl⟩, trivial⟩, ?_⟩
    rintro k ⟨hk, hnf⟩
    have hk : k ≤ e.fs.length := hk
    refine .inl ⟨fun hc => ?_, fun hc => ?_⟩
    · have hc := dlt hc
      have hc : (k : Int) < e.fs.length := hc
      have ek : (k : Int).toNat = k := Int.toNat_natCast k
      repeat refine Or.inl ?_
      refine ⟨⟨by omega, by omega⟩, ?_⟩
      repeat refine Or.inl ?_
      refine ⟨[], _, to_fn _ _, ?_⟩
      repeat refine Or.inl ?_
      refine ⟨fun h => ?_, fun h => ?_⟩
      · have h : (!(decide (e.fs.getD (k : Int).toNat 0 ≥ 0) && decide (e.fs.getD (k : Int).toNat 0 ≤ 1073741824))) = true := h
        rw [toB (m1 := 1073741825) rfl, ek] at h
        refine RetIs.b (not_right fun hr => ?_)
        have := ((rightE_iff e).1 hr).2.2.2.2.2.1 k (by omega)
        unfold badN at this
        rw [h] at this
        cases this
      have h : (!(decide (e.fs.getD (k : Int).toNat 0 ≥ 0) && decide (e.fs.getD (k : Int).toNat 0 ≤ 1073741824))) = false := h
      rw [toB (m1 := 1073741825) rfl, ek] at h
      repeat refine Or.inl ?_
      refine ⟨[], Nat, fun m => m ≤ k ∧ ∀ j, j < m → e.fs.getD j 0 ≠ e.fs.getD k 0, fun m => [⟨5, [], .i .i64 m⟩], fun _ => [], fun m => k - m,
        ⟨0, [], ⟨Nat.zero_le _, fun j hj => by omega⟩, rfl, rfl, rfl, rfl, rfl, ⟨rfl, rfl⟩, trivial⟩, ?_⟩
      rintro m ⟨hm, hnm⟩
      have hm : m ≤ k := hm
      refine .inl ⟨fun hc2 => ?_, fun hc2 => ?_⟩
      · have hc2 : decide ((m : Int) < (k : Int)) = true := hc2
        rw [decide_eq_true_eq] at hc2
        have em : (m : Int).toNat = m := Int.toNat_natCast m
        repeat refine Or.inl ?_
        refine ⟨⟨by omega, by omega⟩, ?_⟩
        refine ⟨⟨by omega, by omega⟩, ?_⟩
        refine ⟨fun h3 => ?_, fun h3 => ?_⟩
        · have h3 : (e.fs.getD (m : Int).toNat 0 == e.fs.getD (k : Int).toNat 0) = true := h3
          rw [em, ek, beq_iff_eq] at h3
          refine RetIs.b (not_right fun hr => ?_)
          have := ((rightE_iff e).1 hr).2.2.2.2.2.1 k (by omega)
          unfold badN at this
          rw [decide_eq_true ((mem_takeI hk).2 ⟨m, by omega, h3⟩), Bool.or_true] at this
          cases this
        · have h3 : (e.fs.getD (m : Int).toNat 0 == e.fs.getD (k : Int).toNat 0) = false := h3
          rw [em, ek, beq_eq_false_iff_ne] at h3
          refine ⟨m + 1, [], ⟨by omega, fun j hj => ?_⟩, by dsimp only; omega, rfl, rfl, rfl, rfl, rfl, ⟨rfl, wr (by omega) (by omega)⟩, trivial⟩
          by_cases hjm : j = m
          · rw [hjm]; exact h3
          · exact hnm j (by omega)
      · have hc2 : decide ((m : Int) < (k : Int)) = false := hc2
        rw [decide_eq_false_iff_not] at hc2
        obtain rfl : m = k := by omega
        refine ⟨m + 1, [], ⟨by omega, fun j hj => ?_⟩, by dsimp only; omega, rfl, rfl, rfl, rfl, rfl, ⟨rfl, wr (by omega) (by omega)⟩, trivial⟩
        by_cases hjm : j = m
        · subst hjm
          unfold badN
          rw [h, Bool.false_or, decide_eq_false_iff_not, mem_takeI hk]
          rintro ⟨i, hi, hie⟩
          exact hnm i hi hie
        · exact hnf j (by omega)
    · have hc := dnlt hc
      have hc : (e.fs.length : Int) ≤ k := hc
      obtain rfl : k = e.fs.length := by omega
      repeat refine Or.inl ?_
      refine ⟨[], _, ranges_fn e, ?_⟩
      repeat refine Or.inl ?_
      refine ⟨[], _, fun _ => clean_fn e, ?_⟩
      refine RetIs.b ?_
      rw [Bool.eq_iff_iff, rightE_iff]
      cases hf : fieldsE e with
      | false =>
        constructor
        · intro h; cases h
        · rintro ⟨_, _, _, _, _, _, h, _⟩; cases h
      | true =>
        rw [clean_eq hf, Bool.true_and, decide_eq_true_eq]
        exact ⟨fun h => ⟨hno, hwho, by omega, by omega, by omega, hnf, rfl, h⟩, fun h => h.2.2.2.2.2.2.2⟩
/-- A list that is laid anew is the same. -/
theorem cat_rs (l : List Int) (g : Nat → List AV) : AVEq (.rs 1 l.length (rI l)) (.rs 1 (0 + l.length) (catG 0 g (rI l))) := by
  refine ⟨rfl, by omega, fun k hk => ?_⟩
  unfold catG
  simp
set_option maxRecDepth 20000 in
set_option maxHeartbeats 4000000 in
theorem copied_fn (e : Ev) (h1 : e.cs.length * 8 ≤ 140737488355328) (h2 : e.fs.length * 8 ≤ 140737488355328) : CtrA Try.prog 153 [.ag e.av] (.ag e.av) := by
  refine fn_of_execA tabOk Try.func153 (by kernel_rfl) rfl (N := Try.f153.ntmps) rfl (res := [.cell 2 96]) rfl rfl [(1000001, [.frc 0 2 [3], .eq 0 (.cells 96 e.av)]), (1000002, [.frc 0 10 [5], .eq 0 (.cells 96 e.av)])] ?_
  repeat refine Or.inl ?_
  refine ⟨by show (0 + _) * 8 ≤ _; omega, ?_⟩
  refine ⟨⟨rfl, AVEq.refl _, AVEq.refl _, cat_rs _ _, AVEq.refl _, AVEq.refl _, AVEq.refl _, AVEq.refl _, AVEq.refl _, AVEq.refl _, AVEq.refl _, AVEq.refl _, AVEq.refl _⟩, ?_⟩
  repeat refine Or.inl ?_
  refine ⟨by show (0 + _) * 8 ≤ _; omega, ?_⟩
  refine ⟨⟨rfl, AVEq.refl _, AVEq.refl _, AVEq.refl _, AVEq.refl _, AVEq.refl _, AVEq.refl _, AVEq.refl _, AVEq.refl _, AVEq.refl _, AVEq.refl _, cat_rs _ _, AVEq.refl _⟩, ?_⟩
  exact ⟨rfl, AVEq.refl (.ag e.av)⟩
set_option maxRecDepth 20000 in
set_option maxHeartbeats 4000000 in
theorem rbare_fn (e : Ev) (h1 : e.cs.length * 8 ≤ 140737488355328) (h2 : e.fs.length * 8 ≤ 140737488355328) : CtrA Try.prog 154 [.ag e.av] (.ag (bareE e).av) := by
  refine fn_of_execA tabOk Try.func154 (by kernel_rfl) rfl (N := Try.f154.ntmps) rfl (res := [.cell 2 96]) rfl rfl [(1000001, [.frc 0 2 [3], .eq 0 (.cells 96 e.av)]), (1000002, [.frc 0 10 [5], .eq 0 (.cells 96 e.av)]), (1000005, [.eq 0 (.cells 96 ({ e with x := noB, fs := [] } : Ev).av)])] ?_
  repeat refine Or.inl ?_
  refine ⟨by show (0 + _) * 8 ≤ _; omega, ?_⟩
  refine ⟨⟨rfl, AVEq.refl _, AVEq.refl _, cat_rs _ _, AVEq.refl _, AVEq.refl _, AVEq.refl _, AVEq.refl _, AVEq.refl _, AVEq.refl _, AVEq.refl _, AVEq.refl _, AVEq.refl _⟩, ?_⟩
  repeat refine Or.inl ?_
  refine ⟨by show (0 + _) * 8 ≤ _; omega, ?_⟩
  refine ⟨⟨rfl, AVEq.refl _, AVEq.refl _, AVEq.refl _, AVEq.refl _, AVEq.refl _, AVEq.refl _, AVEq.refl _, AVEq.refl _, AVEq.refl _, AVEq.refl _, cat_rs _ _, AVEq.refl _⟩, ?_⟩
  repeat refine Or.inl ?_
  refine ⟨fun h => ?_, fun h => ?_⟩
  · have h : ((e.k == 0) || (e.k == 1)) = true := h
    rw [Bool.or_eq_true, beq_iff_eq, beq_iff_eq] at h
    repeat refine Or.inl ?_
    refine ⟨⟨rfl, AVEq.refl _, AVEq.refl _, AVEq.refl _, AVEq.refl _, AVEq.refl _, AVEq.refl _, AVEq.refl _, AVEq.refl _, AVEq.refl _, AVEq.refl _, ⟨rfl, rfl⟩, AVEq.refl _⟩, ?_⟩
    rw [show bareE e = { e with x := noB, fs := [] } from if_pos h]
    exact ⟨rfl, AVEq.refl (.ag ({ e with x := noB, fs := [] } : Ev).av)⟩
  · have h : ((e.k == 0) || (e.k == 1)) = false := h
    rw [Bool.or_eq_false_iff, beq_eq_false_iff_ne, beq_eq_false_iff_ne] at h
    rw [show bareE e = e from if_neg (by omega)]
    exact ⟨rfl, AVEq.refl (.ag e.av)⟩
set_option maxRecDepth 20000 in
theorem ralike_fn (a b : Ev) (ha : a.fit) (hb : b.fit) : Ctr Try.prog 150 [.ag a.av, .ag b.av] [] (.b (alikeE a b)) := by
  refine fn_of_exec tabOk Try.func150 (by kernel_rfl) rfl (N := Try.f150.ntmps) rfl (res := [.tmp 4]) rfl rfl [] ?_
  have h1 := ha.bare
  have h2 := hb.bare
  unfold Ev.fit at h1 h2
  refine Or.inr ?_
  refine ⟨_, rbare_fn a ha.1 ha.2, ?_⟩
  refine Or.inr ?_
  refine ⟨_, rbare_fn b hb.1 hb.2, ?_⟩
  repeat refine Or.inl ?_
  refine ⟨[], _, same95_fn (bareE a) (bareE b) (by omega) (by omega) (by omega) (by omega), ?_⟩
  exact RetIs.b rfl
end Go.Proofs.Ytnookbebiacaeaa
end

section
/-
  Conversations: the law Again.
-/
namespace Go.Proofs.Ytnookbebiacaeaa
open Go.Eng

theorem few_ev {e : Ev} (h : fewE e = true) : e.cs.length ≤ 10 ∧ e.fs.length ≤ 10 ∧ e.x.size ≤ 300 := by
  unfold fewE at h
  simp only [Bool.and_eq_true, decide_eq_true_eq] at h
  omega
theorem okE_L {E : List Ev} (h : okE E) : okL E := fun e he => by
  have := (h.2 e he).cs.1
  have := (h.2 e he).fs
  omega
end Go.Proofs.Ytnookbebiacaeaa
end

section
/-
  Conversations: the reference's conversation, its small functions: new, the ids of an author, a message, what was deleted, all of them, one of them.
-/
namespace Go.Proofs.Ytnookbebiacaeaa
open Go.Eng

def rvA (E : List Ev) : List AV := [.rs 12 E.length (rE E)]
theorem take_snocE {E : List Ev} {j : Nat} (h : j < E.length) : E.take (j + 1) = E.take j ++ [E.getD j dE] := by rw [List.take_succ_eq_append_getElem h, gdI h]
set_option maxRecDepth 20000 in
theorem rnew_fn : CtrM Try.prog 89 true [] [] (fun _ : Unit => True) (fun _ => []) (fun _ => [.cells 119 [.so 1], rowO []]) (fun _ => .p 0 0) := by
  refine fn_of_execM tabOk Try.func89 (by kernel_rfl) rfl (N := Try.f89.ntmps) rfl (res := [.tmp 0]) rfl true false [] _ _ _ _ rfl (fun h => by cases h) [(999999, [.nlc 0 0 96 12])] ?_
  refine ⟨⟨(), [], trivial, ⟨⟨⟨rfl, rfl, AVEq.refl _⟩, trivial⟩, ⟨⟨rfl, rfl, rfl, ⟨rfl, AVsEq.refl _⟩⟩, ⟨rfl, rfl, trivial, ⟨rfl, rfl, rfl, fun k hk => absurd hk (Nat.not_lt_zero k)⟩⟩, trivial⟩, rfl⟩, rfl, fun h => (by cases h)⟩⟩
set_option maxRecDepth 20000 in
theorem of149_fn (E : List Ev) (hE : E.length ≤ 100000) (a : Int) : Ctr Try.prog 149 [.rp (rvA E), .i .i64 a] [.row 3 1 (idsOf E a).length (rI (idsOf E a))] (.so 0) := by
  refine fn_of_exec tabOk Try.func149 (by kernel_rfl) rfl (N := Try.f149.ntmps) rfl (res := [.tmp 4]) rfl rfl [(1000001, [.nl 5 3 1])] ?_
  repeat refine Or.inl ?_
  refine ⟨[], Nat, fun j => j ≤ E.length, fun j => [⟨6, [], .i .i64 j⟩, ⟨5, [], .so 0⟩], fun j => [⟨0, [], .row 3 1 (idsOf (E.take j) a).length (rI (idsOf (E.take j) a))⟩], fun j => E.length - j,
    ⟨0, [], Nat.zero_le _, rfl, rfl, rfl, rfl, rfl, ⟨⟨rfl, rfl⟩, rfl⟩, ⟨rfl, rfl, rfl, fun k hk => absurd hk (Nat.not_lt_zero k)⟩⟩, ?_⟩
  intro j hj
  have hj : j ≤ E.length := hj
  refine .inl ⟨fun hc => ?_, fun hc => ?_⟩
  · have hc := dlt hc
    have hc : (j : Int) < E.length := hc
    have ej : (j : Int).toNat = j := Int.toNat_natCast j
    have htl : (E.take j).length = j := by rw [List.length_take]; omega
    have hil : (idsOf (E.take j) a).length ≤ j := by
      have := asc_len (idsOf_spec (E.take j) a).2.1 (n := j) (fun x hx => by have := (idsOf_spec (E.take j) a).1 x hx; rw [htl] at this; omega)
      exact this
    have hsn := idsOf_snoc (E.take j) (E.getD j dE) a
    rw [← take_snocE (by omega), htl] at hsn
    repeat refine Or.inl ?_
    refine ⟨⟨by omega, by omega⟩, ?_⟩
    refine ⟨fun h => ?_, fun h => ?_⟩
    · have h : ((E.getD (j : Int).toNat dE).a == a) = true := h
      rw [ej, beq_iff_eq] at h
      rw [if_pos h.symm] at hsn
      repeat refine Or.inl ?_
      refine ⟨fits (by omega), ?_⟩
      have aoI : AOEq (.row 3 1 (idsOf (E.take (j + 1)) a).length (rI (idsOf (E.take (j + 1)) a))) (.row 3 1 ((idsOf (E.take j) a).length + 1) (catG (idsOf (E.take j) a).length (rI (idsOf (E.take j) a)) (rowOf 1 [.i .i64 j]))) := by
        rw [hsn]
        exact snocI_row2 _ _
      refine ⟨j + 1, [(0, 2)], (by show j + 1 ≤ E.length; omega), by dsimp only; omega, rfl, rfl, rfl, rfl, rfl, ⟨⟨rfl, wr (by omega) (by omega)⟩, rfl⟩, aoI⟩
    · have h : ((E.getD (j : Int).toNat dE).a == a) = false := h
      rw [ej, beq_eq_false_iff_ne] at h
      rw [if_neg fun e => h e.symm] at hsn
      have aoI : AOEq (.row 3 1 (idsOf (E.take (j + 1)) a).length (rI (idsOf (E.take (j + 1)) a))) (.row 3 1 (idsOf (E.take j) a).length (rI (idsOf (E.take j) a))) := by
        rw [hsn]
        exact AOEq.refl _
      refine ⟨j + 1, [], (by show j + 1 ≤ E.length; omega), by dsimp only; omega, rfl, rfl, rfl, rfl, rfl, ⟨⟨rfl, wr (by omega) (by omega)⟩, rfl⟩, aoI⟩
  · have hc := dnlt hc
    have hc : (E.length : Int) ≤ j := hc
    have hje : E.take j = E := List.take_of_length_le (by omega)
    have hle : idsOf E a = idsOf (E.take j) a := by rw [hje]
    refine RetIs.so rfl (by rw [hle]) (fun k hk => by rw [hle]) (fun _ _ => rfl)
set_option maxRecDepth 20000 in
theorem message_fn (E : List Ev) (e : Ev) (x : Int) (hx : x = -1 ∨ (0 ≤ x ∧ x < E.length)) : Ctr Try.prog 151 [.rp (rvA E), .i .i64 x, .i .i64 e.g] [] (.b (!badM E e x)) := by
  refine fn_of_exec tabOk Try.func151 (by kernel_rfl) rfl (N := Try.f151.ntmps) rfl (res := [.tmp 6]) rfl rfl [] ?_
  repeat refine Or.inl ?_
  refine ⟨fun h => ?_, fun h => ?_⟩
  · have h : (x == -1) = true := h
    rw [beq_iff_eq] at h
    refine RetIs.b ?_
    unfold badM
    rw [h]
    rfl
  · have h : (x == -1) = false := h
    rw [beq_eq_false_iff_ne] at h
    repeat refine Or.inl ?_
    refine ⟨⟨by omega, by omega⟩, ?_⟩
    refine ⟨fun _ => ⟨by omega, by omega⟩, ?_⟩
    refine RetIs.b ?_
    unfold badM
    rw [show (x != -1) = true from by rw [bne_iff_ne]; exact h]
    show (((E.getD x.toNat dE).k == 0) && ((E.getD x.toNat dE).g == e.g)) = _
    unfold bne
    rw [Bool.true_and, Bool.not_or, Bool.not_not, Bool.not_not]
def delT (E : List Ev) (t : Int) : Bool := decide (t ≥ 0) && delB E t
set_option maxRecDepth 20000 in
theorem deleted_fn (E : List Ev) (hE : E.length ≤ 100000) (t : Int) : Ctr Try.prog 152 [.rp (rvA E), .i .i64 t] [] (.b (delT E t)) := by
  refine fn_of_exec tabOk Try.func152 (by kernel_rfl) rfl (N := Try.f152.ntmps) rfl (res := [.tmp 4]) rfl rfl [] ?_
  repeat refine Or.inl ?_
  refine ⟨[], Nat, fun j => j ≤ E.length ∧ delB (E.take j) t = false, fun j => [⟨5, [], .i .i64 j⟩], fun _ => [], fun j => E.length - j,
    ⟨0, [], ⟨Nat.zero_le _, rfl⟩, rfl, rfl, rfl, rfl, rfl, ⟨rfl, rfl⟩, trivial⟩, ?_⟩
  rintro j ⟨hj, hno⟩
  have hj : j ≤ E.length := hj
  have hsn := fun h : j < E.length => by
    have := delB_snoc (E.take j) (E.getD j dE) t
    rw [← take_snocE h] at this
    exact this
  refine .inl ⟨fun hc => ?_, fun hc => ?_⟩
  · have hc : (decide ((j : Int) < E.length) && decide (t ≥ 0)) = true := hc
    rw [Bool.and_eq_true, decide_eq_true_eq, decide_eq_true_eq] at hc
    have ej : (j : Int).toNat = j := Int.toNat_natCast j
    repeat refine Or.inl ?_
    refine ⟨⟨by omega, by omega⟩, ?_⟩
    refine ⟨fun _ => ⟨by omega, by omega⟩, ?_⟩
    refine ⟨fun h => ?_, fun h => ?_⟩
    · have h : (((E.getD (j : Int).toNat dE).k == 2) && ((E.getD (j : Int).toNat dE).t == t)) = true := h
      rw [ej] at h
      refine RetIs.b ?_
      symm
      unfold delT delB
      rw [Bool.and_eq_true, decide_eq_true_eq, List.any_eq_true]
      exact ⟨hc.2, _, getD_memE (by omega), h⟩
    · have h : (((E.getD (j : Int).toNat dE).k == 2) && ((E.getD (j : Int).toNat dE).t == t)) = false := h
      rw [ej] at h
      refine ⟨j + 1, [], ⟨by omega, by rw [hsn (by omega), hno, h]; rfl⟩, by dsimp only; omega, rfl, rfl, rfl, rfl, rfl, ⟨rfl, wr (by omega) (by omega)⟩, trivial⟩
  · have hc : (decide ((j : Int) < E.length) && decide (t ≥ 0)) = false := hc
    rw [Bool.and_eq_false_iff, decide_eq_false_iff_not, decide_eq_false_iff_not] at hc
    refine RetIs.b ?_
    symm
    unfold delT
    rcases hc with hc | hc
    · rw [List.take_of_length_le (by omega)] at hno
      rw [hno, Bool.and_false]
    · rw [decide_eq_false hc, Bool.false_and]
/-- Nothing but an event is deleted. -/
theorem delT_eq {E : List Ev} (hE : okE E) (t : Int) : delT E t = delB E t := by
  unfold delT
  by_cases h : t ≥ 0
  · rw [decide_eq_true h, Bool.true_and]
  · rw [decide_eq_false h, Bool.false_and]
    symm
    unfold delB
    rw [List.any_eq_false]
    intro e he h2
    rw [Bool.and_eq_true, beq_iff_eq, beq_iff_eq] at h2
    have := (hE.2 e he).del h2.1
    omega
set_option maxRecDepth 20000 in
set_option maxHeartbeats 4000000 in
theorem rall_fn (E : List Ev) (hE : okE E) : CtrM Try.prog 97 true [.cells 119 [.so 1], rowO E] [.p 0 0] (fun _ : Unit => True) (fun _ => [.cells 119 [.so 1], rowO E]) (fun _ => [rowO E]) (fun _ => .so 2) := by
  refine fn_of_execM tabOk Try.func97 (by kernel_rfl) rfl (N := Try.f97.ntmps) rfl (res := [.tmp 2]) rfl true false [.cells 119 [.so 1], rowO E] _ _ _ _ rfl (fun h => by cases h) [(1000001, [.nl 3 96 12])] ?_
  have hEl := hE.1
  repeat refine Or.inl ?_
  refine ⟨[], Nat, fun j => j ≤ E.length, fun j => [⟨4, [], .i .i64 j⟩, ⟨3, [], .so 2⟩], fun j => [⟨2, [], rowO (E.take j)⟩], fun j => E.length - j,
    ⟨0, [], Nat.zero_le _, rfl, rfl, rfl, rfl, rfl, ⟨⟨rfl, rfl⟩, rfl⟩, ⟨rfl, rfl, rfl, fun k hk => absurd hk (Nat.not_lt_zero k)⟩⟩, ?_⟩
  intro j hj
  have hj : j ≤ E.length := hj
  refine .inl ⟨fun hc => ?_, fun hc => ?_⟩
  · have hc := dlt hc
    have hc : (j : Int) < E.length := hc
    have ej : (j : Int).toNat = j := Int.toNat_natCast j
    have hm := hE.2 _ (getD_memE (l := E) (k := (j : Int).toNat) (by omega))
    have hcs := hm.cs.1
    have hfs := hm.fs
    have htl : (E.take j).length = j := by rw [List.length_take]; omega
    repeat refine Or.inl ?_
    refine ⟨⟨by omega, by omega⟩, by omega, ?_⟩
    refine Or.inr (Or.inl ?_)
    refine ⟨_, copied_fn (E.getD (j : Int).toNat dE) (by omega) (by omega), ?_⟩
    repeat refine Or.inl ?_
    refine ⟨fits (by omega), ?_⟩
    have aoS : AOEq (rowO (E.take (j + 1))) (.row 96 12 ((E.take j).length + 1) (catG (E.take j).length (rE (E.take j)) (rowOf 12 (E.getD (j : Int).toNat dE).av))) := by
      rw [take_snocE (by omega), ej]
      exact snocE_row _ _
    refine ⟨j + 1, [(2, 4)], (by show j + 1 ≤ E.length; omega), by dsimp only; omega, rfl, rfl, rfl, rfl, rfl, ⟨⟨rfl, wr (by omega) (by omega)⟩, rfl⟩, aoS⟩
  · have hc := dnlt hc
    have hje : j = E.length := by
      have hc : (E.length : Int) ≤ j := hc
      omega
    have aoR : AOEq (rowO E) (rowO (E.take j)) := by rw [hje, List.take_length]; exact AOEq.refl _
    refine ⟨⟨(), [], trivial, ⟨⟨⟨rfl, rfl, AVEq.refl _⟩, trivial⟩, ⟨⟨rfl, rfl, rfl, ⟨rfl, AVsEq.refl _⟩⟩, ⟨rfl, rfl, trivial, AOEq.refl _⟩, ⟨rfl, rfl, trivial, aoR⟩, trivial⟩, rfl⟩, rfl, fun h => (by cases h)⟩⟩
set_option maxRecDepth 20000 in
set_option maxHeartbeats 4000000 in
theorem rget_fn (E : List Ev) (hE : okE E) (i : Int) : CtrM Try.prog 93 true [.cells 119 [.so 1], rowO E] [.p 0 0, .i .i64 i] (fun _ : Unit => True) (fun _ => [.cells 119 [.so 1], rowO E]) (fun _ => []) (fun _ => .tup [.ag (getC E i).1.av, .b (getC E i).2]) := by
  refine fn_of_execM tabOk Try.func93 (by kernel_rfl) rfl (N := Try.f93.ntmps) rfl (res := [.cell 4 96, .tmp 5]) rfl true false [.cells 119 [.so 1], rowO E] _ _ _ _ rfl (fun h => by cases h) [(1000002, [.eq 2 (.cells 96 dE.av)])] ?_
  repeat refine Or.inl ?_
  refine ⟨fun h => ?_, fun h => ?_⟩
  · have h : zP E i = true := h
    have hG : getC E i = (dE, false) := by unfold getC; rw [if_pos h]
    rw [hG]
    refine ⟨⟨rfl, AVEq.refl _, AVEq.refl _, ⟨rfl, rfl⟩, AVEq.refl _, AVEq.refl _, AVEq.refl _, AVEq.refl _, AVEq.refl _, AVEq.refl _, AVEq.refl _, ⟨rfl, rfl⟩, AVEq.refl _⟩, ?_⟩
    refine ⟨⟨(), [], trivial, ⟨⟨⟨rfl, rfl, AVEq.refl _⟩, trivial⟩, ⟨⟨rfl, rfl, rfl, ⟨rfl, AVsEq.refl _⟩⟩, ⟨rfl, rfl, trivial, AOEq.refl _⟩, trivial⟩, rfl⟩, rfl, fun h => (by cases h)⟩⟩
  · have h : zP E i = false := h
    have hG : getC E i = (E.getD i.toNat dE, true) := by unfold getC; rw [if_neg (by rw [h]; decide)]
    rw [hG]
    unfold zP at h
    rw [Bool.or_eq_false_iff, decide_eq_false_iff_not, decide_eq_false_iff_not] at h
    have hm := hE.2 _ (getD_memE (l := E) (k := i.toNat) (by omega))
    have hcs := hm.cs.1
    have hfs := hm.fs
    repeat refine Or.inl ?_
    refine ⟨⟨by omega, by omega⟩, by omega, ?_⟩
    refine Or.inr (Or.inl ?_)
    refine ⟨_, copied_fn (E.getD i.toNat dE) (by omega) (by omega), ?_⟩
    refine ⟨⟨(), [], trivial, ⟨⟨⟨rfl, rfl, AVEq.refl _⟩, trivial⟩, ⟨⟨rfl, rfl, rfl, ⟨rfl, AVsEq.refl _⟩⟩, ⟨rfl, rfl, trivial, AOEq.refl _⟩, trivial⟩, rfl⟩, rfl, fun h => (by cases h)⟩⟩
end Go.Proofs.Ytnookbebiacaeaa
end

section
/-
  Conversations: the reference adds an event.
-/
namespace Go.Proofs.Ytnookbebiacaeaa
open Go.Eng

theorem miss_any (E : List Ev) (e : Ev) : missE E e = (decide (e.t ≥ (E.length : Int)) || (decide (e.q ≥ (E.length : Int)) || e.cs.any fun x => decide (x ≥ (E.length : Int)))) := by
  unfold missE
  rw [List.any_cons, List.any_cons]
set_option maxRecDepth 20000 in
set_option maxHeartbeats 16000000 in
theorem radd_fn (E : List Ev) (hE : okE E) (e : Ev) (h1 : e.cs.length < 2^62) (h2 : e.fs.length < 2^62) :
    CtrM Try.prog 90 true [.cells 119 [.so 1], rowO E] [.p 0 0, .ag e.av] (fun _ : Unit => True) (fun _ => [.cells 119 [.so 2], .dead]) (fun _ => [rowO (addC E e).1]) (fun _ => .tup [.i .i64 (addC E e).2.1, .i .i64 (addC E e).2.2]) := by
  refine fn_of_execM tabOk Try.func90 (by kernel_rfl) rfl (N := Try.f90.ntmps) rfl (res := [.tmp 4, .tmp 5]) rfl true false [.cells 119 [.so 1], rowO E] _ _ _ _ rfl (fun h => by cases h) [(999999, [.mvc 0 0])] ?_
  have hEl := hE.1
  have hsp := idsOf_spec E e.a
  have hil : (idsOf E e.a).length ≤ E.length := asc_len hsp.2.1 fun x hx => ⟨(hsp.1 x hx).1, (hsp.1 x hx).2.1⟩
  repeat refine Or.inl ?_
  refine ⟨[], _, rRight_fn e h1 h2, ?_⟩
  refine ⟨fun h => ?_, fun h => ?_⟩
  · have h : (!rightE e) = true := h
    rw [Bool.not_eq_true'] at h
    have hA : addC E e = (E, (0, 2)) := by unfold addC; rw [if_pos h]
    rw [hA]
    refine ⟨⟨(), [(2, 3)], trivial, ⟨⟨⟨rfl, rfl, AVEq.refl _⟩, trivial⟩, ⟨⟨rfl, rfl, rfl, ⟨rfl, AVsEq.refl _⟩⟩, ⟨rfl, rfl, trivial, trivial⟩, ⟨rfl, rfl, trivial, AOEq.refl _⟩, trivial⟩, rfl⟩, rfl, fun h => (by cases h)⟩⟩
  have h : (!rightE e) = false := h
  rw [Bool.not_eq_false'] at h
  have hrt := right_rt h
  have hr1 : ¬ rightE e = false := by rw [h]; decide
  have hcs := hrt.cs.1
  have hfs := hrt.fs
  have hs0 := hrt.s
  have ht0 := hrt.t
  have hq0 := hrt.q
  repeat refine Or.inl ?_
  refine ⟨_, _, of149_fn E hEl e.a, ?_⟩
  repeat refine Or.inl ?_
  refine ⟨fun hs => ?_, fun hs => ?_⟩
  · have hs : decide (e.s < ((idsOf E e.a).length : Int)) = true := hs
    rw [decide_eq_true_eq] at hs
    have hxm := hsp.1 _ (getD_memI (l := idsOf E e.a) (k := e.s.toNat) (by omega))
    have hEx := hE.2 _ (getD_memE (l := E) (k := ((idsOf E e.a).getD e.s.toNat 0).toNat) (by omega))
    have cA := ralike_fn (E.getD ((idsOf E e.a).getD e.s.toNat 0).toNat dE) e hEx.fit hrt.fit
    repeat refine Or.inl ?_
    refine ⟨⟨by omega, by omega⟩, by omega, ?_⟩
    refine ⟨⟨by omega, by omega⟩, by omega, ?_⟩
    repeat refine Or.inl ?_
    refine ⟨[], _, cA, ?_⟩
    refine ⟨fun ha => ?_, fun ha => ?_⟩
    · have ha : (!alikeE (E.getD ((idsOf E e.a).getD e.s.toNat 0).toNat dE) e) = true := ha
      rw [Bool.not_eq_true'] at ha
      have hA : addC E e = (E, (0, 5)) := by unfold addC; rw [if_neg hr1, if_pos hs, if_pos ha]
      rw [hA]
      refine ⟨⟨(), [(2, 4)], trivial, ⟨⟨⟨rfl, rfl, AVEq.refl _⟩, trivial⟩, ⟨⟨rfl, rfl, rfl, ⟨rfl, AVsEq.refl _⟩⟩, ⟨rfl, rfl, trivial, trivial⟩, ⟨rfl, rfl, trivial, AOEq.refl _⟩, trivial⟩, rfl⟩, rfl, fun h => (by cases h)⟩⟩
    · have ha : (!alikeE (E.getD ((idsOf E e.a).getD e.s.toNat 0).toNat dE) e) = false := ha
      have hA : addC E e = (E, ((idsOf E e.a).getD e.s.toNat 0, 0)) := by unfold addC; rw [if_neg hr1, if_pos hs, if_neg (fun h => by rw [h] at ha; cases ha)]
      rw [hA]
      repeat refine Or.inl ?_
      refine ⟨⟨by omega, by omega⟩, by omega, ?_⟩
      refine ⟨⟨(), [(2, 4)], trivial, ⟨⟨⟨rfl, rfl, AVEq.refl _⟩, trivial⟩, ⟨⟨rfl, rfl, rfl, ⟨rfl, AVsEq.refl _⟩⟩, ⟨rfl, rfl, trivial, trivial⟩, ⟨rfl, rfl, trivial, AOEq.refl _⟩, trivial⟩, rfl⟩, rfl, fun h => (by cases h)⟩⟩
  have hs : decide (e.s < ((idsOf E e.a).length : Int)) = false := hs
  rw [decide_eq_false_iff_not] at hs
  have hA14 : (decide (e.s > (idsOf E e.a).length) || missE E e) = true → addC E e = (E, (0, 14)) := fun hm => by unfold addC; rw [if_neg hr1, if_neg hs, if_pos hm]
  repeat refine Or.inl ?_
  refine ⟨fun hm => ?_, fun hm => ?_⟩
  · have hm : ((decide (e.s > ((idsOf E e.a).length : Int)) || decide (e.t ≥ (E.length : Int))) || decide (e.q ≥ (E.length : Int))) = true := hm
    have hA := hA14 (by
      rw [miss_any]
      simp only [Bool.or_eq_true] at hm ⊢
      rcases hm with (hm | hm) | hm
      · exact .inl hm
      · exact .inr (.inl hm)
      · exact .inr (.inr (.inl hm)))
    rw [hA]
    refine ⟨⟨(), [(2, 4)], trivial, ⟨⟨⟨rfl, rfl, AVEq.refl _⟩, trivial⟩, ⟨⟨rfl, rfl, rfl, ⟨rfl, AVsEq.refl _⟩⟩, ⟨rfl, rfl, trivial, trivial⟩, ⟨rfl, rfl, trivial, AOEq.refl _⟩, trivial⟩, rfl⟩, rfl, fun h => (by cases h)⟩⟩
  have hm : ((decide (e.s > ((idsOf E e.a).length : Int)) || decide (e.t ≥ (E.length : Int))) || decide (e.q ≥ (E.length : Int))) = false := hm
  simp only [Bool.or_eq_false_iff, decide_eq_false_iff_not] at hm
  repeat refine Or.inl ?_
  refine ⟨[], Nat, fun k => k ≤ e.cs.length ∧ ∀ j, j < k → ¬ e.cs.getD j 0 ≥ (E.length : Int), fun k => [⟨7, [], .i .i64 k⟩], fun _ => [], fun k => e.cs.length - k,
    ⟨0, [], ⟨Nat.zero_le _, fun j hj => by omega⟩, rfl, rfl, rfl, rfl, rfl, ⟨rfl, rfl⟩, trivial⟩, ?_⟩
  rintro k ⟨hk, hno⟩
  have hk : k ≤ e.cs.length := hk
  refine .inl ⟨fun hc => ?_, fun hc => ?_⟩
  · have hc := dlt hc
    have hc : (k : Int) < e.cs.length := hc
    have ek : (k : Int).toNat = k := Int.toNat_natCast k
    repeat refine Or.inl ?_
    refine ⟨⟨by omega, by omega⟩, ?_⟩
    repeat refine Or.inl ?_
    refine ⟨fun hb => ?_, fun hb => ?_⟩
    · have hb : decide (e.cs.getD (k : Int).toNat 0 ≥ (E.length : Int)) = true := hb
      rw [ek] at hb
      have hA := hA14 (by
        rw [miss_any]
        have : (e.cs.any fun x => decide (x ≥ (E.length : Int))) = true := List.any_eq_true.2 ⟨_, getD_memI (by omega), hb⟩
        rw [this, Bool.or_true, Bool.or_true, Bool.or_true])
      rw [hA]
      refine ⟨⟨(), [(2, 4)], trivial, ⟨⟨⟨rfl, rfl, AVEq.refl _⟩, trivial⟩, ⟨⟨rfl, rfl, rfl, ⟨rfl, AVsEq.refl _⟩⟩, ⟨rfl, rfl, trivial, trivial⟩, ⟨rfl, rfl, trivial, AOEq.refl _⟩, trivial⟩, rfl⟩, rfl, fun h => (by cases h)⟩⟩
    · have hb : decide (e.cs.getD (k : Int).toNat 0 ≥ (E.length : Int)) = false := hb
      rw [ek, decide_eq_false_iff_not] at hb
      refine ⟨k + 1, [], ⟨by omega, fun j hj => ?_⟩, by dsimp only; omega, rfl, rfl, rfl, rfl, rfl, ⟨rfl, wr (by omega) (by omega)⟩, trivial⟩
      by_cases hjk : j = k
      · rw [hjk]; exact hb
      · exact hno j (by omega)
  have hc := dnlt hc
  have hc : (e.cs.length : Int) ≤ k := hc
  have hcn : (e.cs.any fun x => decide (x ≥ (E.length : Int))) = false := by
    rw [List.any_eq_false]
    intro x hx
    obtain ⟨j, hj, rfl⟩ := mem_getDI hx
    rw [decide_eq_true_eq]
    exact hno j (by omega)
  have hms : missE E e = false := by
    rw [miss_any, hcn, decide_eq_false hm.1.2, decide_eq_false hm.2]
    rfl
  have hm1 : ¬ (decide (e.s > (idsOf E e.a).length) || missE E e) = true := by
    rw [hms, decide_eq_false hm.1.1]
    decide
  repeat refine Or.inl ?_
  refine ⟨[], _, message_fn E e e.t (by omega), ?_⟩
  repeat refine Or.inl ?_
  refine ⟨[], _, fun _ => message_fn E e e.q (by omega), ?_⟩
  repeat refine Or.inl ?_
  refine ⟨fun hb => ?_, fun hb => ?_⟩
  · have hb : ((!(!badM E e e.t)) || (!(!badM E e e.q))) = true := hb
    rw [Bool.not_not, Bool.not_not] at hb
    have hA : addC E e = (E, (0, 4)) := by unfold addC; rw [if_neg hr1, if_neg hs, if_neg hm1, if_pos hb]
    rw [hA]
    refine ⟨⟨(), [(2, 4)], trivial, ⟨⟨⟨rfl, rfl, AVEq.refl _⟩, trivial⟩, ⟨⟨rfl, rfl, rfl, ⟨rfl, AVsEq.refl _⟩⟩, ⟨rfl, rfl, trivial, trivial⟩, ⟨rfl, rfl, trivial, AOEq.refl _⟩, trivial⟩, rfl⟩, rfl, fun h => (by cases h)⟩⟩
  have hb : ((!(!badM E e e.t)) || (!(!badM E e e.q))) = false := hb
  rw [Bool.not_not, Bool.not_not] at hb
  have hb1 : ¬ (badM E e e.t || badM E e e.q) = true := by rw [hb]; decide
  repeat refine Or.inl ?_
  refine ⟨[], _, deleted_fn E hEl e.t, ?_⟩
  repeat refine Or.inl ?_
  refine ⟨[], _, fun _ => deleted_fn E hEl e.q, ?_⟩
  repeat refine Or.inl ?_
  refine ⟨fun hd => ?_, fun hd => ?_⟩
  · have hd : (delT E e.t || delT E e.q) = true := hd
    rw [delT_eq hE, delT_eq hE] at hd
    have hA : addC E e = (E, (0, 7)) := by unfold addC; rw [if_neg hr1, if_neg hs, if_neg hm1, if_neg hb1, if_pos hd]
    rw [hA]
    refine ⟨⟨(), [(2, 4)], trivial, ⟨⟨⟨rfl, rfl, AVEq.refl _⟩, trivial⟩, ⟨⟨rfl, rfl, rfl, ⟨rfl, AVsEq.refl _⟩⟩, ⟨rfl, rfl, trivial, trivial⟩, ⟨rfl, rfl, trivial, AOEq.refl _⟩, trivial⟩, rfl⟩, rfl, fun h => (by cases h)⟩⟩
  have hd : (delT E e.t || delT E e.q) = false := hd
  rw [delT_eq hE, delT_eq hE] at hd
  have hd1 : ¬ (delB E e.t || delB E e.q) = true := by rw [hd]; decide
  repeat refine Or.inl ?_
  refine ⟨fun hf => ?_, fun hf => ?_⟩
  · have hf : decide ((E.length : Int) ≥ 100000) = true := hf
    rw [decide_eq_true_eq] at hf
    have hA : addC E e = (E, (0, 6)) := by unfold addC; rw [if_neg hr1, if_neg hs, if_neg hm1, if_neg hb1, if_neg hd1, if_pos (by omega)]
    rw [hA]
    refine ⟨⟨(), [(2, 4)], trivial, ⟨⟨⟨rfl, rfl, AVEq.refl _⟩, trivial⟩, ⟨⟨rfl, rfl, rfl, ⟨rfl, AVsEq.refl _⟩⟩, ⟨rfl, rfl, trivial, trivial⟩, ⟨rfl, rfl, trivial, AOEq.refl _⟩, trivial⟩, rfl⟩, rfl, fun h => (by cases h)⟩⟩
  have hf : decide ((E.length : Int) ≥ 100000) = false := hf
  rw [decide_eq_false_iff_not] at hf
  have hA : addC E e = (E ++ [e], ((E.length : Int), 0)) := by unfold addC; rw [if_neg hr1, if_neg hs, if_neg hm1, if_neg hb1, if_neg hd1, if_neg (by omega)]
  rw [hA]
  refine Or.inr ?_
  refine ⟨_, copied_fn e (by omega) (by omega), ?_⟩
  refine ⟨fits (by omega), ?_⟩
  repeat refine Or.inl ?_
  have hw : IntKind.i64.wrap (((E.length + 1 : Nat) : Int) - 1) = (E.length : Int) := by rw [wr (by omega) (by omega)]; omega
  have av : AVEq (.tup [.i .i64 (E.length : Int), .i .i64 0]) (.tup [.i .i64 (IntKind.i64.wrap (((E.length + 1 : Nat) : Int) - 1)), .i .i64 0]) := by
    rw [hw]
    exact AVEq.refl _
  refine ⟨⟨(), [(2, 6)], trivial, ⟨⟨⟨rfl, rfl, av⟩, trivial⟩, ⟨⟨rfl, rfl, rfl, ⟨rfl, AVsEq.refl _⟩⟩, ⟨rfl, rfl, trivial, trivial⟩, ⟨rfl, rfl, trivial, snocE_row E e⟩, trivial⟩, rfl⟩, rfl, fun h => (by cases h)⟩⟩
end Go.Proofs.Ytnookbebiacaeaa
end

section
/-
  Conversations: the reference opens, erases, and tells what is before an event.
-/
namespace Go.Proofs.Ytnookbebiacaeaa
open Go.Eng

def ropenO (l : List Ev) : List AO := if openS l = 0 then [.cells 119 [.so 1], rowO l] else []
theorem ropen_no {l : List Ev} {st : Int} (h : openS l = st) (h0 : st ≠ 0) : ropenO l = [] := by
  unfold ropenO
  rw [if_neg (by rw [h]; exact h0)]
theorem ropen_yes {l : List Ev} (h : openS l = 0) : ropenO l = [.cells 119 [.so 1], rowO l] := by
  unfold ropenO
  rw [if_pos h]
set_option maxRecDepth 20000 in
set_option maxHeartbeats 16000000 in
theorem ropen_fn (l : List Ev) (_hl : l.length < 2^62) (hk : okL l) : CtrM Try.prog 88 true [] [.rs 12 l.length (rE l)] (fun _ : Unit => True) (fun _ => []) (fun _ => ropenO l) (fun _ => openR l) := by
  refine fn_of_execM tabOk Try.func88 (by kernel_rfl) rfl (N := Try.f88.ntmps) rfl (res := [.tmp 2, .tmp 3]) rfl true false [] _ _ _ _ rfl (fun h => by cases h) [] ?_
  have aoR0 : AOEq (rowO (l.take 0)) (rowO []) := AOEq.refl _
  refine Or.inr (Or.inr ?_)
  refine ⟨true, [], rfl, Unit, _, _, _, _, rnew_fn, fun _ _ => ?_⟩
  repeat refine Or.inl ?_
  refine ⟨[], Nat, fun j => j ≤ l.length ∧ Cok (l.take j) ∧ openSt (l.take j) (l.drop j) = openS l, fun j => [⟨5, [], .i .i64 j⟩], fun j => [⟨0, [], .cells 119 [.so 1]⟩, ⟨1, [], rowO (l.take j)⟩], fun j => l.length - j,
    ⟨0, [], ⟨Nat.zero_le _, cok_nil, rfl⟩, rfl, rfl, rfl, rfl, rfl, ⟨rfl, rfl⟩, ⟨AOEq.refl _, aoR0⟩⟩, ?_⟩
  rintro j ⟨hj, hF, hop⟩
  have hj : j ≤ l.length := hj
  refine .inl ⟨fun hc => ?_, fun hc => ?_⟩
  · have hc := dlt hc
    have hc : (j : Int) < l.length := hc
    have ej : (j : Int).toNat = j := Int.toNat_natCast j
    have hm := hk _ (getD_memE (l := l) (k := (j : Int).toNat) (by omega))
    have hstep := open_step l j (by omega) hop
    have htl : (l.take j).length = j := by rw [List.length_take]; omega
    have hFl := hF.ok.1
    have hg : l.getD (j : Int).toNat dE = l.getD j dE := by rw [ej]
    rw [← hg] at hstep
    repeat refine Or.inl ?_
    refine ⟨⟨by omega, by omega⟩, ?_⟩
    refine Or.inr (Or.inr ?_)
    refine ⟨true, [0, 1], rfl, Unit, _, _, _, _, radd_fn (l.take j) hF.ok (l.getD (j : Int).toNat dE) hm.1 hm.2, fun _ _ => ?_⟩
    repeat refine Or.inl ?_
    refine ⟨fun h1 => ?_, fun h1 => ?_⟩
    · have h1 : ((addC (l.take j) (l.getD (j : Int).toNat dE)).2.2 != 0) = true := h1
      have h1 := bne_of h1
      rw [if_pos h1] at hstep
      rw [ropen_no hstep.symm h1, (open_no hstep.symm h1).2]
      exact ⟨⟨(), [], trivial, ⟨⟨⟨rfl, rfl, AVEq.refl _⟩, trivial⟩, trivial, rfl⟩, rfl, fun h => (by cases h)⟩⟩
    have h1 : ((addC (l.take j) (l.getD (j : Int).toNat dE)).2.2 != 0) = false := h1
    have h1 := beq_of h1
    rw [if_neg (fun h => h h1)] at hstep
    repeat refine Or.inl ?_
    refine ⟨fun h2 => ?_, fun h2 => ?_⟩
    · have h2 : ((addC (l.take j) (l.getD (j : Int).toNat dE)).2.1 != (j : Int)) = true := h2
      have h2 := bne_of h2
      rw [if_pos h2] at hstep
      rw [ropen_no hstep.symm (by decide), (open_no hstep.symm (by decide)).2]
      exact ⟨⟨(), [], trivial, ⟨⟨⟨rfl, rfl, AVEq.refl _⟩, trivial⟩, trivial, rfl⟩, rfl, fun h => (by cases h)⟩⟩
    have h2 : ((addC (l.take j) (l.getD (j : Int).toNat dE)).2.1 != (j : Int)) = false := h2
    have h2 := beq_of h2
    rw [if_neg (fun h => h h2)] at hstep
    have hsn : l.take (j + 1) = (addC (l.take j) (l.getD (j : Int).toNat dE)).1 := by
      rw [addC_new h1 (by rw [h2, htl]), take_snocE (by omega), ej]
    have aoR : AOEq (rowO (l.take (j + 1))) (rowO (addC (l.take j) (l.getD (j : Int).toNat dE)).1) := by rw [hsn]; exact AOEq.refl _
    have hF1 : Cok (l.take (j + 1)) := by rw [hsn]; exact addC_cok hF _
    refine ⟨j + 1, [(1, 2)], ⟨by omega, hF1, by first | exact hstep | exact hstep.symm⟩, by dsimp only; omega, rfl, rfl, rfl, rfl, rfl, ⟨rfl, wr (by omega) (by omega)⟩, ⟨AOEq.refl _, aoR⟩⟩
  · have hc := dnlt hc
    have hje : j = l.length := by
      have hc : (l.length : Int) ≤ j := hc
      omega
    subst hje
    rw [List.take_length, List.drop_length] at hop
    have ho := hop.symm
    rw [ropen_yes ho, (open_yes ho).2]
    have aoR : AOEq (rowO l) (rowO (l.take l.length)) := by rw [List.take_length]; exact AOEq.refl _
    refine ⟨⟨(), [], trivial, ⟨⟨⟨rfl, rfl, AVEq.refl _⟩, trivial⟩, ⟨⟨rfl, rfl, rfl, ⟨rfl, AVsEq.refl _⟩⟩, ⟨rfl, rfl, trivial, aoR⟩, trivial⟩, rfl⟩, rfl, fun h => (by cases h)⟩⟩
set_option maxRecDepth 20000 in
set_option maxHeartbeats 16000000 in
theorem rerase_fn (E : List Ev) (hE : okE E) (i : Int) : CtrM Try.prog 91 true [.cells 119 [.so 1], rowO E] [.p 0 0, .i .i64 i] (fun _ : Unit => True) (fun _ => [.cells 119 [.so 1], rowO (eraseC E i).1]) (fun _ => []) (fun _ => .i .i64 (eraseC E i).2) := by
  refine fn_of_execM tabOk Try.func91 (by kernel_rfl) rfl (N := Try.f91.ntmps) rfl (res := [.tmp 4]) rfl true false [.cells 119 [.so 1], rowO E] _ _ _ _ rfl (fun h => by cases h) [] ?_
  have hEl := hE.1
  repeat refine Or.inl ?_
  have hz : zP E i = false → 0 ≤ i ∧ i < E.length := fun h => by
    unfold zP at h
    rw [Bool.or_eq_false_iff, decide_eq_false_iff_not, decide_eq_false_iff_not] at h
    omega
  refine ⟨fun hg => hz hg.1, fun hg => ?_, ?_⟩
  · have hg : zP E i = false := hg.1
    have := hz hg
    omega
  refine ⟨fun h => ?_, fun h => ?_⟩
  · have h : (zP E i || ((E.getD i.toNat dE).k != 0)) = true := h
    have hA : eraseC E i = (E, 4) := by unfold eraseC; rw [if_pos h]
    rw [hA]
    refine ⟨⟨(), [], trivial, ⟨⟨⟨rfl, rfl, AVEq.refl _⟩, trivial⟩, ⟨⟨rfl, rfl, rfl, ⟨rfl, AVsEq.refl _⟩⟩, ⟨rfl, rfl, trivial, AOEq.refl _⟩, trivial⟩, rfl⟩, rfl, fun h => (by cases h)⟩⟩
  have h : (zP E i || ((E.getD i.toNat dE).k != 0)) = false := h
  have hA : eraseC E i = (eraseTo E i E.length, 0) := by unfold eraseC; rw [if_neg (by rw [h]; decide)]
  rw [hA]
  have aoE0 : AOEq (rowO (eraseTo E i 0)) (rowO E) := by rw [eraseTo_zero]; exact AOEq.refl _
  repeat refine Or.inl ?_
  refine ⟨[], Nat, fun j => j ≤ E.length, fun j => [⟨5, [], .i .i64 j⟩], fun j => [⟨1, [], rowO (eraseTo E i j)⟩], fun j => E.length - j,
    ⟨0, [], Nat.zero_le _, rfl, rfl, rfl, rfl, rfl, ⟨rfl, rfl⟩, aoE0⟩, ?_⟩
  intro j hj
  have hj : j ≤ E.length := hj
  have hlen := eraseTo_len E i j
  refine .inl ⟨fun hc => ?_, fun hc => ?_⟩
  · have hc := dlt hc
    have hc : (j : Int) < (eraseTo E i j).length := hc
    have ej : (j : Int).toNat = j := Int.toNat_natCast j
    have hget : (eraseTo E i j).getD j dE = E.getD j dE := by
      rw [eraseTo_getD E i j j (by omega), if_neg (by simp)]
    have hm := (eraseTo_ok hE i j).2 _ (getD_memE (l := eraseTo E i j) (k := (j : Int).toNat) (by omega))
    have hcs := hm.cs.1
    have hfs := hm.fs
    repeat refine Or.inl ?_
    refine ⟨fun _ => ⟨by omega, by omega⟩, fun _ => by omega, ?_⟩
    refine ⟨fun _ => ⟨by omega, by omega⟩, fun _ => by omega, ?_⟩
    repeat refine Or.inl ?_
    refine ⟨fun hb => ?_, fun hb => ?_⟩
    · have hb : goesB i j ((eraseTo E i j).getD (j : Int).toNat dE) = true := hb
      refine ⟨⟨by omega, by omega⟩, by omega, ?_⟩
      refine Or.inr ?_
      refine ⟨_, rbare_fn ((eraseTo E i j).getD (j : Int).toNat dE) (by omega) (by omega), ?_⟩
      refine ⟨⟨by omega, by omega⟩, by omega, ?_⟩
      rw [ej, hget] at hb
      refine ⟨j + 1, [], (by show j + 1 ≤ E.length; omega), by dsimp only; omega, rfl, rfl, rfl, rfl, rfl, ⟨rfl, wr (by omega) (by omega)⟩, ?_⟩
      refine ⟨rfl, rfl, by rw [eraseTo_len, eraseTo_len], fun k hk => ?_⟩
      rw [eraseTo_len] at hk
      rw [erase_yes (by omega) hb k hk, ej, hget]
      by_cases hkj : k = j
      · rw [if_pos hkj]
        show (if k = j then over 0 (bareE (E.getD j dE)).av (rE (eraseTo E i j) k) else rE (eraseTo E i j) k) = _
        rw [if_pos hkj]
        rfl
      · rw [if_neg hkj]
        show (if k = j then over 0 (bareE (E.getD j dE)).av (rE (eraseTo E i j) k) else rE (eraseTo E i j) k) = _
        rw [if_neg hkj]
    · have hb : goesB i j ((eraseTo E i j).getD (j : Int).toNat dE) = false := hb
      rw [ej, hget] at hb
      have aoE : AOEq (rowO (eraseTo E i (j + 1))) (rowO (eraseTo E i j)) := by rw [erase_no (by omega) hb]; exact AOEq.refl _
      refine ⟨j + 1, [], (by show j + 1 ≤ E.length; omega), by dsimp only; omega, rfl, rfl, rfl, rfl, rfl, ⟨rfl, wr (by omega) (by omega)⟩, aoE⟩
  · have hc := dnlt hc
    have hc : ((eraseTo E i j).length : Int) ≤ j := hc
    have hje : j = E.length := by omega
    rw [← hje]
    refine ⟨⟨(), [], trivial, ⟨⟨⟨rfl, rfl, AVEq.refl _⟩, trivial⟩, ⟨⟨rfl, rfl, rfl, ⟨rfl, AVsEq.refl _⟩⟩, ⟨rfl, rfl, trivial, AOEq.refl _⟩, trivial⟩, rfl⟩, rfl, fun h => (by cases h)⟩⟩
end Go.Proofs.Ytnookbebiacaeaa
end

section
/-
  Conversations: the reference tells what is before an event.
-/
namespace Go.Proofs.Ytnookbebiacaeaa
open Go.Eng

open Classical in
noncomputable def isB (E : List Ev) (id i : Int) (k : Nat) : Bool := decide (isP E id i k)
noncomputable def isK (E : List Ev) (id i : Int) (L : List Int) (k : Nat) : Bool := @decide (isP E id i k ∨ (k : Int) ∈ L) (Classical.propDecidable _)
theorem isB_iff {E : List Ev} {id i : Int} {k : Nat} : isB E id i k = true ↔ isP E id i k := by
  unfold isB
  rw [@decide_eq_true_eq _ (Classical.propDecidable _)]
theorem isK_iff {E : List Ev} {id i : Int} {L : List Int} {k : Nat} : isK E id i L k = true ↔ isP E id i k ∨ (k : Int) ∈ L := by
  unfold isK
  rw [@decide_eq_true_eq _ (Classical.propDecidable _)]
theorem bool_ext {a b : Bool} (h : a = true ↔ b = true) : a = b := by
  rw [Bool.eq_iff_iff]
  exact h
theorem isB_skip {E : List Ev} (hw : Wf E) {id i : Int} (h0 : 0 ≤ id) (h1 : id < E.length) (hi : 0 ≤ i) (h : isB E id i i.toNat = false) (k : Nat) : isB E id (i - 1) k = isB E id i k := by
  refine bool_ext ?_
  rw [isB_iff, isB_iff, isP_step]
  have hn : ¬ (i = id ∨ Rch E id i) := fun h2 => by
    have h3 := (isP_at hw h0 h1).2 h2
    have : isB E id i i.toNat = true := isB_iff.2 (by rw [Int.toNat_of_nonneg hi]; exact h3)
    rw [h] at this
    cases this
  exact ⟨fun h => h.resolve_right fun h2 => hn h2.1, .inl⟩
theorem isB_take {E : List Ev} (hw : Wf E) {id i : Int} (h0 : 0 ≤ id) (h1 : id < E.length) (hi : 0 ≤ i) (h : isB E id i i.toNat = true) (k : Nat) : isB E id (i - 1) k = isK E id i (rawN E (E.getD i.toNat dE)) k := by
  refine bool_ext ?_
  rw [isB_iff, isK_iff, isP_step]
  have hn : i = id ∨ Rch E id i := by
    have h3 := isB_iff.1 h
    rw [Int.toNat_of_nonneg hi] at h3
    exact (isP_at hw h0 h1).1 h3
  have hm : (k : Int) ∈ nmE E i ↔ (k : Int) ∈ rawN E (E.getD i.toNat dE) := by
    unfold nmE namesE keepF
    rw [List.mem_filter]
    refine ⟨fun h => h.1, fun h => ⟨h, ?_⟩⟩
    show (!decide ((k : Int) < 0)) = true
    rw [decide_eq_false (by omega)]
    rfl
  rw [hm]
  exact ⟨fun h => h.elim .inl fun h2 => .inr h2.2, fun h => h.elim .inl fun h2 => .inr ⟨hn, h2⟩⟩
theorem raw_in {E : List Ev} (hw : Wf E) {i : Nat} (hi : i < E.length) {x : Int} (hx : x ∈ rawN E (E.getD i dE)) (h0 : 0 ≤ x) : x < E.length := by
  have : x ∈ namesE E (E.getD i dE) := by
    unfold namesE keepF
    rw [List.mem_filter]
    refine ⟨hx, ?_⟩
    show (!decide (x < 0)) = true
    rw [decide_eq_false (by omega)]
    rfl
  have := names_lt (hw i hi) (by omega) this
  omega
noncomputable def pT (E : List Ev) (id : Int) (j : Nat) : List Int := ((List.range j).map Int.ofNat).filter fun y => @decide (Rch E id y) (Classical.propDecidable _)
theorem pT_snoc (E : List Ev) (id : Int) (j : Nat) : pT E id (j + 1) = pT E id j ++ (if @decide (Rch E id j) (Classical.propDecidable _) = true then [(j : Int)] else []) := by
  unfold pT
  rw [List.range_succ, List.map_append, List.filter_append, List.map_singleton, List.filter_cons, List.filter_nil]
  rfl
theorem pT_len (E : List Ev) (id : Int) (j : Nat) : (pT E id j).length ≤ j := by
  refine Nat.le_trans (List.length_filter_le _ _) ?_
  rw [List.length_map, List.length_range]
  exact Nat.le_refl _
theorem pT_end {E : List Ev} (hw : Wf E) {id : Int} (h0 : 0 ≤ id) (_h1 : id < E.length) : pT E id id.toNat = pastL E id := by
  have asc : ∀ j, (pT E id j).Pairwise (· < ·) := fun j => by
    unfold pT
    refine List.Pairwise.filter _ ?_
    rw [List.pairwise_map]
    exact List.pairwise_lt_range.imp fun h => by show ((_ : Nat) : Int) < ((_ : Nat) : Int); omega
  refine asc_uni (asc _) (past_asc E id) fun x => ?_
  rw [past_in hw]
  unfold pT
  rw [List.mem_filter, @decide_eq_true_eq _ (Classical.propDecidable _), List.mem_map]
  refine ⟨fun h => h.2, fun h => ⟨?_, h⟩⟩
  have := h.lt hw
  exact ⟨x.toNat, List.mem_range.2 (by omega), by show ((x.toNat : Nat) : Int) = x; omega⟩
def rB (b : Nat → Bool) (k : Nat) : List AV := [.b (b k)]
set_option maxRecDepth 20000 in
set_option maxHeartbeats 32000000 in
theorem rpast_fn (E : List Ev) (hC : Cok E) (id : Int) : Ctr Try.prog 92 [.rp (rvA E), .i .i64 id] [.row 3 1 (pastL E id).length (rI (pastL E id))] (.so 0) := by
  have hEl := hC.ok.1
  have hw := hC.wf
  by_cases hz : zP E id = true
  · refine fn_of_exec tabOk Try.func92 (by kernel_rfl) rfl (N := Try.f92.ntmps) rfl (res := [.tmp 4]) rfl rfl [(1000002, [.nl 4 3 1])] ?_
    rw [past_out hz]
    repeat refine Or.inl ?_
    refine ⟨fun _ => ?_, fun h => ?_⟩
    · exact RetIs.so rfl rfl (fun k hk => absurd hk (Nat.not_lt_zero k)) (fun _ _ => rfl)
    · have h : zP E id = false := h
      rw [h] at hz
      cases hz
  have hz : zP E id = false := by
    cases h : zP E id
    · rfl
    · exact absurd h hz
  have hz' := hz
  unfold zP at hz'
  rw [Bool.or_eq_false_iff, decide_eq_false_iff_not, decide_eq_false_iff_not] at hz'
  obtain ⟨h0, h1⟩ : 0 ≤ id ∧ id < E.length := by omega
  refine fn_of_exec tabOk Try.func92 (by kernel_rfl) rfl (N := Try.f92.ntmps) rfl (res := [.tmp 4]) rfl rfl [(1000010, [.sl 56 .u]), (1000018, [.nl 10 3 1])] ?_
  repeat refine Or.inl ?_
  refine ⟨fun h => ?_, fun _ => ?_⟩
  · have h : zP E id = true := h
    rw [h] at hz
    cases hz
  refine ⟨⟨rfl, by omega, by show 1 * (E.length : Int).toNat ≤ _; omega⟩, ?_⟩
  repeat refine Or.inl ?_
  refine ⟨⟨by omega, by omega⟩, by omega, ?_⟩
  have e1 : (((id.toNat + 1 : Nat) : Int) - 1) = id := by omega
  have aoI : AOEq (.row 4 1 E.length (rB (isB E id (((id.toNat + 1 : Nat) : Int) - 1)))) (.row 4 1 (E.length : Int).toNat fun k => if k = id.toNat then over 0 [.b true] [.b false] else [.b false]) := by
    rw [e1]
    refine ⟨rfl, rfl, by omega, fun k hk => ?_⟩
    show (if k = id.toNat then over 0 [.b true] [.b false] else [.b false]) = [AV.b (isB E id id k)]
    by_cases hk2 : k = id.toNat
    · rw [if_pos hk2, show isB E id id k = true from isB_iff.2 ((isP_start hw).2 (by omega))]
      rfl
    · rw [if_neg hk2]
      cases hb : isB E id id k with
      | false => rfl
      | true =>
        have := (isP_start hw).1 (isB_iff.1 hb)
        omega
  repeat refine Or.inl ?_
  refine ⟨[], Nat, fun d => d ≤ id.toNat + 1, fun d => [⟨6, [], .i .i64 ((d : Int) - 1)⟩], fun d => [⟨0, [], .row 4 1 E.length (rB (isB E id ((d : Int) - 1)))⟩], fun d => d,
    ⟨id.toNat + 1, [], Nat.le_refl _, rfl, rfl, rfl, rfl, rfl, ⟨rfl, by omega⟩, aoI⟩, ?_⟩
  intro d hd
  have hd : d ≤ id.toNat + 1 := hd
  refine .inl ⟨fun hc => ?_, fun hc => ?_⟩
  · have hc : decide ((d : Int) - 1 ≥ 0) = true := hc
    rw [decide_eq_true_eq] at hc
    have e2 : ((d - 1 : Nat) : Int) = (d : Int) - 1 := by omega
    have hwi : IntKind.i64.wrap ((d : Int) - 1 - 1) = ((d - 1 : Nat) : Int) - 1 := by rw [wr (by omega) (by omega)]; omega
    have hlt : ((d : Int) - 1).toNat < E.length := by omega
    repeat refine Or.inl ?_
    refine ⟨⟨by omega, by omega⟩, by omega, ?_⟩
    refine ⟨fun hb => ?_, fun hb => ?_⟩
    · have hb : (!isB E id ((d : Int) - 1) ((d : Int) - 1).toNat) = true := hb
      rw [Bool.not_eq_true'] at hb
      have ao : AOEq (.row 4 1 E.length (rB (isB E id (((d - 1 : Nat) : Int) - 1)))) (.row 4 1 E.length (rB (isB E id ((d : Int) - 1)))) := by
        refine ⟨rfl, rfl, rfl, fun k _ => ?_⟩
        show [AV.b _] = [AV.b _]
        rw [e2, isB_skip hw h0 h1 (by omega) hb]
      refine ⟨d - 1, [], (by show d - 1 ≤ id.toNat + 1; omega), by dsimp only; omega, rfl, rfl, rfl, rfl, rfl, ⟨rfl, hwi⟩, ao⟩
    have hb : (!isB E id ((d : Int) - 1) ((d : Int) - 1).toNat) = false := hb
    rw [Bool.not_eq_false'] at hb
    have hWE := hw _ hlt
    have hm := hC.ok.2 _ (getD_memE (l := E) (k := ((d : Int) - 1).toNat) hlt)
    have hcs := hm.cs.1
    have hos := fun hs : (E.getD ((d : Int) - 1).toNat dE).s > 0 => hWE.own (Nat.le_of_lt hlt) hs
    have hsr := hm.s
    have hrl : (rawN E (E.getD ((d : Int) - 1).toNat dE)).length ≤ 11 := by unfold rawN; split <;> simp only [List.length_append, List.length_cons, List.length_nil] <;> omega
    repeat refine Or.inl ?_
    refine ⟨⟨by omega, by omega⟩, ?_⟩
    repeat refine Or.inl ?_
    refine ⟨fits (by omega), ?_⟩
    refine ⟨trivial, ?_⟩
    refine Or.inr ⟨[], Unit, fun _ => True, fun _ => [⟨8, [], .so 3⟩], fun _ => [⟨3, [], .row 3 1 (rawN E (E.getD ((d : Int) - 1).toNat dE)).length (rI (rawN E (E.getD ((d : Int) - 1).toNat dE)))⟩], ?_, fun _ _ => ?_⟩
    · repeat refine Or.inl ?_
      refine ⟨fun h => ?_, fun h => ?_⟩
      · have h : decide ((E.getD ((d : Int) - 1).toNat dE).s > 0) = true := h
        rw [decide_eq_true_eq] at h
        have ho := hos h
        have e3 : IntKind.i64.wrap ((E.getD ((d : Int) - 1).toNat dE).s - 1) = (E.getD ((d : Int) - 1).toNat dE).s - 1 := wr (by omega) (by omega)
        repeat refine Or.inl ?_
        refine ⟨_, _, of149_fn E hEl (E.getD ((d : Int) - 1).toNat dE).a, ?_⟩
        refine ⟨⟨by omega, by omega⟩, by omega, ?_⟩
        refine ⟨fits (by omega), ?_⟩
        have hraw : rawN E (E.getD ((d : Int) - 1).toNat dE) = ((E.getD ((d : Int) - 1).toNat dE).t :: (E.getD ((d : Int) - 1).toNat dE).q :: (E.getD ((d : Int) - 1).toNat dE).cs) ++ [(idsOf E (E.getD ((d : Int) - 1).toNat dE).a).getD (IntKind.i64.wrap ((E.getD ((d : Int) - 1).toNat dE).s - 1)).toNat 0] := by unfold rawN; rw [if_pos h, e3]
        have ao : AOEq (.row 3 1 (rawN E (E.getD ((d : Int) - 1).toNat dE)).length (rI (rawN E (E.getD ((d : Int) - 1).toNat dE)))) (.row 3 1 (2 + (E.getD ((d : Int) - 1).toNat dE).cs.length + 1) (catG (2 + (E.getD ((d : Int) - 1).toNat dE).cs.length) (catG 2 (rowOf 1 [.i .i64 (E.getD ((d : Int) - 1).toNat dE).t, .i .i64 (E.getD ((d : Int) - 1).toNat dE).q]) (rI (E.getD ((d : Int) - 1).toNat dE).cs)) (rowOf 1 [.i .i64 ((idsOf E (E.getD ((d : Int) - 1).toNat dE).a).getD (IntKind.i64.wrap ((E.getD ((d : Int) - 1).toNat dE).s - 1)).toNat 0)]))) := by
          refine ⟨rfl, rfl, by rw [hraw]; simp only [List.length_append, List.length_cons, List.length_nil]; omega, fun k hk => ?_⟩
          rw [hraw] at hk ⊢
          have hl2 : ((E.getD ((d : Int) - 1).toNat dE).t :: (E.getD ((d : Int) - 1).toNat dE).q :: (E.getD ((d : Int) - 1).toNat dE).cs).length = 2 + (E.getD ((d : Int) - 1).toNat dE).cs.length := by simp only [List.length_cons]; omega
          rw [List.length_append, List.length_singleton, hl2] at hk
          unfold catG
          by_cases hk2 : k < 2 + (E.getD ((d : Int) - 1).toNat dE).cs.length
          · rw [if_pos hk2]
            refine (two_rows _ _ _ k (by omega)).trans ?_
            unfold rI
            rw [getD_snoc, if_pos (by omega)]
          · rw [if_neg hk2]
            have : k = 2 + (E.getD ((d : Int) - 1).toNat dE).cs.length := by omega
            subst this
            unfold rI
            rw [getD_snoc, if_neg (by omega), if_pos (by omega)]
            simp [rowOf]
        refine ⟨(), [(3, 6)], trivial, rfl, rfl, rfl, rfl, rfl, rfl, ?_⟩
        exact ao
      · have h : decide ((E.getD ((d : Int) - 1).toNat dE).s > 0) = false := h
        rw [decide_eq_false_iff_not] at h
        have hraw : rawN E (E.getD ((d : Int) - 1).toNat dE) = (E.getD ((d : Int) - 1).toNat dE).t :: (E.getD ((d : Int) - 1).toNat dE).q :: (E.getD ((d : Int) - 1).toNat dE).cs := by unfold rawN; rw [if_neg h, List.append_nil]
        refine ⟨(), [], trivial, rfl, rfl, rfl, rfl, rfl, rfl, ⟨rfl, rfl, ?_, fun k hk => ?_⟩⟩
        · rw [hraw]; show 2 + _ = _; simp only [List.length_cons]; omega
        · rw [hraw] at hk ⊢
          exact two_rows _ _ _ k hk
    have ao0 : AOEq (.row 4 1 E.length (rB (isK E id ((d : Int) - 1) ((rawN E (E.getD ((d : Int) - 1).toNat dE)).take 0)))) (.row 4 1 E.length (rB (isB E id ((d : Int) - 1)))) := by
      refine ⟨rfl, rfl, rfl, fun k _ => ?_⟩
      show [AV.b _] = [AV.b _]
      rw [show isB E id ((d : Int) - 1) k = isK E id ((d : Int) - 1) ((rawN E (E.getD ((d : Int) - 1).toNat dE)).take 0) k from bool_ext (by rw [isB_iff, isK_iff, List.take_zero]; simp)]
    repeat refine Or.inl ?_
    refine ⟨[], Nat, fun k => k ≤ (rawN E (E.getD ((d : Int) - 1).toNat dE)).length, fun k => [⟨9, [], .i .i64 k⟩], fun k => [⟨0, [], .row 4 1 E.length (rB (isK E id ((d : Int) - 1) ((rawN E (E.getD ((d : Int) - 1).toNat dE)).take k)))⟩], fun k => (rawN E (E.getD ((d : Int) - 1).toNat dE)).length - k,
      ⟨0, [], Nat.zero_le _, rfl, rfl, rfl, rfl, rfl, ⟨rfl, rfl⟩, ao0⟩, ?_⟩
    intro k hk
    have hk : k ≤ (rawN E (E.getD ((d : Int) - 1).toNat dE)).length := hk
    refine .inl ⟨fun hc2 => ?_, fun hc2 => ?_⟩
    · have hc2 := dlt hc2
      have hc2 : (k : Int) < (rawN E (E.getD ((d : Int) - 1).toNat dE)).length := hc2
      have ek : (k : Int).toNat = k := Int.toNat_natCast k
      have hx1 : (rawN E (E.getD ((d : Int) - 1).toNat dE)).getD (k : Int).toNat 0 ∈ rawN E (E.getD ((d : Int) - 1).toNat dE) := getD_memI (by omega)
      have hts : (rawN E (E.getD ((d : Int) - 1).toNat dE)).take (k + 1) = (rawN E (E.getD ((d : Int) - 1).toNat dE)).take k ++ [(rawN E (E.getD ((d : Int) - 1).toNat dE)).getD (k : Int).toNat 0] := by
        rw [ek]
        exact take_snocI (by omega)
      repeat refine Or.inl ?_
      refine ⟨⟨by omega, by omega⟩, by omega, ?_⟩
      refine ⟨fun h => ?_, fun h => ?_⟩
      · have h : decide ((rawN E (E.getD ((d : Int) - 1).toNat dE)).getD (k : Int).toNat 0 ≥ 0) = true := h
        rw [decide_eq_true_eq] at h
        have hxr := raw_in hw hlt hx1 h
        repeat refine Or.inl ?_
        refine ⟨⟨by omega, by omega⟩, by omega, ?_⟩
        refine ⟨⟨by omega, by omega⟩, by omega, ?_⟩
        have ao1 : AOEq (.row 4 1 E.length (rB (isK E id ((d : Int) - 1) ((rawN E (E.getD ((d : Int) - 1).toNat dE)).take (k + 1))))) (.row 4 1 E.length fun q => if q = ((rawN E (E.getD ((d : Int) - 1).toNat dE)).getD (k : Int).toNat 0).toNat then over 0 [.b true] (rB (isK E id ((d : Int) - 1) ((rawN E (E.getD ((d : Int) - 1).toNat dE)).take k)) q) else rB (isK E id ((d : Int) - 1) ((rawN E (E.getD ((d : Int) - 1).toNat dE)).take k)) q) := by
          refine ⟨rfl, rfl, rfl, fun q _ => ?_⟩
          show (if q = ((rawN E (E.getD ((d : Int) - 1).toNat dE)).getD (k : Int).toNat 0).toNat then over 0 [.b true] (rB (isK E id ((d : Int) - 1) ((rawN E (E.getD ((d : Int) - 1).toNat dE)).take k)) q) else rB (isK E id ((d : Int) - 1) ((rawN E (E.getD ((d : Int) - 1).toNat dE)).take k)) q) = [AV.b (isK E id ((d : Int) - 1) ((rawN E (E.getD ((d : Int) - 1).toNat dE)).take (k + 1)) q)]
          by_cases hq : q = ((rawN E (E.getD ((d : Int) - 1).toNat dE)).getD (k : Int).toNat 0).toNat
          · rw [if_pos hq, show isK E id ((d : Int) - 1) ((rawN E (E.getD ((d : Int) - 1).toNat dE)).take (k + 1)) q = true from isK_iff.2 (.inr (by rw [hts, List.mem_append, List.mem_singleton]; exact .inr (by omega)))]
            rfl
          · rw [if_neg hq]
            show [AV.b _] = [AV.b _]
            rw [show isK E id ((d : Int) - 1) ((rawN E (E.getD ((d : Int) - 1).toNat dE)).take k) q = isK E id ((d : Int) - 1) ((rawN E (E.getD ((d : Int) - 1).toNat dE)).take (k + 1)) q from bool_ext (by
              rw [isK_iff, isK_iff, hts, List.mem_append, List.mem_singleton]
              refine ⟨fun h => h.elim .inl fun h => .inr (.inl h), fun h => h.elim .inl fun h => .inr (h.resolve_right fun h2 => hq (by omega))⟩)]
        refine ⟨k + 1, [], (by show k + 1 ≤ _; omega), by dsimp only; omega, rfl, rfl, rfl, rfl, rfl, ⟨rfl, wr (by omega) (by omega)⟩, ao1⟩
      · have h : decide ((rawN E (E.getD ((d : Int) - 1).toNat dE)).getD (k : Int).toNat 0 ≥ 0) = false := h
        rw [decide_eq_false_iff_not] at h
        have ao1 : AOEq (.row 4 1 E.length (rB (isK E id ((d : Int) - 1) ((rawN E (E.getD ((d : Int) - 1).toNat dE)).take (k + 1))))) (.row 4 1 E.length (rB (isK E id ((d : Int) - 1) ((rawN E (E.getD ((d : Int) - 1).toNat dE)).take k)))) := by
          refine ⟨rfl, rfl, rfl, fun q _ => ?_⟩
          show [AV.b _] = [AV.b _]
          rw [show isK E id ((d : Int) - 1) ((rawN E (E.getD ((d : Int) - 1).toNat dE)).take k) q = isK E id ((d : Int) - 1) ((rawN E (E.getD ((d : Int) - 1).toNat dE)).take (k + 1)) q from bool_ext (by
            rw [isK_iff, isK_iff, hts, List.mem_append, List.mem_singleton]
            refine ⟨fun h => h.elim .inl fun h => .inr (.inl h), fun h => h.elim .inl fun h => .inr (h.resolve_right fun h2 => by omega)⟩)]
        refine ⟨k + 1, [], (by show k + 1 ≤ _; omega), by dsimp only; omega, rfl, rfl, rfl, rfl, rfl, ⟨rfl, wr (by omega) (by omega)⟩, ao1⟩
    · have hc2 := dnlt hc2
      have hc2 : ((rawN E (E.getD ((d : Int) - 1).toNat dE)).length : Int) ≤ k := hc2
      have hkt : (rawN E (E.getD ((d : Int) - 1).toNat dE)).take k = rawN E (E.getD ((d : Int) - 1).toNat dE) := List.take_of_length_le (by omega)
      have ao : AOEq (.row 4 1 E.length (rB (isB E id (((d - 1 : Nat) : Int) - 1)))) (.row 4 1 E.length (rB (isK E id ((d : Int) - 1) ((rawN E (E.getD ((d : Int) - 1).toNat dE)).take k)))) := by
        refine ⟨rfl, rfl, rfl, fun q _ => ?_⟩
        show [AV.b _] = [AV.b _]
        rw [e2, isB_take hw h0 h1 (by omega) hb, hkt]
      refine ⟨d - 1, [], (by show d - 1 ≤ id.toNat + 1; omega), by dsimp only; omega, rfl, rfl, rfl, rfl, rfl, ⟨rfl, hwi⟩, ao⟩
  have hc : decide ((d : Int) - 1 ≥ 0) = false := hc
  rw [decide_eq_false_iff_not] at hc
  obtain rfl : d = 0 := by omega
  have hpt := pT_end hw h0 h1
  have aoP0 : AOEq (.row 3 1 (pT E id 0).length (rI (pT E id 0))) (.row 3 1 0 (rI [])) := ⟨rfl, rfl, rfl, fun k hk => absurd hk (Nat.not_lt_zero k)⟩
  repeat refine Or.inl ?_
  refine ⟨[], Nat, fun j => j ≤ id.toNat, fun j => [⟨11, [], .i .i64 j⟩, ⟨10, [], .so 1⟩], fun j => [⟨1, [], .row 3 1 (pT E id j).length (rI (pT E id j))⟩], fun j => id.toNat - j,
    ⟨0, [], Nat.zero_le _, rfl, rfl, rfl, rfl, rfl, ⟨⟨rfl, rfl⟩, rfl⟩, ⟨rfl, rfl, rfl, fun k hk => absurd hk (Nat.not_lt_zero k)⟩⟩, ?_⟩
  intro j hj
  have hj : j ≤ id.toNat := hj
  have hpl := pT_len E id j
  refine .inl ⟨fun hc2 => ?_, fun hc2 => ?_⟩
  · have hc2 : decide ((j : Int) < id) = true := hc2
    rw [decide_eq_true_eq] at hc2
    have ej : (j : Int).toNat = j := Int.toNat_natCast j
    have hps := pT_snoc E id j
    have hiff : isB E id ((0 : Nat) - 1 : Int) j = true ↔ Rch E id j := by
      rw [isB_iff, show (((0 : Nat) : Int) - 1) = -1 from rfl, isP_end hw h0 h1]
      exact ⟨fun h => h.resolve_left (by omega), .inr⟩
    repeat refine Or.inl ?_
    refine ⟨⟨by omega, by omega⟩, by omega, ?_⟩
    refine ⟨fun h => ?_, fun h => ?_⟩
    · have h : isB E id (((0 : Nat) : Int) - 1) (j : Int).toNat = true := h
      rw [ej] at h
      rw [if_pos (@decide_eq_true _ (Classical.propDecidable _) (hiff.1 h))] at hps
      repeat refine Or.inl ?_
      refine ⟨fits (by omega), ?_⟩
      have ao : AOEq (.row 3 1 (pT E id (j + 1)).length (rI (pT E id (j + 1)))) (.row 3 1 ((pT E id j).length + 1) (catG (pT E id j).length (rI (pT E id j)) (rowOf 1 [.i .i64 j]))) := by
        rw [hps]
        exact snocI_row2 _ _
      refine ⟨j + 1, [(1, 3)], (by show j + 1 ≤ id.toNat; omega), by dsimp only; omega, rfl, rfl, rfl, rfl, rfl, ⟨⟨rfl, wr (by omega) (by omega)⟩, rfl⟩, ao⟩
    · have h : isB E id (((0 : Nat) : Int) - 1) (j : Int).toNat = false := h
      rw [ej] at h
      have hn : ¬ Rch E id j := fun h2 => by rw [hiff.2 h2] at h; cases h
      rw [if_neg (fun h2 => hn (@of_decide_eq_true _ (Classical.propDecidable _) h2)), List.append_nil] at hps
      have ao : AOEq (.row 3 1 (pT E id (j + 1)).length (rI (pT E id (j + 1)))) (.row 3 1 (pT E id j).length (rI (pT E id j))) := by
        rw [hps]
        exact AOEq.refl _
      refine ⟨j + 1, [], (by show j + 1 ≤ id.toNat; omega), by dsimp only; omega, rfl, rfl, rfl, rfl, rfl, ⟨⟨rfl, wr (by omega) (by omega)⟩, rfl⟩, ao⟩
  · have hc2 : decide ((j : Int) < id) = false := hc2
    rw [decide_eq_false_iff_not] at hc2
    obtain rfl : j = id.toNat := by omega
    rw [← hpt]
    exact RetIs.so rfl rfl (fun _ _ => rfl) (fun _ _ => rfl)
set_option maxRecDepth 20000 in
theorem rbefore_fn (E : List Ev) (hC : Cok E) (x y : Int) : Ctr Try.prog 96 [.rp (rvA E), .i .i64 x, .i .i64 y] [] (.b (decide (x ∈ pastL E y))) := by
  have hl := past_len hC y
  have hEl := hC.ok.1
  refine fn_of_exec tabOk Try.func96 (by kernel_rfl) rfl (N := Try.f96.ntmps) rfl (res := [.tmp 6]) rfl rfl [] ?_
  repeat refine Or.inl ?_
  refine ⟨_, _, rpast_fn E hC y, ?_⟩
  repeat refine Or.inl ?_
  refine ⟨[], Nat, fun j => j ≤ (pastL E y).length ∧ ∀ i, i < j → (pastL E y).getD i 0 ≠ x, fun j => [⟨8, [], .i .i64 j⟩], fun _ => [], fun j => (pastL E y).length - j,
    ⟨0, [], ⟨Nat.zero_le _, fun i hi => by omega⟩, rfl, rfl, rfl, rfl, rfl, ⟨rfl, rfl⟩, trivial⟩, ?_⟩
  rintro j ⟨hj, hno⟩
  have hj : j ≤ (pastL E y).length := hj
  refine .inl ⟨fun hc => ?_, fun hc => ?_⟩
  · have hc := dlt hc
    have hc : (j : Int) < (pastL E y).length := hc
    have ej : (j : Int).toNat = j := Int.toNat_natCast j
    repeat refine Or.inl ?_
    refine ⟨⟨by omega, by omega⟩, by omega, ?_⟩
    refine ⟨fun h => ?_, fun h => ?_⟩
    · have h : ((pastL E y).getD (j : Int).toNat 0 == x) = true := h
      rw [ej, beq_iff_eq] at h
      refine RetIs.b ?_
      symm
      rw [decide_eq_true_eq, ← h]
      exact getD_memI (by omega)
    · have h : ((pastL E y).getD (j : Int).toNat 0 == x) = false := h
      rw [ej, beq_eq_false_iff_ne] at h
      refine ⟨j + 1, [], ⟨by omega, fun i hi => ?_⟩, by dsimp only; omega, rfl, rfl, rfl, rfl, rfl, ⟨rfl, wr (by omega) (by omega)⟩, trivial⟩
      by_cases hij : i = j
      · rw [hij]; exact h
      · exact hno i (by omega)
  · have hc := dnlt hc
    have hc : ((pastL E y).length : Int) ≤ j := hc
    refine RetIs.b ?_
    symm
    rw [decide_eq_false_iff_not]
    intro hx
    obtain ⟨i, hi, he⟩ := mem_getDI hx
    exact hno i (by omega) he
end Go.Proofs.Ytnookbebiacaeaa
end

section
/-
  Conversations: what is opened, of which only the events' number is kept (a plain contract, for regions that draw their order).
-/
namespace Go.Proofs.Ytnookbebiacaeaa
open Go.Eng

/-- What is there is opened again. -/
theorem open_yes_fn (l : List Ev) (hl : l.length < 2^62) (hk : okL l) (h0 : openS l = 0) :
    CtrM Try.prog 87 true [] [.rs 12 l.length (rE l)] (fun _ : Unit => True) (fun _ => []) (fun _ => [.cells 182 [.so 1, .mo 2, .mo 4], rowO l, ownO l 3, .dead, delO l]) (fun _ => .tup [.p 0 0, .i .i64 0]) := by
  have h := open_fn l hl hk
  have e1 : (fun _ : Unit => openO l) = fun _ => [.cells 182 [.so 1, .mo 2, .mo 4], rowO l, ownO l 3, .dead, delO l] := by funext _; exact (open_yes h0).1
  have e2 : (fun _ : Unit => openR l) = fun _ => .tup [.p 0 0, .i .i64 0] := by funext _; exact (open_yes h0).2
  rw [e1, e2] at h
  exact h
theorem copy_live_fn (E : List Ev) (hE : okE E) (hc : copyC E = E) : CtrM Try.prog 94 true [.cells 182 [.so 1, .mo 2, .mo 4], rowO E, ownO E 3, .dead, delO E] [.p 0 0] (fun _ : Unit => True) (fun _ => cvI E) (fun _ => [.cells 182 [.so 6, .mo 7, .mo 9], rowO E, ownO E 8, .dead, delO E]) (fun _ => .p 5 0) := by
  have h := copy_fn E hE
  rw [hc] at h
  exact h
end Go.Proofs.Ytnookbebiacaeaa
end

section
/-
  Conversations: a message that is erased, and one that was bare from the beginning (plain law of Erase).
-/
namespace Go.Proofs.Ytnookbebiacaeaa
open Go.Eng

theorem fields_bare (e : Ev) : fieldsE (bareE e) = fieldsE e := by
  unfold bareE
  split <;> rfl
theorem right_bare {e : Ev} (hr : rightE e = true) : rightE (bareE e) = true := by
  have hb := (right_rt hr).bare.sp
  have hf := fields_bare e
  unfold rightE at hr ⊢
  simp only [Bool.and_eq_true, decide_eq_true_eq] at hr ⊢
  refine ⟨?_, ⟨⟨⟨⟨?_, ?_⟩, ?_⟩, ?_⟩, ?_⟩, hb⟩
  · rw [bareE_cs]; exact hr.1
  · have : whoB (bareE e) = whoB e := by unfold bareE; split <;> rfl
    rw [this]; exact hr.2.1.1.1.1.1
  · rw [bareE_cs]; exact hr.2.1.1.1.1.2
  · rw [hf]; exact hr.2.1.1.1.2
  · unfold bareE
    split
    · show ((noB.size : Nat) : Int) ≤ 4000
      decide
    · exact hr.2.1.1.2
  · unfold bareE
    split
    · rfl
    · exact hr.2.1.2
theorem bareE_g (e : Ev) : (bareE e).g = e.g := by unfold bareE; split <;> rfl
theorem bareE_q (e : Ev) : (bareE e).q = e.q := by unfold bareE; split <;> rfl
theorem bareE_s (e : Ev) : (bareE e).s = e.s := by unfold bareE; split <;> rfl
theorem getD_mapI {β : Type} (f : Ev → β) (E : List Ev) (j : Nat) : f (E.getD j dE) = (E.map f).getD j (f dE) := by
  by_cases h : j < E.length
  · rw [gdI h, gdI (by rw [List.length_map]; exact h), List.getElem_map]
  · have h1 : E.length ≤ j := by omega
    simp [List.getD, h1]
theorem delB_congr {E F : List Ev} (h : F.map (fun e => (e.k, e.t)) = E.map (fun e => (e.k, e.t))) (t : Int) : delB F t = delB E t := by
  have key : ∀ G : List Ev, delB G t = (G.map fun e => (e.k, e.t)).any fun p => (p.1 == 2) && (p.2 == t) := fun G => by
    unfold delB
    rw [List.any_map]
    rfl
  rw [key, key, h]
/-- Two conversations that are the same but for what erasing takes away do the same with an event. -/
theorem add_sim {E F : List Ev} {z z' : Ev} (hb : F.map bareE = E.map bareE) (hz : bareE z' = bareE z) (hr : rightE z' = rightE z) :
    (addC F z').2 = (addC E z).2 ∧ (((addC E z).1 = E ∧ (addC F z').1 = F) ∨ ((addC E z) = (E ++ [z], ((E.length : Int), 0)) ∧ (addC F z').1 = F ++ [z'])) := by
  have mp : ∀ {β : Type} (f : Ev → β), (∀ e, f (bareE e) = f e) → F.map f = E.map f := fun {β} f hf => by
    have h1 : ∀ G : List Ev, G.map f = (G.map bareE).map f := fun G => by
      rw [List.map_map]
      exact List.map_congr_left fun e _ => (hf e).symm
    rw [h1, h1 E, hb]
  have mz : ∀ {β : Type} (f : Ev → β), (∀ e, f (bareE e) = f e) → f z' = f z := fun {β} f hf => by rw [← hf z', ← hf z, hz]
  have hl : F.length = E.length := by have := congrArg List.length hb; rwa [List.length_map, List.length_map] at this
  have ha := mz Ev.a bareE_a
  have hs := mz Ev.s bareE_s
  have ht := mz Ev.t bareE_t
  have hq := mz Ev.q bareE_q
  have hg := mz Ev.g bareE_g
  have hc := mz Ev.cs bareE_cs
  have hids : ∀ a, idsOf F a = idsOf E a := idsOf_congr (mp Ev.a bareE_a)
  have hdel : ∀ t, delB F t = delB E t := delB_congr (mp (fun e => (e.k, e.t)) fun e => by rw [bareE_k, bareE_t])
  have hmiss : missE F z' = missE E z := by unfold missE; rw [ht, hq, hc, hl]
  have hk : ∀ j, (F.getD j dE).k = (E.getD j dE).k := fun j => by rw [getD_mapI Ev.k, getD_mapI Ev.k E, mp Ev.k bareE_k]
  have hgg : ∀ j, (F.getD j dE).g = (E.getD j dE).g := fun j => by rw [getD_mapI Ev.g, getD_mapI Ev.g E, mp Ev.g bareE_g]
  have hbad : ∀ x, badM F z' x = badM E z x := fun x => by unfold badM; rw [hk, hgg, hg]
  have hal : ∀ j, alikeE (F.getD j dE) z' = alikeE (E.getD j dE) z := fun j => by
    unfold alikeE
    rw [hz, getD_mapI bareE, getD_mapI bareE E, hb]
  unfold addC
  rw [hr]
  by_cases h1 : rightE z = false
  · rw [if_pos h1, if_pos h1]; exact ⟨rfl, .inl ⟨rfl, rfl⟩⟩
  rw [if_neg h1, if_neg h1, hs, ha, hids]
  by_cases h2 : z.s < (idsOf E z.a).length
  · rw [if_pos h2, if_pos h2, hal]
    split
    · exact ⟨rfl, .inl ⟨rfl, rfl⟩⟩
    · exact ⟨rfl, .inl ⟨rfl, rfl⟩⟩
  rw [if_neg h2, if_neg h2, hmiss]
  by_cases h3 : (decide (z.s > (idsOf E z.a).length) || missE E z) = true
  · rw [if_pos h3, if_pos h3]; exact ⟨rfl, .inl ⟨rfl, rfl⟩⟩
  rw [if_neg h3, if_neg h3, ht, hq, hbad, hbad]
  by_cases h4 : (badM E z z.t || badM E z z.q) = true
  · rw [if_pos h4, if_pos h4]; exact ⟨rfl, .inl ⟨rfl, rfl⟩⟩
  rw [if_neg h4, if_neg h4, hdel, hdel]
  by_cases h5 : (delB E z.t || delB E z.q) = true
  · rw [if_pos h5, if_pos h5]; exact ⟨rfl, .inl ⟨rfl, rfl⟩⟩
  rw [if_neg h5, if_neg h5, hl]
  by_cases h6 : E.length ≥ 100000
  · rw [if_pos h6, if_pos h6]; exact ⟨rfl, .inl ⟨rfl, rfl⟩⟩
  rw [if_neg h6, if_neg h6]
  exact ⟨rfl, .inr ⟨rfl, rfl⟩⟩
theorem eraseTo_bare (E : List Ev) (i : Int) (k : Nat) : (eraseTo E i k).map bareE = E.map bareE := eraseTo_map bareE bare_bare E i k
/-- Is the event z the message that goes, or an edit of it? -/
def ownB (g : Ev) (id : Int) (z : Ev) : Bool := (((z.a == g.a) && (z.s == g.s)) || ((z.k == 1) && (z.t == id)))
end Go.Proofs.Ytnookbebiacaeaa
end
