/-
  The engine: whatever a step asks, it has an effect.
-/
import Derived.Test.YtklmfkejgjhneaaEng9
namespace Go.Eng
open Go.RowKit
section
variable {P : Program} {nid : Nat} {lk : Nat → Option AO} {k : Eff → Prop} {gc : Option Prop} {T : List (Nat × TI)}

theorem ob_right {p rest : Prop} (h : ob gc p rest) : rest := by
  cases gc with
  | none => exact h.2
  | some c => exact h.2
theorem packK_ex {agg : Bool} {l : List AV} (h : packK agg l fun r => k (.ext [] r)) : ∃ eff, k eff := by
  unfold packK at h
  split at h <;> first | exact ⟨_, h⟩ | exact h.elim
theorem loadA_ex {ti : TI} {a : AV} (h : loadA gc lk ti a k) : ∃ eff, k eff := by
  unfold loadA at h
  split at h
  · split at h
    · exact packK_ex (dropTakeK_iff h).2
    · exact h.elim
  · exact packK_ex (dropTakeK_iff h).2
  · split at h
    · split at h
      · exact packK_ex (dropTakeK_iff (ob_right h)).2
      · exact h.elim
    · exact h.elim
  · exact h.elim
theorem storeA_ex {ti : TI} {a b : AV} (h : storeA gc lk ti a b k) : ∃ eff, k eff := by
  unfold storeA at h
  have hq := cellsK_iff h
  clear h
  obtain ⟨cs, h, _⟩ := hq
  split at h
  · exact h.elim
  · split at h
    · split at h
      · exact ⟨_, (overK_iff h).2⟩
      · exact h.elim
    · split at h
      · split at h
        · exact ⟨_, ob_right h⟩
        · exact h.elim
      · exact h.elim
    · exact h.elim
theorem allocA_ex {e : TypeId} {a : AV} (h : allocA nid e a k) : ∃ eff, k eff := by
  obtain ⟨cs, h, _⟩ := cellsK_iff h
  exact ⟨_, h⟩
theorem fieldAddrA_ex {s f : Nat} {a : AV} (h : fieldAddrA T s f a k) : ∃ eff, k eff := by
  unfold fieldAddrA at h
  split at h
  · split at h
    · split at h
      · split at h
        · exact h.elim
        · split at h
          · exact ⟨_, h⟩
          · exact ⟨_, h⟩
          · exact ⟨_, (dropK_iff h).2⟩
          · exact h.elim
      · exact h.elim
    · exact h.elim
  · exact h.elim
theorem fieldA_ex {s f : Nat} {a : AV} (h : fieldA T s f a k) : ∃ eff, k eff := by
  unfold fieldA at h
  split at h
  · split at h
    · split at h
      · exact packK_ex (dropTakeK_iff h).2
      · exact h.elim
    · exact h.elim
  · exact h.elim
theorem indexAddrA_ex {t : Nat} {a b : AV} (h : indexAddrA gc T lk t a b k) : ∃ eff, k eff := by
  unfold indexAddrA at h
  repeat' (first | exact h.elim | exact ⟨_, ob_right h⟩ | split at h)
theorem extractA_ex {j : Nat} {a : AV} (h : extractA j a k) : ∃ eff, k eff := by
  unfold extractA at h
  split at h
  · obtain ⟨_, h⟩ := nthK_iff h
    exact ⟨_, h⟩
  · exact h.elim
theorem binA_ex {op : BinOp} {t : Nat} {a b : AV} (h : binA gc T lk op t a b k) : ∃ eff, k eff := by
  unfold binA at h
  repeat' (first | exact h.elim | exact ⟨_, h⟩ | exact ⟨_, ob_right h⟩ | split at h)
theorem unA_ex {op : UnOp} {a : AV} (h : unA op a k) : ∃ eff, k eff := by
  unfold unA at h
  repeat' (first | exact h.elim | exact ⟨_, h⟩ | split at h)
theorem convA_ex {s d : Nat} {a : AV} (h : convA T s d a k) : ∃ eff, k eff := by
  unfold convA at h
  repeat' (first | exact h.elim | exact ⟨_, h⟩ | split at h)
theorem nilCheckA_ex {a : AV} (h : nilCheckA a k) : ∃ eff, k eff := by
  unfold nilCheckA at h
  repeat' (first | exact h.elim | exact ⟨_, h⟩ | split at h)
theorem lenA_ex {t : Nat} {a : AV} (h : lenA T lk t a k) : ∃ eff, k eff := by
  unfold lenA at h
  repeat' (first | exact h.elim | exact ⟨_, h⟩ | split at h)
theorem maxA_ex {a b : AV} (h : maxA a b k) : ∃ eff, k eff := by
  unfold maxA at h
  repeat' (first | exact h.elim | exact ⟨_, h⟩ | split at h)
theorem minA_ex {a b : AV} (h : minA a b k) : ∃ eff, k eff := by
  unfold minA at h
  repeat' (first | exact h.elim | exact ⟨_, h⟩ | split at h)
theorem fillK_ex (pl : Nat → Option (Nat × Nat)) : ∀ (parts : List (Nat × AV)) (flat : List AV) {q : List AV → Prop}, fillK pl parts flat q → ∃ f, q f
  | [], flat, q, h => ⟨flat, h⟩
  | (i, a) :: r, flat, q, h => by
    unfold fillK at h
    split at h
    · exact h.elim
    · have hq := cellsK_iff h
      clear h
      obtain ⟨cs, h, _⟩ := hq
      split at h
      · exact h.elim
      · split at h
        · exact fillK_ex pl r _ (overK_iff h).2
        · exact h.elim
theorem buildSliceA_ex {t n : Nat} {parts : List (Nat × AV)} (h : buildSliceA T nid t n parts k) : ∃ eff, k eff := by
  unfold buildSliceA at h
  split at h
  · split at h
    · split at h
      · split at h
        · obtain ⟨f, h⟩ := fillK_ex _ _ _ (repK_iff h)
          split at h
          · exact ⟨_, h⟩
          · exact h.elim
        · exact h.elim
      · exact h.elim
    · exact h.elim
  · exact h.elim
theorem buildA_ex {t : Nat} {parts : List (Nat × AV)} (h : buildA T t parts k) : ∃ eff, k eff := by
  unfold buildA at h
  split at h
  · split at h
    · obtain ⟨f, h⟩ := fillK_ex _ _ _ h
      exact ⟨_, h⟩
    · exact h.elim
  · exact h.elim
theorem makeSliceA_ex {t : Nat} {a b : AV} (h : makeSliceA gc T nid t a b k) : ∃ eff, k eff := by
  unfold makeSliceA at h
  repeat' (first | exact h.elim | exact ⟨_, ob_right h⟩ | split at h)
theorem srcK_ex {x : AV} {sz : Nat} {q : Nat → (Nat → List AV) → Prop} (h : srcK lk x sz q) : ∃ n g, q n g := by
  unfold srcK at h
  repeat' (first | exact h.elim | exact ⟨_, _, h⟩ | split at h)
theorem appendA_ex {t : Nat} {a b : AV} (h : appendA gc T lk nid t a b k) : ∃ eff, k eff := by
  unfold appendA at h
  split at h
  · split at h
    · split at h
      · split at h
        · split at h
          · split at h
            · split at h
              · obtain ⟨n, g, h⟩ := srcK_ex h
                exact ⟨_, ob_right h⟩
              · exact h.elim
            · exact h.elim
          · split at h
            · split at h
              · obtain ⟨n, g, h⟩ := srcK_ex h
                exact ⟨_, ob_right h⟩
              · exact h.elim
            · exact h.elim
          · split at h
            · obtain ⟨n, g, h⟩ := srcK_ex h
              exact ⟨_, ob_right h⟩
            · exact h.elim
          · exact h.elim
        · exact h.elim
      · exact h.elim
    · exact h.elim
  · exact h.elim
theorem subA_ex {t : Nat} {a : AV} {lo hi : Option AV} (h : subA gc T lk t a lo hi k) : ∃ eff, k eff := by
  unfold subA at h
  repeat' (first | exact h.elim | exact ⟨_, ob_right h⟩ | split at h)
theorem views_ex : ∀ n : Nat, (∀ (a : AV) (q : AV → Prop), viewK lk n a q → ∃ b, q b) ∧ (∀ (l : List AV) (q : List AV → Prop), viewsK lk n l q → ∃ m, q m) := by
  intro n
  induction n with
  | zero =>
    refine ⟨fun a q h => ?_, fun l q h => ?_⟩
    · cases a <;> simp only [viewK] at h <;> first | exact h.elim | exact ⟨_, h⟩
    · cases l with
      | nil => simp only [viewsK] at h; exact ⟨_, h⟩
      | cons a r => simp only [viewsK] at h
  | succ n ih =>
    refine ⟨fun a q h => ?_, fun l q h => ?_⟩
    · cases a <;> simp only [viewK] at h <;> first
        | exact h.elim
        | exact ⟨_, h⟩
        | (obtain ⟨m, h⟩ := ih.2 _ _ h; exact ⟨_, h⟩)
        | (split at h
           · first
              | exact ⟨_, h⟩
              | (split at h
                 · exact ⟨_, h⟩
                 · exact h.elim)
              | (obtain ⟨m, h⟩ := ih.2 _ _ h; exact ⟨_, (dropK_iff h).2⟩)
           · exact h.elim)
    · cases l with
      | nil => simp only [viewsK] at h; exact ⟨_, h⟩
      | cons a r =>
        simp only [viewsK] at h
        obtain ⟨b, h⟩ := ih.1 _ _ h
        obtain ⟨m, h⟩ := ih.2 _ _ h
        exact ⟨_, h⟩
theorem mapK_ex {a : AV} {q : Nat → (Nat → AV) → (Nat → AV) → Prop} (h : mapK lk a q) : ∃ n x y, q n x y := by
  unfold mapK at h
  repeat' (first | exact h.elim | exact ⟨_, _, _, h⟩ | split at h)
theorem lookupA_ex {t : Nat} {a b : AV} {ok : Bool} (h : lookupA gc T lk t a b ok k) : ∃ eff, k eff := by
  unfold lookupA at h
  split at h
  · split at h
    · split at h
      · obtain ⟨_, _, _, c, v, h⟩ := mapK_ex h
        have h := ob_right h
        split at h <;> exact ⟨_, h⟩
      · exact h.elim
    · exact h.elim
  · exact h.elim
theorem updateA_ex {t : Nat} {a b c : AV} (h : updateA gc T lk t a b c k) : ∃ eff, k eff := by
  unfold updateA at h
  split at h
  · split at h
    · split at h
      · obtain ⟨_, _, _, _, _, h⟩ := h
        exact ⟨_, ob_right h⟩
      · exact h.elim
    · exact h.elim
  · exact h.elim
theorem deleteA_ex {t : Nat} {a b : AV} (h : deleteA gc T lk t a b k) : ∃ eff, k eff := by
  unfold deleteA at h
  split at h
  · split at h
    · obtain ⟨_, _, _, _, h⟩ := h
      exact ⟨_, ob_right h⟩
    · exact h.elim
  · exact h.elim
theorem rangeA_ex {t : Nat} {a : AV} (h : rangeA T lk nid t a k) : ∃ eff, k eff := by
  unfold rangeA at h
  repeat' (first | exact h.elim | exact ⟨_, h⟩ | split at h)
theorem entryA_ex {a : AV} (h : entryA gc lk a k) : ∃ eff, k eff := by
  unfold entryA at h
  split at h
  · split at h
    · exact ⟨_, h⟩
    · split at h
      · obtain ⟨_, h⟩ := h
        exact ⟨_, ob_right h⟩
      · exact h.elim
    · exact h.elim
  · exact h.elim
theorem clearA_ex {t : Nat} {a : AV} (h : clearA T lk t a k) : ∃ eff, k eff := by
  unfold clearA at h
  repeat' (first | exact h.elim | exact ⟨_, h⟩ | split at h)
theorem callA_ex {f : AV} {args : List AV} (h : callA P gc lk nid f args k) : ∃ eff, k eff := by
  unfold callA at h
  split at h
  · rcases h with h | h
    · obtain ⟨m, os, r, h⟩ := (views_ex 60).2 _ _ h
      exact ⟨_, ob_right h⟩
    · split at h
      · obtain ⟨r, h⟩ := h
        exact ⟨_, ob_right h⟩
      · exact h.elim
  · exact h.elim
theorem evsK_ex {ev : Operand → Option AV} : ∀ {l : List Operand} {q : List AV → Prop}, evsK ev l q → ∃ m, q m
  | [], q, h => ⟨_, h⟩
  | x :: r, q, h => by
    obtain ⟨_, _, h⟩ := withA_iff h
    obtain ⟨m, h⟩ := evsK_ex h
    exact ⟨_, h⟩
theorem evpK_ex {ev : Operand → Option AV} : ∀ {l : List (Nat × Operand)} {q : List (Nat × AV) → Prop}, evpK ev l q → ∃ m, q m
  | [], q, h => ⟨_, h⟩
  | (i, x) :: r, q, h => by
    obtain ⟨_, _, h⟩ := withA_iff h
    obtain ⟨m, h⟩ := evpK_ex h
    exact ⟨_, h⟩
theorem evoK_ex {ev : Operand → Option AV} {x : Option Operand} {q : Option AV → Prop} (h : evoK ev x q) : ∃ m, q m := by
  cases x with
  | none => exact ⟨_, h⟩
  | some x =>
    obtain ⟨_, _, h⟩ := withA_iff h
    exact ⟨_, h⟩
theorem pickA_ex {ev : Operand → Option AV} {evx : Nat → Bool → Operand → Option AV} {t : Nat} {x y : Operand} (h : pickA ev evx t x y k) : ∃ eff, k eff := by
  unfold pickA at h
  repeat' (first | exact h.elim | exact ⟨_, h⟩ | split at h)

theorem stepA_ex {ev : Operand → Option AV} {evx : Nat → Bool → Operand → Option AV} {op : Op} (h : stepA P T gc ev evx lk nid op k) : ∃ eff, k eff := by
  unfold stepA at h
  split at h
  · obtain ⟨_, _, h⟩ := withA_iff h; exact ⟨_, h⟩
  · obtain ⟨_, _, h⟩ := withA_iff h; exact ⟨_, h⟩
  · exact pickA_ex h
  · split at h
    · exact allocA_ex h
    · exact h.elim
  · obtain ⟨_, _, h⟩ := withA_iff h; exact allocA_ex h
  · obtain ⟨_, _, h⟩ := withA_iff h
    split at h
    · exact loadA_ex h
    · exact h.elim
  · obtain ⟨_, _, h⟩ := withA_iff h
    obtain ⟨_, _, h⟩ := withA_iff h
    split at h
    · exact storeA_ex h
    · exact h.elim
  · obtain ⟨_, _, h⟩ := withA_iff h; exact nilCheckA_ex h
  · obtain ⟨_, _, h⟩ := withA_iff h
    obtain ⟨_, _, h⟩ := withA_iff h
    exact binA_ex h
  · obtain ⟨_, _, h⟩ := withA_iff h; exact unA_ex h
  · obtain ⟨_, _, h⟩ := withA_iff h; exact convA_ex h
  · obtain ⟨_, _, h⟩ := withA_iff h; exact fieldAddrA_ex h
  · obtain ⟨_, _, h⟩ := withA_iff h; exact fieldA_ex h
  · obtain ⟨_, _, h⟩ := withA_iff h
    obtain ⟨_, _, h⟩ := withA_iff h
    exact indexAddrA_ex h
  · obtain ⟨_, _, h⟩ := withA_iff h; exact extractA_ex h
  · obtain ⟨_, h⟩ := evsK_ex h; exact ⟨_, h⟩
  · obtain ⟨_, _, h⟩ := withA_iff h
    obtain ⟨_, _, h⟩ := withA_iff h
    exact makeSliceA_ex h
  · obtain ⟨_, _, h⟩ := withA_iff h
    obtain ⟨_, h⟩ := evoK_ex h
    obtain ⟨_, h⟩ := evoK_ex h
    exact subA_ex h
  · obtain ⟨_, h⟩ := evpK_ex h; exact buildA_ex h
  · obtain ⟨_, h⟩ := evpK_ex h; exact buildSliceA_ex h
  · obtain ⟨_, _, h⟩ := withA_iff h
    obtain ⟨_, h⟩ := evsK_ex h
    exact callA_ex h
  · obtain ⟨_, _, h⟩ := withA_iff h; exact lenA_ex h
  · obtain ⟨_, _, h⟩ := withA_iff h
    obtain ⟨_, _, h⟩ := withA_iff h
    exact maxA_ex h
  · obtain ⟨_, _, h⟩ := withA_iff h
    obtain ⟨_, _, h⟩ := withA_iff h
    exact minA_ex h
  · split at h
    · obtain ⟨_, _, h⟩ := withA_iff h
      obtain ⟨_, _, h⟩ := withA_iff h
      exact appendA_ex h
    · exact h.elim
  · exact ⟨_, h⟩
  · obtain ⟨_, _, h⟩ := withA_iff h
    obtain ⟨_, _, h⟩ := withA_iff h
    exact lookupA_ex h
  · obtain ⟨_, _, h⟩ := withA_iff h
    obtain ⟨_, _, h⟩ := withA_iff h
    obtain ⟨_, _, h⟩ := withA_iff h
    exact updateA_ex h
  · obtain ⟨_, _, h⟩ := withA_iff h
    obtain ⟨_, _, h⟩ := withA_iff h
    obtain ⟨_, _, h⟩ := withA_iff h
    exact updateA_ex h
  · obtain ⟨_, _, h⟩ := withA_iff h
    exact rangeA_ex h
  · obtain ⟨_, _, h⟩ := withA_iff h
    exact entryA_ex h
  · obtain ⟨_, _, h⟩ := withA_iff h
    obtain ⟨_, _, h⟩ := withA_iff h
    exact deleteA_ex h
  · obtain ⟨_, _, h⟩ := withA_iff h
    exact clearA_ex h
  · exact h.elim
end
end Go.Eng
