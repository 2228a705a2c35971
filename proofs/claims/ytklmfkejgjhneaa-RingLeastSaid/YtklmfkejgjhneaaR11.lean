/-
  RingTells: both ways of bridges say the same.
-/
import Derived.Test.YtklmfkejgjhneaaR10
namespace Go.Proofs.Ytklmfkejgjhneaa
open Go.Eng

theorem RoundsL_len (B : List Bri) (c : List Int) (a : Int) : (RoundsL B c a).length ≤ 12 := by
  unfold RoundsL
  split
  · exact Nat.zero_le _
  · exact ReachL_len B _ a
theorem cutY_not19 {B : List Bri} {n : Int} (h : validB B n = true → chosenB B ≠ none) : (cutY B n).2.2 ≠ 19 := by
  unfold cutY
  split
  · rename_i hv
    cases hc : chosenB B with
    | none => exact (h hv hc).elim
    | some s => exact (by decide : (0 : Int) ≠ 19)
  · exact (by decide : (1 : Int) ≠ 19)
theorem cutY_19 {B : List Bri} {n : Int} (hv : validB B n = true) (hc : chosenB B = none) : cutY B n = ([], [], 19) := by
  unfold cutY
  rw [if_pos hv, hc]
theorem ringTells_no {B : List Bri} {n : Int} {y : List Int × List Int × Int} (h : CutS B n y) :
    ((((y.2.2 != (cutY B n).2.2) || !decide (y.2.1 = (cutY B n).2.1)) || ((y.2.2 == 19) && !aroundB B y.1)) || ((y.2.2 != 19) && !decide (y.1 = (cutY B n).1))) = false := by
  by_cases hb : validB B n = true ∧ chosenB B = none
  · obtain ⟨h1, h2⟩ := h.bad hb.1 hb.2
    rw [cutY_19 hb.1 hb.2, h1, h2]
    rfl
  · have h1 : validB B n = true → chosenB B ≠ none := fun hv hc => hb ⟨hv, hc⟩
    have h2 := h.el h1
    subst h2
    have h3 := cutY_not19 h1
    simp [h3]
theorem cutY_len {B : List Bri} {n : Int} : (cutY B n).1.length ≤ 1000 ∧ (cutY B n).2.1.length ≤ 12 := by
  unfold cutY
  split
  · rename_i hv
    have hV := validB_iff.1 hv
    cases hc : chosenB B with
    | none => exact (by decide : ([] : List Int).length ≤ 1000 ∧ ([] : List Int).length ≤ 12)
    | some s =>
      have h1 := (COk.all 2 s hc).len
      have h2 := hV.len
      have h3 := hV.hi
      refine ⟨?_, ?_⟩
      · show s.2.length ≤ 1000
        omega
      · show (ranksL B s.1 n).length ≤ 12
        unfold ranksL
        rw [rankIt_len, List.length_replicate]
        omega
  · exact (by decide : ([] : List Int).length ≤ 1000 ∧ ([] : List Int).length ≤ 12)

set_option maxRecDepth 20000 in
set_option maxHeartbeats 2000000 in
theorem ringTells_fn (B : List Bri) (n : Int) (c R : List Int) (a : Int) :
    Ctr Try.prog 15 [.rs 3 B.length (rowsB B), .i .i64 n, .rs 1 c.length (rowsI c), .rs 1 R.length (rowsI R), .i .i64 a] [] (.b true) := by
  refine fn_of_exec tabOk Try.func15 (by kernel_rfl) rfl (N := Try.f15.ntmps) rfl (res := [.tmp 10]) rfl rfl [] ?_
  refine .inl ⟨[], _, smallR_fn, ?_⟩
  repeat refine Or.inl ?_
  refine ⟨fun hf => RetIs.b rfl, fun hf => ?_⟩
  have hf : ((decide ((B.length : Int) > 40) || decide ((c.length : Int) > 50)) || decide ((R.length : Int) > 50)) = false := hf
  simp only [Bool.or_eq_false_iff, decide_eq_false_iff_not] at hf
  have hB : B.length < 1000000 := by omega
  have hcl : c.length < 1000000 := by omega
  have hRl : R.length < 1000000 := by omega
  refine .inr (.inr ⟨false, [], rfl, List Int × List Int × Int, _, _, _, _, Cut_fn B hB n, fun y hy => ?_⟩)
  have hy1 := hy.len
  have hno := ringTells_no hy
  have hcy := cutY_len (B := B) (n := n)
  refine .inl ⟨_, _, rCut_fn B hB n, ?_⟩
  repeat refine Or.inl ?_
  refine ⟨[], _, fun _ => sameR_fn y.2.1 (cutY B n).2.1 (by omega) (by omega), ?_⟩
  repeat refine Or.inl ?_
  refine ⟨[], _, fun _ => Around_fn B hB y.1 (by omega), ?_⟩
  repeat refine Or.inl ?_
  refine ⟨[], _, fun _ => sameR_fn y.1 (cutY B n).1 (by omega) (by omega), ?_⟩
  refine ⟨fun h => ?_, fun _ => ?_⟩
  · have h : ((((y.2.2 != (cutY B n).2.2) || !decide (y.2.1 = (cutY B n).2.1)) || ((y.2.2 == 19) && !aroundB B y.1)) || ((y.2.2 != 19) && !decide (y.1 = (cutY B n).1))) = true := h
    rw [hno] at h
    cases h
  have hrl := RoundsL_len B c a
  refine .inl ⟨[], _, fun _ => Check_fn B hB n c hcl R hRl, ?_⟩
  refine .inl ⟨[], _, fun _ => rCheck_fn B hB n c hcl R hRl, ?_⟩
  refine .inl ⟨_, _, fun _ => Rounds_fn B hB c hcl a, ?_⟩
  refine .inl ⟨_, _, fun _ => rRounds_fn B hB c hcl a, ?_⟩
  refine .inl ⟨[], _, fun _ => sameR_fn (RoundsL B c a) (RoundsL B c a) (by omega) (by omega), ?_⟩
  refine RetIs.b ?_
  simp
end Go.Proofs.Ytklmfkejgjhneaa
