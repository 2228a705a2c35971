/-
  LevelsBatch returns true whatever the input, and the input reads behind the call as it read before.
-/
import Derived.Test.YtilkcfabbilcbaaW8
import Derived.Test.YtilkcfabbilcbaaP1
namespace Go.Proofs.Ytilkcfabbilcbaa
open Go.Eng Go.ChangeShapes Go.WideShapes Go.ChangeAt Go.RowKit

theorem foldl_mono (b b' : Bool) (m m' w w' : Int) (hs : ∀ n, says n b m w = true → says n b' m' w' = true) : ∀ (l : List Note) (a a' : Int), a ≤ a' →
    l.foldl (fun a n => if says n b m w then max a n.l else a) a ≤ l.foldl (fun a n => if says n b' m' w' then max a n.l else a) a'
  | [], _, _, h => h
  | n :: r, a, a', h => by
    refine foldl_mono b b' m m' w w' hs r _ _ ?_
    dsimp only
    have := hs n
    cases h1 : says n b m w
    · simp only [Bool.false_eq_true, if_false]
      split <;> omega
    · rw [this h1]
      simp only [if_true]
      omega
theorem Low_mono (l : List Note) (b b' : Bool) (m m' w : Int) (hs : ∀ n, says n b m w = true → says n b' m' w = true) : Low l b m w ≤ Low l b' m' w := by
  unfold Low
  split
  · exact foldl_mono b b' m m' w w hs l 0 0 (Int.le_refl _)
  · exact Int.le_refl _
theorem says_true (n : Note) (b : Bool) (m w : Int) (h : says n b m w = true) : says n true m w = true := by
  unfold says at *
  simp at *
  obtain ⟨h1, h2⟩ := h
  exact ⟨h1, by rcases h2 with h2 | h2; exact .inl h2; exact .inr h2.2⟩
theorem says_less (n : Note) (a b w : Int) (hab : a < b) (h : says n true b w = true) : says n true a w = true := by
  unfold says at *
  simp at *
  obtain ⟨h1, h2⟩ := h
  exact ⟨h1, by omega⟩
theorem right_batch (l : List Note) (h : Right l true = true) : Right l false = true := by
  unfold Right at *
  simp only [Bool.and_eq_true, Bool.not_eq_true', List.any_eq_false] at *
  refine ⟨h.1, fun n hn hb => h.2 n hn ?_⟩
  unfold bad at *
  simp at *
  refine ⟨hb.1, Int.lt_of_lt_of_le hb.2 ?_⟩
  exact foldl_mono false true _ _ _ _ (fun x hx => says_true x false _ _ hx) l 0 0 (Int.le_refl _)
theorem batch_true (l : List Note) (a b w : Int) : batch l a b w = true := by
  unfold batch
  split
  · rfl
  · have h1 : Low l false a w ≤ Low l true a w := Low_mono l false true a a w fun n h => says_true n false a w h
    have h2 : a < b → Low l true b w ≤ Low l true a w := fun hab => Low_mono l true true b a w fun n h => says_less n a b w hab h
    rw [if_neg]
    · have := right_batch l
      cases hr : Right l true
      · simp
      · simp [this hr]
    · simp
      refine ⟨fun hab => h2 hab, h1⟩

set_option maxRecDepth 100000 in
theorem levelsBatch_lifted (os : Os) (started : os.Started) (H : Type) (enc : TypeId × Value → H) :
    ReturnsInHanded {} Try.checked os 7 .any (Rows.levelsBatchSpec.pre6 enc Try.prog Try.f7 Rows.levelsBatchRow.domain false) (Rows.levelsBatchSpec.post enc Try.prog Try.f7 false true false false) := by
  refine returnsInHanded_of_change (C := Try.checked) Try.own started (by kernel_rfl) Try.func7
    (ChangeSpec.witness6 (enc := enc) (C := Try.checked) false ⟨#[], #[.slice none 0 0, .int .i64 0, .int .i64 0, .int .i64 0], []⟩ 8 (by kernel_rfl) (by kernel_rfl) (by kernel_rfl) (by kernel_rfl)) ?_
  intro W base args ds gs before hval0 hW hcnd _
  have hval : ∀ (j : Nat) t v, Try.f7.params[j]? = some t → args[j]? = some v → Value.okWide Try.prog W .any base t v := hval0
  have hW' := hW
  obtain ⟨p, q, hA0, hV, rfl, hfz, hnd⟩ := hW
  have hA : DataW.TrodAll enc Try.prog W 0 (fun _ => true) true Try.f7.params.toList args.toList ds p := hA0
  rw [Try.params7] at hA hval
  obtain ⟨v0, v1, v2, v3, d0, d1, d2, d3, p0, p1, p2, p3, rfl, rfl, rfl, h0, h1, h2, h3⟩ := trodAll_four hA
  obtain ⟨rfl, rfl⟩ := trodVars_none hV
  obtain ⟨l, hl⟩ := open_notes (hval 0 22 v0 rfl rfl) h0
  obtain ⟨a, rfl, rfl, rfl, _⟩ := open_int Try.underlying3 (hval 1 3 v1 rfl rfl) h1
  obtain ⟨b, rfl, rfl, rfl, _⟩ := open_int Try.underlying3 (hval 2 3 v2 rfl rfl) h2
  obtain ⟨w, rfl, rfl, rfl, _⟩ := open_int Try.underlying3 (hval 3 3 v3 rfl rfl) h3
  refine ((batch_fn l a b w).2 W [v0, .int .i64 a, .int .i64 b, .int .i64 w] rfl (reps_cons hl (reps_cons (.i _ a) (reps_cons (.i _ b) (reps_cons (.i _ w) reps_nil))))).mono ?_
  rintro e W' ⟨v, β, rfl, hb, _, hr⟩
  obtain rfl := hr.b_inv
  rw [batch_true]
  exact ⟨_, rfl, post_true Try.laidOut (by kernel_rfl) hW' rfl rfl rfl Try.underlying4 hb⟩

theorem levelsBatch_holds : Rows.LevelsBatchSaid :=
  OpenClaim.holds_of_wide 7 Try.f7 rfl rfl rfl rfl rfl rfl rfl ⟨rfl, rfl, rfl, rfl, rfl⟩ rfl rfl rfl rfl rfl (by kernel_rfl) Try.func7 (by kernel_rfl)
    (of_decide_eq_true (by kernel_rfl)) (by unfold Func.isWrapper; rw [if_neg (by decide +kernel)]; exact ⟨rfl, rfl⟩)
    (fun os started H enc _ => levelsBatch_lifted os started H enc)
end Go.Proofs.Ytilkcfabbilcbaa
