/-
  LevelsRight returns true whatever the input, and the input reads behind the call as it read before.
-/
import Derived.Test.YtilkcfabbilcbaaW9
import Derived.Test.YtilkcfabbilcbaaP1
namespace Go.Proofs.Ytilkcfabbilcbaa
open Go.Eng Go.ChangeShapes Go.WideShapes Go.ChangeAt Go.RowKit

theorem foldmax_le (b : Bool) (m w v : Int) : ∀ (l : List Note) (a : Int), l.foldl (fun a n => if says n b m w then max a n.l else a) a ≤ v ↔ a ≤ v ∧ ∀ n ∈ l, says n b m w = true → n.l ≤ v
  | [], a => by simp
  | n :: r, a => by
    simp only [List.foldl_cons, List.mem_cons, forall_eq_or_imp]
    rw [foldmax_le b m w v r]
    cases hs : says n b m w
    · simp
    · simp only [if_true, forall_const]
      constructor
      · rintro ⟨h1, h2⟩; exact ⟨by omega, by omega, h2⟩
      · rintro ⟨h1, h2, h3⟩; exact ⟨by omega, h3⟩
theorem low_le (b : Bool) (m w v : Int) (l : List Note) : low l b m w ≤ v ↔ 0 ≤ v ∧ ∀ n ∈ l, says n b m w = true → n.l ≤ v := foldmax_le b m w v l 0
theorem foldmin_ge (m w v : Int) : ∀ (l : List Note) (a : Int), (∀ n ∈ l, vnote n = true) → (v ≤ l.foldl (fun a n => if den n m w then min a (IntKind.i64.wrap (n.l - 1)) else a) a ↔ v ≤ a ∧ ∀ n ∈ l, den n m w = true → v ≤ n.l - 1)
  | [], a, _ => by simp
  | n :: r, a, hv => by
    simp only [List.foldl_cons, List.mem_cons, forall_eq_or_imp]
    rw [foldmin_ge m w v r _ fun n hn => hv n (List.mem_cons_of_mem _ hn)]
    have hn := hv n (by simp)
    unfold vnote at hn
    simp at hn
    rw [wr (by omega) (by omega)]
    cases hs : den n m w
    · simp
    · simp only [if_true, forall_const]
      constructor
      · rintro ⟨h1, h2⟩; exact ⟨by omega, by omega, h2⟩
      · rintro ⟨h1, h2, h3⟩; exact ⟨by omega, h3⟩
theorem high_ge (m w v : Int) (l : List Note) (hv : ∀ n ∈ l, vnote n = true) : v ≤ high l m w ↔ v ≤ 4 ∧ ∀ n ∈ l, den n m w = true → v ≤ n.l - 1 := foldmin_ge m w v l 4 hv
theorem vnote_l {n : Note} (h : vnote n = true) : 1 ≤ n.l ∧ n.l ≤ 4 := by
  unfold vnote at h
  simp at h
  omega
/-- The least level is at most the greatest one exactly if no two notes contradict each other there. -/
theorem low_le_high (l : List Note) (hv : ∀ n ∈ l, vnote n = true) (b : Bool) (m w : Int) : low l b m w ≤ high l m w ↔ ∀ a ∈ l, ∀ k ∈ l, says a b m w = true → den k m w = true → a.l < k.l := by
  rw [low_le, high_ge _ _ _ _ hv]
  constructor
  · rintro ⟨_, h⟩ a ha k hk hs hd
    have := (high_ge m w a.l l hv).1 (h a ha hs)
    have := this.2 k hk hd
    omega
  · intro h
    refine ⟨⟨by omega, fun n hn _ => by have := vnote_l (hv n hn); omega⟩, fun a ha hs => (high_ge m w a.l l hv).2 ⟨(vnote_l (hv a ha)).2, fun k hk hd => ?_⟩⟩
    have := h a ha k hk hs hd
    omega
theorem clash_iff (b : Bool) (a k : Note) : clash b a k = true ↔ says a b k.m k.w = true ∧ k.n = true ∧ a.l ≥ k.l := by
  unfold clash says
  cases a.n <;> cases k.n <;> simp
  constructor
  · rintro ⟨⟨h1, h2⟩, h3⟩; exact ⟨⟨h1, h3⟩, h2⟩
  · rintro ⟨⟨h1, h3⟩, h2⟩; exact ⟨⟨h1, h2⟩, h3⟩
theorem fo_iff (l : List Note) (b : Bool) : fo l b l.length = true ↔ valid l = true ∧ ∀ a ∈ l, ∀ k ∈ l, clash b a k = false := by
  unfold fo
  simp
theorem right_iff (l : List Note) (b : Bool) : Right l b = true ↔ fo l b l.length = true := by
  rw [right_eq, fo_iff]
  unfold rRight
  simp only [Bool.and_eq_true, List.all_eq_true, decide_eq_true_eq]
  refine and_congr_right fun hv => ?_
  have hall := valid_all hv
  simp only [Low, High, hv, if_true]
  constructor
  · intro h a ha k hk
    rw [Bool.eq_false_iff]
    intro hc
    obtain ⟨h1, h2, h3⟩ := (clash_iff b a k).1 hc
    have := (low_le_high l hall b k.m k.w).1 (h k hk) a ha k hk h1 (by simp [den, h2])
    omega
  · intro h n hn
    refine (low_le_high l hall b n.m n.w).2 fun a ha k hk hs hd => ?_
    unfold den at hd
    simp at hd
    obtain ⟨⟨hd1, hd2⟩, hd3⟩ := hd
    have := h a ha k hk
    rw [Bool.eq_false_iff] at this
    rcases Int.lt_or_le a.l k.l with h1 | h1
    · exact h1
    · exact (this ((clash_iff b a k).2 ⟨by rw [hd2, hd3]; exact hs, hd1, h1⟩)).elim
theorem right_low (l : List Note) (b : Bool) (h : Right l b = true) (m w : Int) : Low l b m w ≤ High l m w := by
  rw [right_iff, fo_iff] at h
  obtain ⟨hv, h⟩ := h
  simp only [Low, High, hv, if_true]
  refine (low_le_high l (valid_all hv) b m w).2 fun a ha k hk hs hd => ?_
  unfold den at hd
  simp at hd
  obtain ⟨⟨hd1, hd2⟩, hd3⟩ := hd
  have := h a ha k hk
  rw [Bool.eq_false_iff] at this
  rcases Int.lt_or_le a.l k.l with h1 | h1
  · exact h1
  · exact (this ((clash_iff b a k).2 ⟨by rw [hd2, hd3]; exact hs, hd1, h1⟩)).elim
theorem lright_true (l : List Note) (b : Bool) : lright l b = true := by
  unfold lright
  split
  · rfl
  · split
    · rename_i h
      have : Right l b ≠ true := fun hr => by rw [right_iff, h] at hr; cases hr
      simpa using this
    · rename_i h
      have hr : Right l b = true := (right_iff l b).2 (by simpa using h)
      rw [if_neg]
      · exact hr
      · rw [Bool.not_eq_true, List.any_eq_false]
        intro n _
        have := right_low l b hr n.m n.w
        simp only [gt_iff_lt, decide_eq_true_eq]
        omega

set_option maxRecDepth 100000 in
theorem levelsRight_lifted (os : Os) (started : os.Started) (H : Type) (enc : TypeId × Value → H) :
    ReturnsInHanded {} Try.checked os 5 .any (Rows.levelsRightSpec.pre6 enc Try.prog Try.f5 Rows.levelsRightRow.domain false) (Rows.levelsRightSpec.post enc Try.prog Try.f5 false true false false) := by
  refine returnsInHanded_of_change (C := Try.checked) Try.own started (by kernel_rfl) Try.func5
    (ChangeSpec.witness6 (enc := enc) (C := Try.checked) false ⟨#[], #[.slice none 0 0, .bool false], []⟩ 8 (by kernel_rfl) (by kernel_rfl) (by kernel_rfl) (by kernel_rfl)) ?_
  intro W base args ds gs before hval0 hW hcnd _
  have hval : ∀ (j : Nat) t v, Try.f5.params[j]? = some t → args[j]? = some v → Value.okWide Try.prog W .any base t v := hval0
  have hW' := hW
  obtain ⟨p, q, hA0, hV, rfl, hfz, hnd⟩ := hW
  have hA : DataW.TrodAll enc Try.prog W 0 (fun _ => true) true Try.f5.params.toList args.toList ds p := hA0
  rw [Try.params5] at hA hval
  obtain ⟨v0, v1, d0, d1, p0, p1, rfl, rfl, rfl, h0, h1⟩ := trodAll_two hA
  obtain ⟨rfl, rfl⟩ := trodVars_none hV
  obtain ⟨l, hl⟩ := open_notes (hval 0 22 v0 rfl rfl) h0
  obtain ⟨b, rfl, rfl, rfl⟩ := open_bool Try.underlying4 (hval 1 4 v1 rfl rfl) h1
  refine ((lright_fn l b).2 W [v0, .bool b] rfl (reps_cons hl (reps_cons (.b b) reps_nil))).mono ?_
  rintro e W' ⟨v, β, rfl, hb, _, hr⟩
  obtain rfl := hr.b_inv
  rw [lright_true]
  exact ⟨_, rfl, post_true Try.laidOut (by kernel_rfl) hW' rfl rfl rfl Try.underlying4 hb⟩

theorem levelsRight_holds : Rows.LevelsRightSaid :=
  OpenClaim.holds_of_wide 5 Try.f5 rfl rfl rfl rfl rfl rfl rfl ⟨rfl, rfl, rfl, rfl, rfl⟩ rfl rfl rfl rfl rfl (by kernel_rfl) Try.func5 (by kernel_rfl)
    (of_decide_eq_true (by kernel_rfl)) (by unfold Func.isWrapper; rw [if_neg (by decide +kernel)]; exact ⟨rfl, rfl⟩)
    (fun os started H enc _ => levelsRight_lifted os started H enc)
end Go.Proofs.Ytilkcfabbilcbaa
