/-
  LevelsWorlds returns true whatever the input, and the input reads behind the call as it read before.
-/
import Derived.Test.YtilkcfabbilcbaaW11
import Derived.Test.YtilkcfabbilcbaaP3
namespace Go.Proofs.Ytilkcfabbilcbaa
open Go.Eng Go.ChangeShapes Go.WideShapes Go.ChangeAt Go.RowKit

theorem nodup_le : ∀ (l m : List Int), l.Nodup → (∀ x ∈ l, x ∈ m) → l.length ≤ m.length
  | [], m, _, _ => by simp
  | a :: r, m, hn, h => by
    obtain ⟨h1, h2⟩ := List.nodup_cons.1 hn
    have ha := h a (by simp)
    have := nodup_le r (m.erase a) h2 fun x hx => (List.mem_erase_of_ne (fun e => h1 (by rw [← e]; exact hx))).2 (h x (List.mem_cons_of_mem _ hx))
    rw [List.length_erase_of_mem ha] at this
    have : 0 < m.length := List.length_pos_of_mem ha
    simp
    omega
theorem wfi_iff (l : List Note) (i : Nat) : ∀ k, wfi l i k = true ↔ ∀ j, j < k → ¬ ((l.getD j dN).m = (l.getD i dN).m ∧ (l.getD j dN).w = (l.getD i dN).w)
  | 0 => by simp [wfi]
  | k + 1 => by
    unfold wfi
    rw [Bool.and_eq_true, wfi_iff l i k]
    constructor
    · rintro ⟨h1, h2⟩ j hj
      by_cases hjk : j = k
      · subst hjk
        simp at h2
        rintro ⟨e1, e2⟩
        rcases h2 with h2 | h2
        · exact h2 e1
        · exact h2 e2
      · exact h1 j (by omega)
    · intro h
      refine ⟨fun j hj => h j (by omega), ?_⟩
      have := h k (by omega)
      simp
      by_cases e : (l.getD k dN).m = (l.getD i dN).m
      · right; intro e2; exact this ⟨by simpa using e, by simpa using e2⟩
      · left; simpa using e
theorem wtl_mem (l : List Note) (n : Note) (x : Int) : ∀ i, x ∈ wtl l n i ↔ ∃ j, j < i ∧ wc l n j = true ∧ wfi l j j = true ∧ (l.getD j dN).m = x
  | 0 => by simp [wtl]
  | i + 1 => by
    unfold wtl
    have ih := wtl_mem l n x i
    split
    · rename_i h
      rw [Bool.and_eq_true] at h
      rw [List.mem_cons, ih]
      constructor
      · rintro (rfl | ⟨j, h1, h2⟩)
        · exact ⟨i, by omega, h.1, h.2, rfl⟩
        · exact ⟨j, by omega, h2⟩
      · rintro ⟨j, h1, h2, h3, h4⟩
        by_cases hji : j = i
        · subst hji; exact .inl h4.symm
        · exact .inr ⟨j, by omega, h2, h3, h4⟩
    · rename_i h
      rw [ih]
      constructor
      · rintro ⟨j, h1, h2⟩
        exact ⟨j, by omega, h2⟩
      · rintro ⟨j, h1, h2, h3, h4⟩
        by_cases hji : j = i
        · subst hji; exact (h (by rw [h2, h3]; rfl)).elim
        · exact ⟨j, by omega, h2, h3, h4⟩
theorem wc_iff (l : List Note) (n : Note) (i : Nat) : wc l n i = true ↔ (l.getD i dN).w = n.w ∧ 0 ≤ (l.getD i dN).m ∧ (l.getD i dN).m < n.m := by
  unfold wc
  simp only [Bool.not_eq_true', Bool.or_eq_false_iff, decide_eq_false_iff_not, bne_eq_false_iff_eq]
  constructor
  · rintro ⟨⟨h1, h2⟩, h3⟩; exact ⟨h1, by omega, by omega⟩
  · rintro ⟨h1, h2, h3⟩; exact ⟨⟨h1, by omega⟩, by omega⟩
theorem wtl_nodup (l : List Note) (n : Note) : ∀ i, (wtl l n i).Nodup
  | 0 => by simp [wtl]
  | i + 1 => by
    unfold wtl
    split
    · rename_i h
      rw [Bool.and_eq_true] at h
      refine List.nodup_cons.2 ⟨fun hm => ?_, wtl_nodup l n i⟩
      obtain ⟨j, h1, h2, h3, h4⟩ := (wtl_mem l n _ i).1 hm
      exact (wfi_iff l i i).1 h.2 j h1 ⟨h4, ((wc_iff l n j).1 h2).1.trans ((wc_iff l n i).1 h.1).1.symm⟩
    · exact wtl_nodup l n i
/-- A message of which nothing is told. -/
theorem wtl_less (l : List Note) (n : Note) (i : Nat) (x : Int) (h0 : 0 ≤ x) (h1 : x < n.m) (hx : x ∉ wtl l n i) : ((wtl l n i).length : Int) < n.m := by
  have := nodup_le (x :: wtl l n i) ((List.range n.m.toNat).map Int.ofNat) (List.nodup_cons.2 ⟨hx, wtl_nodup l n i⟩) fun y hy => by
    have hy2 : 0 ≤ y ∧ y < n.m := by
      rcases List.mem_cons.1 hy with rfl | hy
      · exact ⟨h0, h1⟩
      · obtain ⟨j, _, h2, _, rfl⟩ := (wtl_mem l n _ i).1 hy
        exact ((wc_iff l n j).1 h2).2
    rw [List.mem_map]
    exact ⟨y.toNat, by simp; omega, by simp; omega⟩
  simp at this
  omega
/-- What the level of a message in a world is. -/
theorem levelF_cases (l : List Note) (o m w : Int) : (∃ i, i < l.length ∧ (l.getD i dN).m = m ∧ (l.getD i dN).w = w ∧ wfi l i i = true ∧ levelF l o m w = (l.getD i dN).l) ∨ ((∀ i, i < l.length → ¬ ((l.getD i dN).m = m ∧ (l.getD i dN).w = w)) ∧ levelF l o m w = o) := by
  unfold levelF
  cases h : l.find? (fun n => n.m == m && n.w == w) with
  | none =>
    refine .inr ⟨fun i hi he => ?_, rfl⟩
    rw [List.find?_eq_none] at h
    have := h l[i] (List.getElem_mem hi)
    rw [gd hi] at he
    simp [he] at this
  | some n =>
    rw [List.find?_eq_some_iff_getElem] at h
    obtain ⟨hp, i, hi, rfl, hb⟩ := h
    simp at hp
    refine .inl ⟨i, hi, by rw [gd hi]; exact hp.1, by rw [gd hi]; exact hp.2, ?_, by rw [gd hi]⟩
    rw [wfi_iff]
    rintro j hj ⟨e1, e2⟩
    have := hb j hj
    rw [gd (by omega)] at e1 e2
    rw [gd hi] at e1 e2
    simp [e1, e2, hp] at this
theorem hold_spec (n : Note) (b : Bool) (l : List Note) (o : Int) (h : hold n b l o = true) :
    (n.n = true → levelF l o n.m n.w < n.l) ∧ (n.n = false → n.l ≤ levelF l o n.m n.w ∧ (b = true → ∀ x, 0 ≤ x → x < n.m → n.l ≤ levelF l o x n.w)) := by
  unfold hold at h
  cases hn : n.n
  · rw [hn, if_neg (by simp)] at h
    refine ⟨fun h => (by cases h), fun _ => ?_⟩
    split at h
    · cases h
    · rename_i h1
      refine ⟨by omega, fun hb x hx0 hx1 => ?_⟩
      subst hb
      rw [if_neg (by simp)] at h
      split at h
      · cases h
      · rename_i h2
        rw [Bool.not_eq_true, List.any_eq_false] at h2
        rcases levelF_cases l o x n.w with ⟨i, hi, e1, e2, e3, e4⟩ | ⟨e1, e2⟩
        · have := h2 i (by simpa using hi)
          rw [e3, (wc_iff l n i).2 ⟨e2, by omega, by omega⟩] at this
          have h6 : ¬ (l.getD i dN).l < n.l := by simpa using this
          rw [e4]
          omega
        · rw [e2]
          rw [Bool.or_eq_true] at h
          rcases h with h | h
          · have h : ((wtl l n l.length).length : Int) = n.m := by simpa using h
            have := wtl_less l n l.length x hx0 hx1 fun hm => by
              obtain ⟨j, h3, h4, _, h5⟩ := (wtl_mem l n x _).1 hm
              exact e1 j h3 ⟨h5, ((wc_iff l n j).1 h4).1⟩
            omega
          · have := of_decide_eq_true h
            omega
  · rw [hn, if_pos rfl] at h
    exact ⟨fun _ => of_decide_eq_true h, fun h => (by cases h)⟩
theorem vnote_m {n : Note} (h : vnote n = true) : 0 ≤ n.m := by
  unfold vnote at h
  simp at h
  omega
theorem levelF_in (l : List Note) (o m w : Int) (hv : ∀ n ∈ l, vnote n = true) (h0 : 0 ≤ o) (h4 : o ≤ 4) : 0 ≤ levelF l o m w ∧ levelF l o m w ≤ 4 := by
  rcases levelF_cases l o m w with ⟨i, hi, _, _, _, e⟩ | ⟨_, e⟩
  · have := vnote_l (hv l[i] (List.getElem_mem hi))
    rw [e, gd hi]
    omega
  · rw [e]; exact ⟨h0, h4⟩
theorem says_iff (n : Note) (b : Bool) (m w : Int) : says n b m w = true ↔ n.n = false ∧ n.w = w ∧ (n.m = m ∨ b = true ∧ m < n.m) := by
  unfold says
  cases n.n <;> cases b <;> simp
theorem den_iff (n : Note) (m w : Int) : den n m w = true ↔ n.n = true ∧ n.m = m ∧ n.w = w := by
  unfold den
  cases n.n <;> simp
/-- In a world in which all notes hold. -/
theorem world_in (l : List Note) (b : Bool) (wl : List Note) (o m w : Int) (hv : ∀ n ∈ l, vnote n = true) (hw : ∀ n ∈ wl, vnote n = true) (h0 : 0 ≤ o) (h4 : o ≤ 4) (hm : 0 ≤ m)
    (hall : ∀ n ∈ l, hold n b wl o = true) : low l b m w ≤ levelF wl o m w ∧ levelF wl o m w ≤ high l m w := by
  have hin := levelF_in wl o m w hw h0 h4
  refine ⟨(low_le b m w _ l).2 ⟨hin.1, fun n hn hs => ?_⟩, (high_ge m w _ l hv).2 ⟨hin.2, fun n hn hd => ?_⟩⟩
  · obtain ⟨h1, h2, h3⟩ := (says_iff n b m w).1 hs
    have := (hold_spec n b wl o (hall n hn)).2 h1
    subst h2
    rcases h3 with rfl | ⟨hb, h3⟩
    · exact this.1
    · exact this.2 hb m hm h3
  · obtain ⟨h1, h2, h3⟩ := (den_iff n m w).1 hd
    have := (hold_spec n b wl o (hall n hn)).1 h1
    subst h2 h3
    omega
theorem tmod_in (p d : Int) (hp : 0 ≤ p) (hd : 0 < d) : 0 ≤ p.tmod d ∧ p.tmod d < d := by
  rw [Int.tmod_eq_emod_of_nonneg hp]
  exact ⟨Int.emod_nonneg _ (by omega), Int.emod_lt_of_pos _ hd⟩
theorem worlds_true (l : List Note) (b : Bool) (wl : List Note) (o m w p : Int) (hp : 0 ≤ p ∧ p ≤ 255) : worlds l b wl o m w p = true := by
  unfold worlds
  split
  · rfl
  rename_i hsk
  unfold wskip at hsk
  simp only [Bool.not_eq_true, Bool.or_eq_false_iff, decide_eq_false_iff_not, Bool.not_eq_false'] at hsk
  obtain ⟨⟨⟨⟨⟨⟨⟨hl, hwl⟩, hv⟩, hw⟩, ho0⟩, ho4⟩, hm0⟩, hm1⟩ := hsk
  have hva := valid_all hv
  have hwa := valid_all hw
  have eL : ∀ m w, Low l b m w = low l b m w := fun m w => by simp [Low, hv]
  have eH : ∀ m w, High l m w = high l m w := fun m w => by simp [High, hv]
  split
  · rename_i h
    exfalso
    rw [Bool.and_eq_true] at h
    obtain ⟨hall, h⟩ := h
    rw [List.all_eq_true] at hall
    have key := fun m w hm => world_in l b wl o m w hva hwa (by omega) (by omega) hm hall
    have hr : Right l b = true := by
      rw [right_eq]
      unfold rRight
      rw [hv, Bool.true_and, List.all_eq_true]
      intro n hn
      have := key n.m n.w (vnote_m (hva n hn))
      rw [eL, eH]
      simp
      omega
    have := key m w (by omega)
    rw [hr, eL, eH] at h
    simp at h
    omega
  · split
    · rfl
    · rename_i hr
      have hr : Right l b = true := by simpa using hr
      have hlh := right_low l b hr
      rw [if_neg]
      · have h1 : 0 ≤ Low l b m w := by
          rw [eL]
          exact ((low_le b m w _ l).1 (Int.le_refl _)).1
        have h2 : High l m w ≤ 4 := by
          rw [eH]
          exact ((high_ge m w _ l hva).1 (Int.le_refl _)).1
        have h3 := hlh m w
        have hwant : Low l b m w ≤ wantOf (Low l b m w) (High l m w) p ∧ wantOf (Low l b m w) (High l m w) p ≤ High l m w := by
          have ht := tmod_in p (High l m w - Low l b m w + 1) hp.1 (by omega)
          unfold wantOf
          rw [wr (n := p) (by omega) (by omega), wr (n := High l m w - Low l b m w) (by omega) (by omega), wr (n := High l m w - Low l b m w + 1) (by omega) (by omega), wr (by omega) (by omega)]
          omega
        generalize wantOf (Low l b m w) (High l m w) p = want at hwant
        rw [Bool.not_eq_true', List.any_eq_false]
        intro i hi
        rw [Bool.not_eq_true, List.any_eq_false]
        intro k _
        have hi : i < l.length := by simpa using hi
        unfold viol
        generalize mmOf l m k = mm
        rw [gd hi]
        have hn : l[i] ∈ l := List.getElem_mem hi
        generalize l[i] = n at hn
        have hE1 : Low l b mm n.w ≤ hasE l b m w want n mm ∧ hasE l b m w want n mm ≤ High l mm n.w := by
          unfold hasE
          split
          · rename_i h
            simp at h
            rw [h.1, h.2]
            exact hwant
          · exact ⟨Int.le_refl _, hlh mm n.w⟩
        rw [eL, eH] at hE1
        unfold violE
        intro hc
        rw [Bool.and_eq_true] at hc
        obtain ⟨hc1, hc2⟩ := hc
        cases hnn : n.n
        · rw [hnn] at hc1 hc2
          simp at hc1 hc2
          have := ((low_le b mm n.w _ l).1 hE1.1).2 n hn ((says_iff n b mm n.w).2 ⟨hnn, rfl, by rcases hc1 with h | h; exact .inl h.symm; exact .inr h⟩)
          omega
        · rw [hnn] at hc1 hc2
          simp at hc1 hc2
          have := ((high_ge mm n.w _ l hva).1 hE1.2).2 n hn ((den_iff n mm n.w).2 ⟨hnn, hc1.symm, rfl⟩)
          omega
      · have h1 : 0 ≤ Low l b m w := by
          rw [eL]
          exact ((low_le b m w _ l).1 (Int.le_refl _)).1
        have h2 : High l m w ≤ 4 := by
          rw [eH]
          exact ((high_ge m w _ l hva).1 (Int.le_refl _)).1
        have h3 := hlh m w
        simp
        omega

set_option maxRecDepth 100000 in
theorem levelsWorlds_lifted (os : Os) (started : os.Started) (H : Type) (enc : TypeId × Value → H) :
    ReturnsInHanded {} Try.checked os 4 .any (Rows.levelsWorldsSpec.pre6 enc Try.prog Try.f4 Rows.levelsWorldsRow.domain false) (Rows.levelsWorldsSpec.post enc Try.prog Try.f4 false true false false) := by
  refine returnsInHanded_of_change (C := Try.checked) Try.own started (by kernel_rfl) Try.func4
    (ChangeSpec.witness6 (enc := enc) (C := Try.checked) false ⟨#[], #[.slice none 0 0, .bool false, .slice none 0 0, .int .i64 0, .int .i64 0, .int .i64 0, .int .u8 0], []⟩ 8 (by kernel_rfl) (by kernel_rfl) (by kernel_rfl) (by kernel_rfl)) ?_
  intro W base args ds gs before hval0 hW hcnd _
  have hval : ∀ (j : Nat) t v, Try.f4.params[j]? = some t → args[j]? = some v → Value.okWide Try.prog W .any base t v := hval0
  have hW' := hW
  obtain ⟨p, q, hA0, hV, rfl, hfz, hnd⟩ := hW
  have hA : DataW.TrodAll enc Try.prog W 0 (fun _ => true) true Try.f4.params.toList args.toList ds p := hA0
  rw [Try.params4] at hA hval
  obtain ⟨rfl, rfl⟩ := trodVars_none hV
  obtain ⟨v0, vs0, d0, ds0, p0, q0, hargs, rfl, rfl, h0, hA⟩ := trodAll_cons hA
  obtain ⟨v1, vs1, d1, ds1, p1, q1, rfl, rfl, rfl, h1, hA⟩ := trodAll_cons hA
  obtain ⟨v2, vs2, d2, ds2, p2, q2, rfl, rfl, rfl, h2, hA⟩ := trodAll_cons hA
  obtain ⟨v3, vs3, d3, ds3, p3, q3, rfl, rfl, rfl, h3, hA⟩ := trodAll_cons hA
  obtain ⟨v4, vs4, d4, ds4, p4, q4, rfl, rfl, rfl, h4, hA⟩ := trodAll_cons hA
  obtain ⟨v5, vs5, d5, ds5, p5, q5, rfl, rfl, rfl, h5, hA⟩ := trodAll_cons hA
  obtain ⟨v6, vs6, d6, ds6, p6, q6, rfl, rfl, rfl, h6, hA⟩ := trodAll_cons hA
  obtain ⟨rfl, rfl, rfl⟩ := trodAll_nil hA
  obtain rfl : args = #[v0, v1, v2, v3, v4, v5, v6] := by cases args; simp_all
  obtain ⟨l, hl⟩ := open_notes (hval 0 22 v0 rfl rfl) h0
  obtain ⟨b, rfl, rfl, rfl⟩ := open_bool Try.underlying4 (hval 1 4 v1 rfl rfl) h1
  obtain ⟨wl, hwl⟩ := open_notes (hval 2 22 v2 rfl rfl) h2
  obtain ⟨o, rfl, rfl, rfl, _⟩ := open_int Try.underlying3 (hval 3 3 v3 rfl rfl) h3
  obtain ⟨m, rfl, rfl, rfl, _⟩ := open_int Try.underlying3 (hval 4 3 v4 rfl rfl) h4
  obtain ⟨w, rfl, rfl, rfl, _⟩ := open_int Try.underlying3 (hval 5 3 v5 rfl rfl) h5
  obtain ⟨p, rfl, rfl, rfl, hp⟩ := open_int Try.underlying5 (hval 6 5 v6 rfl rfl) h6
  have hp : 0 ≤ p ∧ p ≤ 255 := by
    unfold Lit.wf at hp
    rw [Bool.and_eq_true] at hp
    have h1 : IntKind.u8.min ≤ p := of_decide_eq_true hp.1
    have h2 : p ≤ IntKind.u8.max := of_decide_eq_true hp.2
    exact ⟨h1, h2⟩
  refine ((worlds_fn l b wl o m w p).2 W [v0, .bool b, v2, .int .i64 o, .int .i64 m, .int .i64 w, .int .u8 p] rfl (reps_cons hl (reps_cons (.b b) (reps_cons hwl (reps_cons (.i _ o) (reps_cons (.i _ m) (reps_cons (.i _ w) (reps_cons (.i _ p) reps_nil)))))))).mono ?_
  rintro e W' ⟨v, β, rfl, hb, _, hr⟩
  obtain rfl := hr.b_inv
  rw [worlds_true l b wl o m w p hp]
  exact ⟨_, rfl, post_true Try.laidOut (by kernel_rfl) hW' rfl rfl rfl Try.underlying4 hb⟩

theorem levelsWorlds_holds : Rows.LevelsWorldsSaid :=
  OpenClaim.holds_of_wide 4 Try.f4 rfl rfl rfl rfl rfl rfl rfl ⟨rfl, rfl, rfl, rfl, rfl⟩ rfl rfl rfl rfl rfl (by kernel_rfl) Try.func4 (by kernel_rfl)
    (of_decide_eq_true (by kernel_rfl)) (by unfold Func.isWrapper; rw [if_neg (by decide +kernel)]; exact ⟨rfl, rfl⟩)
    (fun os started H enc _ => levelsWorlds_lifted os started H enc)
end Go.Proofs.Ytilkcfabbilcbaa
