/-
  Several texts in one: Cvh, Cvl.
-/
import Derived.Test.YtnookbebiacaeaaMg15

section
/-
  Conversations: what an event knows (plain law of Past).
-/
namespace Go.Proofs.Ytnookbebiacaeaa
open Go.Eng

theorem pre_getI {A B : List Int} (h : A <+: B) {j : Nat} (hj : j < A.length) : B.getD j 0 = A.getD j 0 := by
  obtain ⟨R, rfl⟩ := h
  rw [gdI hj, gdI (by rw [List.length_append]; omega), List.getElem_append_left hj]
theorem names_pre {E : List Ev} (hw : Wf E) {k j : Nat} (hk : k ≤ E.length) (hj : j < k) : nmE (E.take k) j = nmE E j := by
  have h1 : (E.take k).getD (j : Int).toNat dE = E.getD (j : Int).toNat dE := (pre_getD (List.take_prefix k E) (by rw [List.length_take]; omega)).symm
  unfold nmE namesE rawN
  rw [h1]
  have ej : (j : Int).toNat = j := Int.toNat_natCast j
  rw [ej]
  have h2 := (hw j (by omega)).s
  have h3 := idsOf_pre (E.take k) (E.getD j dE).a j
  rw [List.take_take, Nat.min_eq_left (by omega)] at h3
  have h4 := h3.length_le
  split
  · rw [pre_getI (idsOf_pre E (E.getD j dE).a k) (by omega)]
  · rfl
theorem wf_take {E : List Ev} (hw : Wf E) (k : Nat) : Wf (E.take k) := by
  intro j hj
  have hj' : j < k ∧ j < E.length := by rw [List.length_take] at hj; omega
  have h1 : (E.take k).getD j dE = E.getD j dE := (pre_getD (List.take_prefix k E) hj).symm
  rw [h1]
  have h := hw j hj'.2
  exact ⟨h.t, h.q, h.cs, by rw [List.take_take, Nat.min_eq_left (by omega)]; exact h.s⟩
theorem rch_pre {E : List Ev} (hw : Wf E) {k : Nat} (hk : k ≤ E.length) {x y : Int} (hx : x < k) : Rch (E.take k) x y ↔ Rch E x y := by
  have hl : (E.take k).length = k := by rw [List.length_take]; omega
  have hn : ∀ x : Int, 0 ≤ x → x < k → nmE (E.take k) x = nmE E x := fun x h0 h1 => by
    have := names_pre hw hk (j := x.toNat) (by omega)
    rwa [Int.toNat_of_nonneg h0] at this
  constructor
  · intro h
    clear hx
    induction h with
    | one a b c => rw [hl] at b; exact .one a (by omega) (by rw [← hn _ a b]; exact c)
    | step a b c _ ih => rw [hl] at b; exact .step a (by omega) (by rw [← hn _ a b]; exact c) ih
  · intro h
    induction h with
    | one a b c => exact .one a (by rw [hl]; exact hx) (by rw [hn _ a hx]; exact c)
    | step a b c _ ih =>
      have := nm_lt hw a b c
      exact .step a (by rw [hl]; exact hx) (by rw [hn _ a hx]; exact c) (ih (by omega))
theorem past_pre {E : List Ev} (hw : Wf E) {k : Nat} (hk : k ≤ E.length) {j : Nat} (hj : j < k) : pastL (E.take k) j = pastL E j := by
  refine asc_uni (past_asc _ _) (past_asc _ _) fun x => ?_
  rw [past_in (wf_take hw k), past_in hw, rch_pre hw hk (by omega)]
theorem past_of_pre {E F : List Ev} (hw : Wf F) (h : E <+: F) {j : Nat} (hj : j < E.length) : pastL E j = pastL F j := by
  have h1 := h.length_le
  have h2 : E = F.take E.length := List.prefix_iff_eq_take.1 h
  have := past_pre hw h1 hj
  rw [← h2] at this
  exact this
/-- Where an event stands among those of its author. -/
theorem at_pos {E : List Ev} (hw : Wf E) {k : Nat} (hk : k < E.length) : (E.getD k dE).s < (idsOf E (E.getD k dE).a).length ∧ (idsOf E (E.getD k dE).a).getD (E.getD k dE).s.toNat 0 = k := by
  have h1 := (hw k hk).s
  have h2 := idsOf_pre E (E.getD k dE).a (k + 1)
  rw [List.take_succ_eq_append_getElem hk, ← gdI (d := dE) hk, idsOf_snoc, if_pos rfl] at h2
  have h3 := h2.length_le
  rw [List.length_append, List.length_singleton] at h3
  refine ⟨by omega, ?_⟩
  rw [h1, Int.toNat_natCast, pre_getI h2 (by rw [List.length_append, List.length_singleton]; omega), getD_snoc, if_neg (Nat.lt_irrefl _), if_pos rfl, List.length_take, Nat.min_eq_left (by omega)]
theorem pw_inj {l : List Int} (h : l.Pairwise (· < ·)) {i j : Nat} (hi : i < l.length) (hj : j < l.length) (he : l.getD i 0 = l.getD j 0) : i = j := by
  rw [List.pairwise_iff_getElem] at h
  rw [gdI hi, gdI hj] at he
  rcases Nat.lt_trichotomy i j with c | c | c
  · have := h i j hi hj c; omega
  · exact c
  · have := h j i hj hi c; omega
/-- Is the event at k its author's last before e? -/
def preB (E : List Ev) (e : Ev) (k : Nat) : Bool := ((E.getD k dE).a == e.a) && ((E.getD k dE).s == e.s - 1)
/-- What the law counts as named by e, with the first j events. -/
def nmK (E : List Ev) (e : Ev) (j : Nat) : List Int := (e.t :: e.q :: e.cs) ++ ((List.range j).filter fun k => preB E e k).map fun k : Nat => (k : Int)
theorem nmK_zero (E : List Ev) (e : Ev) : nmK E e 0 = e.t :: e.q :: e.cs := by unfold nmK; simp
theorem nmK_succ (E : List Ev) (e : Ev) (j : Nat) : nmK E e (j + 1) = if preB E e j = true then nmK E e j ++ [(j : Int)] else nmK E e j := by
  unfold nmK
  rw [List.range_succ, List.filter_append, List.map_append, ← List.append_assoc]
  by_cases h : preB E e j = true
  · rw [if_pos h]; simp [h]
  · rw [if_neg h]; simp [h]
theorem nmK_len (E : List Ev) (e : Ev) (j : Nat) : (nmK E e j).length ≤ e.cs.length + 2 + j := by
  induction j with
  | zero => rw [nmK_zero]; simp
  | succ j ih =>
    rw [nmK_succ]
    split
    · rw [List.length_append, List.length_singleton]; omega
    · omega
theorem nmK_in {E : List Ev} (hC : Cok E) {i : Nat} (hi : i < E.length) {x : Int} (hx : 0 ≤ x) : x ∈ nmK E (E.getD i dE) i ↔ x ∈ nmE E i := by
  have ei : (i : Int).toNat = i := Int.toNat_natCast i
  have hw := hC.wf i hi
  have hrt := hC.ok.2 _ (getD_memE hi)
  unfold nmE namesE keepF rawN nmK
  rw [ei, List.mem_filter, List.mem_append, List.mem_append, List.mem_map]
  have hno : (!decide (x < 0)) = true := by rw [Bool.not_eq_true', decide_eq_false_iff_not]; omega
  rw [and_iff_left hno]
  refine or_congr Iff.rfl ?_
  have hs0 := hrt.s.1
  constructor
  · rintro ⟨k, hk, rfl⟩
    rw [List.mem_filter, List.mem_range] at hk
    obtain ⟨hk, hp⟩ := hk
    unfold preB at hp
    rw [Bool.and_eq_true, beq_iff_eq, beq_iff_eq] at hp
    have h1 := at_pos hC.wf (k := k) (by omega)
    have h2 := (hC.ok.2 _ (getD_memE (show k < E.length by omega))).s
    rw [if_pos (by omega), List.mem_singleton, ← hp.2, ← hp.1]
    exact h1.2.symm
  · intro h
    by_cases hs : (E.getD i dE).s > 0
    · rw [if_pos hs, List.mem_singleton] at h
      have ho := hw.own (by omega) hs
      rw [← h] at ho
      refine ⟨x.toNat, ?_, by omega⟩
      rw [List.mem_filter, List.mem_range]
      refine ⟨by omega, ?_⟩
      have hmem : x ∈ idsOf E (E.getD i dE).a := by rw [h]; exact getD_memI (by omega)
      have ha := ((idsOf_spec E (E.getD i dE).a).1 x hmem).2.2
      have h1 := at_pos hC.wf (k := x.toNat) (by omega)
      rw [ha] at h1
      have h2 := (hC.ok.2 _ (getD_memE (show x.toNat < E.length by omega))).s
      have h3 := pw_inj (idsOf_spec E (E.getD i dE).a).2.1 (i := (E.getD x.toNat dE).s.toNat) (j := ((E.getD i dE).s - 1).toNat) (by omega) (by omega) (by rw [h1.2, ← h]; omega)
      unfold preB
      rw [ha, beq_self_eq_true, Bool.true_and, beq_iff_eq]
      omega
    · rw [if_neg hs] at h
      cases h
/-- What the law works out for k. -/
noncomputable def thr (E : List Ev) (i : Nat) (k : Int) (m : Nat) : Bool :=
  decide (k ∈ nmK E (E.getD i dE) i) || ((nmK E (E.getD i dE) i).take m).any fun y => decide (y ≥ 0) && decide (k ∈ pastL E y)
theorem thr_succ {E : List Ev} {i : Nat} {k : Int} {m : Nat} (h : m < (nmK E (E.getD i dE) i).length) :
    thr E i k (m + 1) = (thr E i k m || (decide ((nmK E (E.getD i dE) i).getD m 0 ≥ 0) && decide (k ∈ pastL E ((nmK E (E.getD i dE) i).getD m 0)))) := by
  unfold thr
  rw [List.take_succ_eq_append_getElem h, ← gdI (d := (0 : Int)) h, List.any_append, Bool.or_assoc]
  simp
theorem thr_zero (E : List Ev) (i : Nat) (k : Int) : thr E i k 0 = decide (k ∈ nmK E (E.getD i dE) i) := by unfold thr; simp
theorem thr_all {E : List Ev} (hC : Cok E) {i : Nat} (hi : i < E.length) {k : Int} (hk : 0 ≤ k) : thr E i k (nmK E (E.getD i dE) i).length = decide (k ∈ pastL E i) := by
  unfold thr
  rw [List.take_length, Bool.eq_iff_iff, Bool.or_eq_true, decide_eq_true_eq, decide_eq_true_eq, List.any_eq_true, nmK_in hC hi hk, past_in hC.wf]
  constructor
  · rintro (h | ⟨y, h1, h2⟩)
    · exact .one (by omega) (by omega) h
    · rw [Bool.and_eq_true, decide_eq_true_eq, decide_eq_true_eq, past_in hC.wf] at h2
      exact .step (by omega) (by omega) ((nmK_in hC hi h2.1).1 h1) h2.2
  · intro h
    rcases h.cases with h | ⟨y, h1, h2⟩
    · exact .inl h
    · have := nm_lt hC.wf (by omega) (by omega) h1
      exact .inr ⟨y, (nmK_in hC hi this.1).2 h1, by rw [Bool.and_eq_true, decide_eq_true_eq, decide_eq_true_eq, past_in hC.wf]; exact ⟨this.1, h2⟩⟩
theorem past_lt {E : List Ev} (hC : Cok E) {i k : Int} (h : k ∈ pastL E i) : 0 ≤ k ∧ k < i := ((past_in hC.wf).1 h).lt hC.wf
/-- The pasts that were told, each when its event was added. -/
noncomputable def fstL (E : List Ev) : List (List Int) := (List.range E.length).map fun i : Nat => pastL E (i : Int)
theorem fst_len (E : List Ev) : (fstL E).length = E.length := by unfold fstL; rw [List.length_map, List.length_range]
theorem fst_getD {E : List Ev} {i : Nat} (h : i < E.length) : (fstL E).getD i [] = pastL E i := by
  unfold fstL
  simp [List.getD, h]
theorem fst_snoc {E : List Ev} {e : Ev} (hw : Wf (E ++ [e])) : fstL (E ++ [e]) = fstL E ++ [pastL (E ++ [e]) E.length] := by
  unfold fstL
  rw [List.length_append, List.length_singleton, List.range_succ, List.map_append]
  congr 1
  refine List.map_congr_left fun i hi => ?_
  rw [List.mem_range] at hi
  exact (past_of_pre hw (List.prefix_append _ _) hi).symm
end Go.Proofs.Ytnookbebiacaeaa
end

section
/-
  Conversations: the law Past.
-/
namespace Go.Eng
/-- A row that a call returns may be taken as one that is only read. -/
theorem Ctr.frz {P : Program} {f : FuncId} {args : List AV} {e : TypeId} {sz n : Nat} {g : Nat → List AV} (h : Ctr P f args [.row e sz n g] (.so 0)) : Ctr P f args [] (.rs sz n g) := by
  refine ⟨h.1, fun w vs hl hr => (h.2 w vs hl hr).mono ?_⟩
  rintro ex w' ⟨v, β, rfl, hb, hn, hrep⟩
  refine ⟨v, β, rfl, hb, ⟨fun j o hj => by simp at hj, fun j o b hj => by simp at hj, fun j j' o o' b hj => by simp at hj⟩, ?_⟩
  obtain ⟨_, rfl⟩ := hrep.so_inv
  obtain ⟨xs, hx, hlen, hc⟩ := hn.1 0 _ rfl
  refine .pure _ _ (row_view (fun b hb2 => ?_) hx (fun b hb2 hf => ?_) hlen hc)
  · rcases hb2 with h | ⟨j, o, hj, _⟩
    · exact .inl h
    · simp at hj
  · have h1 := hn.2.1 0 _ b rfl hb2
    rcases hf with h | ⟨j, o, hj, _⟩
    · exact absurd h (by omega)
    · simp at hj
end Go.Eng
namespace Go.Proofs.Ytnookbebiacaeaa
open Go.Eng

def rL (F : List (List Int)) (k : Nat) : List AV := [.rs 1 (F.getD k []).length (rI (F.getD k []))]
theorem snocL_row (F : List (List Int)) (l : List Int) : AOEq (.row 36 1 (F ++ [l]).length (rL (F ++ [l]))) (.row 36 1 (F.length + 1) (catG F.length (rL F) (rowOf 1 [.rs 1 l.length (rI l)]))) := by
  refine ⟨rfl, rfl, by simp, fun k hk => ?_⟩
  unfold catG rL
  by_cases h : k < F.length
  · rw [if_pos h, getD_snoc, if_pos h]
  · have : k = F.length := by
      rw [List.length_append, List.length_singleton] at hk
      omega
    subst this
    rw [if_neg h, getD_snoc, if_neg h, if_pos rfl]
    simp
    rfl
set_option maxRecDepth 20000 in
set_option maxHeartbeats 64000000 in
theorem convPast_fn (l : List Ev) (hl : l.length < 2^63) : Ctr Try.prog 17 [.rs 12 l.length (rE l)] [] (.b true) := by
  refine fn_of_exec tabOk Try.func17 (by kernel_rfl) rfl (N := Try.f17.ntmps) rfl (res := [.tmp 2]) rfl rfl [(1000007, [.nl 5 36 1]), (1000023, [.sl 76 .u])] ?_
  repeat refine Or.inl ?_
  refine ⟨[], _, small71_fn, ?_⟩
  repeat refine Or.inl ?_
  refine ⟨[], _, fewAll_fn l hl 20, ?_⟩
  refine ⟨fun h => RetIs.b rfl, fun h => ?_⟩
  have h : (!fewAll l 20) = false := h
  rw [Bool.not_eq_false'] at h
  obtain ⟨hn, hfe⟩ := fewAll_of h
  have hev : ∀ k, k < l.length → (l.getD k dE).cs.length ≤ 10 ∧ (l.getD k dE).fs.length ≤ 10 ∧ (l.getD k dE).x.size ≤ 300 := fun k hk => few_ev (hfe _ (getD_memE hk))
  have aoD0 : AOEq (delO []) (delO []) := AOEq.refl _
  have aoF0 : AOEq (.row 36 1 (fstL []).length (rL (fstL []))) (.row 36 1 0 fun _ => []) := ⟨rfl, rfl, rfl, fun k hk => absurd hk (Nat.not_lt_zero k)⟩
  refine Or.inr (Or.inr ?_)
  refine ⟨true, [], rfl, Unit, _, _, _, _, new_fn, fun _ _ => ?_⟩
  repeat refine Or.inl ?_
  refine ⟨fun h => (by cases h), fun _ => ?_⟩
  repeat refine Or.inl ?_
  refine ⟨[], Nat, fun j => j ≤ l.length, fun j => [⟨6, [], .i .i64 j⟩, ⟨5, [], .so 5⟩],
    fun j => [⟨0, [], .cells 182 [.so 1, .mo 2, .mo 4]⟩, ⟨1, [], rowO (cvTo l j)⟩, ⟨2, [], ownO (cvTo l j) 3⟩, ⟨3, [], .dead⟩, ⟨4, [], delO (cvTo l j)⟩, ⟨5, [], .row 36 1 (fstL (cvTo l j)).length (rL (fstL (cvTo l j)))⟩], fun j => l.length - j,
    ⟨0, [], Nat.zero_le _, rfl, rfl, rfl, rfl, rfl, ⟨⟨rfl, rfl⟩, rfl⟩, ⟨AOEq.refl _, AOEq.refl _, AOEq.own _ _, AOEq.refl _, aoD0, aoF0⟩⟩, ?_⟩
  intro j hj
  have hj : j ≤ l.length := hj
  have hF := cvTo_cok l j
  have hFl := cvTo_le l j
  have hfl := fst_len (cvTo l j)
  refine .inl ⟨fun hc => ?_, fun hc => ?_⟩
  · have hc := dlt hc
    have hc : (j : Int) < l.length := hc
    have ej : (j : Int).toNat = j := Int.toNat_natCast j
    have he := hev (j : Int).toNat (by omega)
    have hsn : cvTo l (j + 1) = (addC (cvTo l j) (l.getD (j : Int).toNat dE)).1 := by rw [ej]; exact cvTo_snoc (by omega)
    have hF' := addC_cok hF (l.getD (j : Int).toNat dE)
    have aoR : AOEq (rowO (cvTo l (j + 1))) (rowO (addC (cvTo l j) (l.getD (j : Int).toNat dE)).1) := by rw [hsn]; exact AOEq.refl _
    have aoO : AOEq (ownO (cvTo l (j + 1)) 7) (ownO (addC (cvTo l j) (l.getD (j : Int).toNat dE)).1 7) := by rw [hsn]; exact AOEq.own _ _
    have aoD : AOEq (delO (cvTo l (j + 1))) (delO (addC (cvTo l j) (l.getD (j : Int).toNat dE)).1) := by rw [hsn]; exact AOEq.refl _
    repeat refine Or.inl ?_
    refine ⟨[], _, len_fn (cvTo l j), ?_⟩
    repeat refine Or.inl ?_
    refine ⟨⟨by omega, by omega⟩, ?_⟩
    refine Or.inr (Or.inr ?_)
    refine ⟨true, [0, 1, 2, 3, 4], rfl, Unit, _, _, _, _, add_fn (cvTo l j) hF.ok (l.getD (j : Int).toNat dE) (by omega) (by omega), fun _ _ => ?_⟩
    repeat refine Or.inl ?_
    refine ⟨[], _, len_fn (addC (cvTo l j) (l.getD (j : Int).toNat dE)).1, ?_⟩
    repeat refine Or.inl ?_
    refine ⟨fun h1 => ?_, fun h1 => ?_⟩
    · have h1 : decide (((addC (cvTo l j) (l.getD (j : Int).toNat dE)).1.length : Int) > ((cvTo l j).length : Int)) = true := h1
      rw [decide_eq_true_eq] at h1
      have hpl := past_len hF' ((cvTo l j).length : Int)
      have hsh : (addC (cvTo l j) (l.getD (j : Int).toNat dE)).1 = cvTo l j ++ [l.getD (j : Int).toNat dE] := by
        rcases addC_shape (E := cvTo l j) (e := l.getD (j : Int).toNat dE) with h | ⟨h, _⟩
        · rw [h] at h1; omega
        · rw [h]
      have hfs : fstL (cvTo l (j + 1)) = fstL (cvTo l j) ++ [pastL (addC (cvTo l j) (l.getD (j : Int).toNat dE)).1 ((cvTo l j).length : Int)] := by
        rw [hsn, hsh]
        have hw := hF'.wf
        rw [hsh] at hw
        exact fst_snoc hw
      have aoF : AOEq (.row 36 1 (fstL (cvTo l (j + 1))).length (rL (fstL (cvTo l (j + 1))))) (.row 36 1 ((fstL (cvTo l j)).length + 1) (catG (fstL (cvTo l j)).length (rL (fstL (cvTo l j))) (rowOf 1 [.rs 1 (pastL (addC (cvTo l j) (l.getD (j : Int).toNat dE)).1 ((cvTo l j).length : Int)).length (rI (pastL (addC (cvTo l j) (l.getD (j : Int).toNat dE)).1 ((cvTo l j).length : Int)))]))) := by
        rw [hfs]; exact snocL_row _ _
      repeat refine Or.inl ?_
      refine ⟨[], _, (past_fn (addC (cvTo l j) (l.getD (j : Int).toNat dE)).1 hF' ((cvTo l j).length : Int)).frz, ?_⟩
      repeat refine Or.inl ?_
      refine ⟨fits (by omega), ?_⟩
      refine ⟨j + 1, [(1, 6), (3, 7), (5, 9)], (by show j + 1 ≤ l.length; omega), by dsimp only; omega, rfl, rfl, rfl, rfl, rfl, ⟨⟨rfl, wr (by omega) (by omega)⟩, rfl⟩, ⟨AOEq.refl _, aoR, aoO, AOEq.refl _, aoD, aoF⟩⟩
    · have h1 : decide (((addC (cvTo l j) (l.getD (j : Int).toNat dE)).1.length : Int) > ((cvTo l j).length : Int)) = false := h1
      rw [decide_eq_false_iff_not] at h1
      have hsh : (addC (cvTo l j) (l.getD (j : Int).toNat dE)).1 = cvTo l j := by
        rcases addC_shape (E := cvTo l j) (e := l.getD (j : Int).toNat dE) with h | ⟨h, _⟩
        · exact h
        · rw [h, List.length_append, List.length_singleton] at h1; omega
      have aoF : AOEq (.row 36 1 (fstL (cvTo l (j + 1))).length (rL (fstL (cvTo l (j + 1))))) (.row 36 1 (fstL (cvTo l j)).length (rL (fstL (cvTo l j)))) := by
        rw [hsn, hsh]; exact AOEq.refl _
      refine ⟨j + 1, [(1, 6), (3, 7)], (by show j + 1 ≤ l.length; omega), by dsimp only; omega, rfl, rfl, rfl, rfl, rfl, ⟨⟨rfl, wr (by omega) (by omega)⟩, rfl⟩, ⟨AOEq.refl _, aoR, aoO, AOEq.refl _, aoD, aoF⟩⟩
  · refine Or.inr (Or.inr ?_)
    refine ⟨true, [0, 1, 2, 3, 4], rfl, Unit, _, _, _, _, all_fn (cvTo l j) hF.ok, fun _ _ => ?_⟩
    repeat refine Or.inl ?_
    refine ⟨fun h1 => ?_, fun _ => ?_⟩
    · exfalso
      have h1 : (((cvTo l j).length : Int) != ((fstL (cvTo l j)).length : Int)) = true := h1
      rw [hfl] at h1
      simp at h1
    have hEl := hF.ok.1
    repeat refine Or.inl ?_
    refine ⟨[], Nat, fun i => i ≤ (cvTo l j).length, fun i => [⟨9, [], .i .i64 i⟩], fun _ => [], fun i => (cvTo l j).length - i,
      ⟨0, [], Nat.zero_le _, rfl, rfl, rfl, rfl, rfl, ⟨rfl, rfl⟩, trivial⟩, ?_⟩
    intro i hi
    have hi : i ≤ (cvTo l j).length := hi
    refine .inl ⟨fun hc2 => ?_, fun _ => RetIs.b rfl⟩
    have hc2 := dlt hc2
    have hc2 : (i : Int) < (cvTo l j).length := hc2
    have ei : (i : Int).toNat = i := Int.toNat_natCast i
    have hm := hF.ok.2 _ (getD_memE (l := (cvTo l j)) (k := (i : Int).toNat) (by omega))
    have hmc := hm.cs.1
    have hpl := past_len hF (i : Int)
    have ao0 : AOEq (.row 3 1 (nmK (cvTo l j) ((cvTo l j).getD (i : Int).toNat dE) 0).length (rI (nmK (cvTo l j) ((cvTo l j).getD (i : Int).toNat dE) 0))) (.row 3 1 (2 + ((cvTo l j).getD (i : Int).toNat dE).cs.length) (catG 2 (rowOf 1 [.i .i64 ((cvTo l j).getD (i : Int).toNat dE).t, .i .i64 ((cvTo l j).getD (i : Int).toNat dE).q]) (rI ((cvTo l j).getD (i : Int).toNat dE).cs))) := by
      rw [nmK_zero]
      exact ⟨rfl, rfl, by simp; omega, fun k hk => two_rows _ _ _ k hk⟩
    repeat refine Or.inl ?_
    refine ⟨_, _, past_fn (cvTo l j) hF (i : Int), ?_⟩
    repeat refine Or.inl ?_
    refine ⟨⟨by omega, by omega⟩, by omega, ?_⟩
    repeat refine Or.inl ?_
    refine ⟨fits (by omega), ?_⟩
    refine ⟨trivial, ?_⟩
    have hs0 := hm.s
    have hwr : IntKind.i64.wrap (((cvTo l j).getD (i : Int).toNat dE).s - 1) = ((cvTo l j).getD (i : Int).toNat dE).s - 1 := wr (by omega) (by omega)
    repeat refine Or.inl ?_
    refine ⟨[], Nat, fun k => k ≤ i, fun k => [⟨13, [], .i .i64 k⟩, ⟨12, [], .so 10⟩], fun k => [⟨10, [], .row 3 1 (nmK (cvTo l j) ((cvTo l j).getD (i : Int).toNat dE) k).length (rI (nmK (cvTo l j) ((cvTo l j).getD (i : Int).toNat dE) k))⟩], fun k => i - k,
      ⟨0, [], Nat.zero_le _, rfl, rfl, rfl, rfl, rfl, ⟨⟨rfl, rfl⟩, rfl⟩, ao0⟩, ?_⟩
    intro k hk
    have hk : k ≤ i := hk
    have hnl := nmK_len (cvTo l j) ((cvTo l j).getD (i : Int).toNat dE) k
    refine .inl ⟨fun hc3 => ?_, fun hc3 => ?_⟩
    · have hc3 : decide ((k : Int) < (i : Int)) = true := hc3
      rw [decide_eq_true_eq] at hc3
      have ek : (k : Int).toNat = k := Int.toNat_natCast k
      have hsu := nmK_succ (cvTo l j) ((cvTo l j).getD (i : Int).toNat dE) k
      repeat refine Or.inl ?_
      refine ⟨⟨by omega, by omega⟩, by omega, ?_⟩
      refine ⟨fun _ => ⟨by omega, by omega⟩, fun _ => by omega, ?_⟩
      refine ⟨fun h1 => ?_, fun h1 => ?_⟩
      · have h1 : (((((cvTo l j).getD (k : Int).toNat dE).a == ((cvTo l j).getD (i : Int).toNat dE).a)) && (((cvTo l j).getD (k : Int).toNat dE).s == IntKind.i64.wrap (((cvTo l j).getD (i : Int).toNat dE).s - 1))) = true := h1
        rw [hwr, ek] at h1
        rw [if_pos (show preB (cvTo l j) ((cvTo l j).getD (i : Int).toNat dE) k = true from h1)] at hsu
        have aoN : AOEq (.row 3 1 (nmK (cvTo l j) ((cvTo l j).getD (i : Int).toNat dE) (k + 1)).length (rI (nmK (cvTo l j) ((cvTo l j).getD (i : Int).toNat dE) (k + 1)))) (.row 3 1 ((nmK (cvTo l j) ((cvTo l j).getD (i : Int).toNat dE) k).length + 1) (catG (nmK (cvTo l j) ((cvTo l j).getD (i : Int).toNat dE) k).length (rI (nmK (cvTo l j) ((cvTo l j).getD (i : Int).toNat dE) k)) (rowOf 1 [.i .i64 (k : Int)]))) := by rw [hsu]; exact snocN_row 3 _ _
        repeat refine Or.inl ?_
        refine ⟨fits (by omega), ?_⟩
        exact ⟨k + 1, [(10, 12)], (by show k + 1 ≤ i; omega), by dsimp only; omega, rfl, rfl, rfl, rfl, rfl, ⟨⟨rfl, wr (by omega) (by omega)⟩, rfl⟩, aoN⟩
      · have h1 : (((((cvTo l j).getD (k : Int).toNat dE).a == ((cvTo l j).getD (i : Int).toNat dE).a)) && (((cvTo l j).getD (k : Int).toNat dE).s == IntKind.i64.wrap (((cvTo l j).getD (i : Int).toNat dE).s - 1))) = false := h1
        rw [hwr, ek] at h1
        rw [if_neg (by rw [show preB (cvTo l j) ((cvTo l j).getD (i : Int).toNat dE) k = false from h1]; decide)] at hsu
        have aoN : AOEq (.row 3 1 (nmK (cvTo l j) ((cvTo l j).getD (i : Int).toNat dE) (k + 1)).length (rI (nmK (cvTo l j) ((cvTo l j).getD (i : Int).toNat dE) (k + 1)))) (.row 3 1 (nmK (cvTo l j) ((cvTo l j).getD (i : Int).toNat dE) k).length (rI (nmK (cvTo l j) ((cvTo l j).getD (i : Int).toNat dE) k))) := by rw [hsu]; exact AOEq.refl _
        exact ⟨k + 1, [], (by show k + 1 ≤ i; omega), by dsimp only; omega, rfl, rfl, rfl, rfl, rfl, ⟨⟨rfl, wr (by omega) (by omega)⟩, rfl⟩, aoN⟩
    have hc3 : decide ((k : Int) < (i : Int)) = false := hc3
    rw [decide_eq_false_iff_not] at hc3
    have hki : i = k := by omega
    subst hki
    repeat refine Or.inl ?_
    refine ⟨[], Nat, fun k => k ≤ (cvTo l j).length, fun k => [⟨14, [], .i .i64 k⟩], fun _ => [], fun k => (cvTo l j).length - k,
      ⟨0, [], Nat.zero_le _, rfl, rfl, rfl, rfl, rfl, ⟨rfl, rfl⟩, trivial⟩, ?_⟩
    intro k hk
    have hk : k ≤ (cvTo l j).length := hk
    refine .inl ⟨fun hc4 => ?_, fun hc4 => ?_⟩
    · have hc4 := dlt hc4
      have hc4 : (k : Int) < (cvTo l j).length := hc4
      repeat refine Or.inl ?_
      refine ⟨[], _, has84_fn (nmK (cvTo l j) ((cvTo l j).getD (i : Int).toNat dE) i) (by omega) (k : Int), ?_⟩
      have th0 := thr_zero (cvTo l j) i (k : Int)
      have hths := fun m => thr_succ (E := (cvTo l j)) (i := i) (k := (k : Int)) (m := m)
      have hall := thr_all hF (i := i) (by omega) (k := (k : Int)) (by omega)
      have hgo : (cvTo l j).getD i dE = ((cvTo l j).getD (i : Int).toNat dE) := by rw [ei]
      rw [hgo] at th0 hths hall
      repeat refine Or.inl ?_
      refine ⟨[], Nat, fun m => m ≤ (nmK (cvTo l j) ((cvTo l j).getD (i : Int).toNat dE) i).length, fun m => [⟨16, [], .i .i64 m⟩, ⟨15, [], .b (thr (cvTo l j) i (k : Int) m)⟩], fun _ => [], fun m => (nmK (cvTo l j) ((cvTo l j).getD (i : Int).toNat dE) i).length - m,
        ⟨0, [], Nat.zero_le _, rfl, rfl, rfl, rfl, rfl, ⟨⟨rfl, rfl⟩, th0.symm⟩, trivial⟩, ?_⟩
      intro m hm
      have hm : m ≤ (nmK (cvTo l j) ((cvTo l j).getD (i : Int).toNat dE) i).length := hm
      refine .inl ⟨fun hc5 => ?_, fun hc5 => ?_⟩
      · have hc5 := dlt hc5
        have hc5 : (m : Int) < (nmK (cvTo l j) ((cvTo l j).getD (i : Int).toNat dE) i).length := hc5
        have em : (m : Int).toNat = m := Int.toNat_natCast m
        repeat refine Or.inl ?_
        refine ⟨fun _ => ⟨by omega, by omega⟩, fun _ => by omega, ?_⟩
        refine ⟨fun _ => ⟨by omega, by omega⟩, fun _ => by omega, ?_⟩
        refine Or.inl ?_
        unfold stepS
        dsimp only
        rw [show tagsOf _ _ _ = some [(127, true), (121, false)] from rfl]
        dsimp only
        unfold stepA
        dsimp only
        rw [show evalO _ _ (Operand.func 85) = some (.fn 85 []) from rfl]
        unfold withA
        dsimp only
        unfold evsK
        rw [show evalO _ _ (Operand.tmp 128) = some (.p 0 0) from rfl]
        unfold withA
        dsimp only
        unfold evsK
        rw [show evalO _ _ (Operand.tmp 129) = some (.i .i64 (k : Int)) from rfl]
        unfold withA
        dsimp only
        unfold evsK
        rw [show evalO _ _ (Operand.tmp 133) = some (.i .i64 ((nmK (cvTo l j) ((cvTo l j).getD (i : Int).toNat dE) i).getD (m : Int).toNat 0)) from rfl]
        unfold withA
        dsimp only
        unfold evsK
        unfold callA
        dsimp only
        refine Or.inl ?_
        refine ⟨[], _, fun _ => before_fn (cvTo l j) hF (k : Int) ((nmK (cvTo l j) ((cvTo l j).getD (i : Int).toNat dE) i).getD (m : Int).toNat 0), ?_⟩
        have hv : (thr (cvTo l j) i (k : Int) m || (decide ((nmK (cvTo l j) ((cvTo l j).getD (i : Int).toNat dE) i).getD (m : Int).toNat 0 ≥ 0) && decide ((k : Int) ∈ pastL (cvTo l j) ((nmK (cvTo l j) ((cvTo l j).getD (i : Int).toNat dE) i).getD (m : Int).toNat 0)))) = thr (cvTo l j) i (k : Int) (m + 1) := by
          rw [em]; exact (hths m (by omega)).symm
        exact ⟨m + 1, [], (by show m + 1 ≤ (nmK (cvTo l j) ((cvTo l j).getD (i : Int).toNat dE) i).length; omega), by omega, rfl, rfl, rfl, rfl, rfl, ⟨⟨rfl, wr (by omega) (by omega)⟩, hv⟩, trivial⟩
      · have hc5 := dnlt hc5
        have hme : m = (nmK (cvTo l j) ((cvTo l j).getD (i : Int).toNat dE) i).length := by
          have hc5 : ((nmK (cvTo l j) ((cvTo l j).getD (i : Int).toNat dE) i).length : Int) ≤ m := hc5
          omega
        repeat refine Or.inl ?_
        refine ⟨[], _, has84_fn (pastL (cvTo l j) (i : Int)) (by omega) (k : Int), ?_⟩
        repeat refine Or.inl ?_
        refine ⟨[], _, fun _ => before_fn (cvTo l j) hF (k : Int) (i : Int), ?_⟩
        repeat refine Or.inl ?_
        refine ⟨fun h6 => ?_, fun _ => ?_⟩
        · exfalso
          have h6 : (((decide ((k : Int) ∈ pastL (cvTo l j) (i : Int)) != thr (cvTo l j) i (k : Int) m) || (decide ((k : Int) ∈ pastL (cvTo l j) (i : Int)) != thr (cvTo l j) i (k : Int) m)) || (thr (cvTo l j) i (k : Int) m && decide ((k : Int) ≥ (i : Int)))) = true := h6
          rw [hme, hall] at h6
          simp only [bne_self_eq_false, Bool.false_or, Bool.or_self, Bool.and_eq_true, decide_eq_true_eq] at h6
          have := past_lt hF h6.1
          omega
        · exact ⟨k + 1, [], (by show k + 1 ≤ (cvTo l j).length; omega), by dsimp only; omega, rfl, rfl, rfl, rfl, rfl, ⟨rfl, wr (by omega) (by omega)⟩, trivial⟩
    · have hfg := fst_getD (E := (cvTo l j)) (i := (i : Int).toNat) (by omega)
      have hfl2 : ((fstL (cvTo l j)).getD (i : Int).toNat []).length < 2^62 := by rw [hfg, ei]; omega
      repeat refine Or.inl ?_
      refine ⟨⟨by omega, by omega⟩, by omega, ?_⟩
      repeat refine Or.inl ?_
      refine ⟨[], _, ints82_fn (pastL (cvTo l j) (i : Int)) ((fstL (cvTo l j)).getD (i : Int).toNat []) (by omega) hfl2, ?_⟩
      repeat refine Or.inl ?_
      refine ⟨fun h6 => ?_, fun _ => ?_⟩
      · exfalso
        have h6 : (!decide (pastL (cvTo l j) (i : Int) = (fstL (cvTo l j)).getD (i : Int).toNat [])) = true := h6
        rw [hfg, ei, decide_eq_true rfl] at h6
        cases h6
      · exact ⟨i + 1, [], (by show i + 1 ≤ (cvTo l j).length; omega), by dsimp only; omega, rfl, rfl, rfl, rfl, rfl, ⟨rfl, wr (by omega) (by omega)⟩, trivial⟩
end Go.Proofs.Ytnookbebiacaeaa
end
