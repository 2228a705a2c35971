/-
  Groups: GroupStays.
-/
import Derived.Test.YtklmfkejgjhneaaG6
namespace Go.Proofs.Ytklmfkejgjhneaa
open Go.Eng

theorem stays_at {e : Nat → Ev} {n i : Nat} (h : i < (stays e n).length) : ∃ x, x < n ∧ startP e x = true ∧ (stays e n).getD i dS = mkS e n x ∧
    ∀ j, j < i → ∃ y, y < x ∧ startP e y = true ∧ (stays e n).getD j dS = mkS e n y := by
  obtain ⟨x, h1, h2, h3, h4⟩ := stays_get h
  refine ⟨x, h1, h2, h3, fun j hj => ?_⟩
  obtain ⟨y, h5, h6, h7, h8⟩ := stays_get (show j < (stays e n).length by omega)
  refine ⟨y, ?_, h6, h7⟩
  have hl : (stays e n).length = (starts e n).length := by unfold stays; simp
  have := List.pairwise_iff_getElem.1 (starts_asc e n) j i (by omega) (by omega) hj
  rw [← h4, ← h8]
  simpa [List.getD, show i < (starts e n).length by omega, show j < (starts e n).length by omega] using this
def aliveP (g t : Int) (N : Nat) (s : Sta) : Bool := !((s.grp != g || decide (s.fr ≥ t)) || (decide (s.to ≥ 0) && decide (s.to < min t N)))
theorem alive_map (e : Nat → Ev) (g t : Int) (N m : Nat) (hm : (m : Int) = max 0 (min t N)) : ((stays e N).filter (aliveP g t N)).map Sta.acc = membL e g m := by
  obtain ⟨rest, h1, h2⟩ := starts_split e m N (by omega)
  unfold membL stays
  rw [h1, List.map_append, List.filter_append]
  have hr : (rest.map (mkS e N)).filter (aliveP g t N) = [] := by
    rw [List.filter_eq_nil_iff]
    intro s hs
    rw [List.mem_map] at hs
    obtain ⟨i, hi, rfl⟩ := hs
    have h3 := h2 i hi
    unfold aliveP mkS
    rw [decide_eq_true (show (i : Int) ≥ t by omega)]
    simp
  rw [hr, List.append_nil, List.filter_map, List.filter_map, List.map_map, List.map_map]
  have hf : (starts e m).filter (aliveP g t N ∘ mkS e N) = (starts e m).filter (openA g ∘ mkS e m) := by
    apply List.filter_congr
    intro i hi
    have h3 := (mem_starts.1 hi).1
    show aliveP g t N (mkS e N i) = openA g (mkS e m i)
    unfold aliveP openA mkS
    dsimp only
    rw [decide_eq_false (show ¬ (i : Int) ≥ t by omega), Bool.or_false, Bool.not_or, Bool.eq_iff_iff]
    simp only [Bool.and_eq_true, Bool.not_eq_true', bne_eq_false_iff_eq, Bool.and_eq_false_iff, decide_eq_false_iff_not, beq_iff_eq]
    refine and_congr_right fun _ => ?_
    by_cases h0 : endN e (e i).who (e i).group (i + 1) m = -1
    · refine ⟨fun _ => h0, fun _ => ?_⟩
      by_cases hN : endN e (e i).who (e i).group (i + 1) N = -1
      · left; omega
      · obtain ⟨q, h4, h5, h6⟩ := endN_later e _ _ _ m N h0 hN
        right; omega
    · refine ⟨fun h => ?_, fun h => (h0 h).elim⟩
      exfalso
      rw [endN_grow e _ _ _ m h0 N (by omega)] at h
      obtain ⟨q, h4, h5, h6, _⟩ := endN_some e _ _ _ m h0
      omega
  rw [hf]
  rfl
theorem filter_takeD (p : Sta → Bool) (S : List Sta) (k : Nat) (h : k < S.length) : (S.take (k + 1)).filter p = if p (S.getD k dS) = true then (S.take k).filter p ++ [S.getD k dS] else (S.take k).filter p := by
  rw [List.take_succ_eq_append_getElem h, List.filter_append]
  have e : S.getD k dS = S[k] := by simp [List.getD, h]
  rw [e, List.filter_cons]
  split <;> simp

set_option maxRecDepth 20000 in
set_option maxHeartbeats 4000000 in
theorem groupStays_fn (l : List Ev) (hwf : ∀ x ∈ l, (Lit.int .i64 x.who).wf = true) (g t : Int) :
    Ctr Try.prog 4 [.rs 12 l.length (rowsE l), .i .i64 g, .i .i64 t] [] (.b true) := by
  refine fn_of_exec tabOk Try.func4 (by kernel_rfl) rfl (N := Try.f4.ntmps) rfl (res := [.tmp 6]) rfl rfl [] ?_
  refine .inl ⟨[], _, smallG_fn, ?_⟩
  repeat refine Or.inl ?_
  refine ⟨fun hf => RetIs.b rfl, fun hf => ?_⟩
  have hf : decide ((l.length : Int) > 60) = false := hf
  rw [decide_eq_false_iff_not] at hf
  have hl : l.length < 1000000 := by omega
  have hcl := cut_le l t
  refine .inl ⟨_, _, Stays_fn l hl, ?_⟩
  refine .inl ⟨_, _, Members_fn l hl hwf g t, ?_⟩
  have hsl := stays_len (evs l) l.length
  have hat := fun i (h : i < (stays (evs l) l.length).length) => stays_at h
  have hal := alive_map (evs l) g t l.length (cut l t) (by unfold cut; omega)
  have hA := Memb_asc (evs l) g (cut l t)
  have hcount : (Memb (evs l) g (cut l t)).length = ((stays (evs l) l.length).filter (aliveP g t l.length)).length := by
    rw [Memb_length, ← hal, List.length_map]
  have hin : ∀ s ∈ stays (evs l) l.length, aliveP g t l.length s = true → s.acc ∈ Memb (evs l) g (cut l t) := fun s hs hp => by
    rw [mem_Memb, ← mem_membL, ← hal, List.mem_map]
    exact ⟨s, List.mem_filter.2 ⟨hs, hp⟩, rfl⟩
  have hml := Memb_len (evs l) g (cut l t)
  generalize hSe : stays (evs l) l.length = S at *
  generalize Memb (evs l) g (cut l t) = M at *
  refine .inl ⟨[], Nat, fun i => i ≤ S.length, fun i => [⟨11, [], .i .i64 i⟩, ⟨10, [], .i .i64 (((S.take i).filter (aliveP g t l.length)).length : Int)⟩], fun _ => [], fun i => S.length - i,
    ⟨0, [], Nat.zero_le _, rfl, rfl, rfl, rfl, rfl, ⟨⟨rfl, rfl⟩, rfl, rfl⟩, trivial⟩, ?_⟩
  intro i hi
  refine .inl ⟨fun hc => ?_, fun hc => ?_⟩
  · have hc := dlt hc
    have ei : (i : Int).toNat = i := Int.toNat_natCast i
    have w : IntKind.i64.wrap ((i : Int) + 1) = ((i + 1 : Nat) : Int) := wr (by omega) (by omega)
    have wm : 0 < i → IntKind.i64.wrap ((i : Int) - 1) = (i : Int) - 1 := fun _ => wr (by omega) (by omega)
    have hlen : ((S.take i).filter (aliveP g t l.length)).length ≤ i := by
      refine Nat.le_trans (List.length_filter_le _ _) ?_
      simp
      omega
    have hfil := filter_takeD (aliveP g t l.length) S i (by omega)
    have hmem : S.getD i dS ∈ S := getD_memD dS (by omega)
    obtain ⟨x, hx1, hx2, hx3, hx4⟩ := hat i (by omega)
    have hx3 : (S.getD (i : Int).toNat dS) = mkS (evs l) l.length x := by rw [ei]; exact hx3
    have hfr : (S.getD (i : Int).toNat dS).fr = x := by rw [hx3]; rfl
    have hto : (S.getD (i : Int).toNat dS).to = endN (evs l) (evs l x).who (evs l x).group (x + 1) l.length := by rw [hx3]; rfl
    have hacc : (S.getD (i : Int).toNat dS).acc = (evs l x).who := by rw [hx3]; rfl
    have hgrp : (S.getD (i : Int).toNat dS).grp = (evs l x).group := by rw [hx3]; rfl
    have hend : ¬ (S.getD (i : Int).toNat dS).to = -1 → ∃ q : Nat, (S.getD (i : Int).toNat dS).to = q ∧ x < q ∧ q < l.length ∧ endsP (evs l q) (evs l x).who (evs l x).group = true := fun h0 => by
      rw [hto] at h0
      obtain ⟨q, h1, h2, h3, h4⟩ := endN_some _ _ _ _ _ h0
      exact ⟨q, by rw [hto, h1], by omega, h3, h4⟩
    have htn : (S.getD (i : Int).toNat dS).to = -1 ∨ ((x : Int) < (S.getD (i : Int).toNat dS).to ∧ (S.getD (i : Int).toNat dS).to < l.length) := by
      by_cases h0 : (S.getD (i : Int).toNat dS).to = -1
      · exact .inl h0
      · obtain ⟨q, h1, h2, h3, _⟩ := hend h0
        right
        omega
    have hk5 : (evs l x).kind = 5 := by
      unfold startP at hx2
      rw [Bool.and_eq_true, beq_iff_eq] at hx2
      exact hx2.1
    have hpr : 0 < i → (S.getD (i - 1) dS).fr < x := fun h => by
      obtain ⟨y, h1, _, h3⟩ := hx4 (i - 1) (by omega)
      rw [h3]
      show (y : Int) < x
      omega
    have hap : ∀ j, j < i → (S.getD j dS).acc = (evs l x).who → (S.getD j dS).grp = (evs l x).group → 0 ≤ (S.getD j dS).to ∧ (S.getD j dS).to < x := fun j hj h1 h2 => by
      obtain ⟨y, h3, h4, h5⟩ := hx4 j hj
      rw [h5] at h1 h2 ⊢
      obtain ⟨q, h6, h7, h8⟩ := apart h4 hx2 h3 h1 h2 (show x ≤ l.length by omega)
      show 0 ≤ endN (evs l) (evs l y).who (evs l y).group (y + 1) l.length ∧ endN (evs l) (evs l y).who (evs l y).group (y + 1) l.length < x
      rw [h6]
      omega
    have hev : (l.getD (S.getD (i : Int).toNat dS).fr.toNat dE) = evs l x := by rw [hfr]; rfl
    repeat refine Or.inl ?_
    refine ⟨⟨by omega, by omega⟩, by omega, ?_⟩
    repeat refine Or.inl ?_
    refine ⟨fun hg => ?_, fun hg => ?_, ⟨fun h2 => ?_, fun _ => ?_⟩⟩
    · have hg : decide ((i : Int) > 0) = true := hg.1
      have := of_decide_eq_true hg
      rw [wm (by omega)]
      omega
    · have hg : decide ((i : Int) > 0) = true := hg.1
      have := of_decide_eq_true hg
      rw [wm (by omega)]
      omega
    · exfalso
      have h2 : (((((decide ((S.getD (i : Int).toNat dS).fr < 0) || decide ((S.getD (i : Int).toNat dS).fr ≥ l.length)) || decide ((S.getD (i : Int).toNat dS).to < -1)) || decide ((S.getD (i : Int).toNat dS).to ≥ l.length)) || (decide ((S.getD (i : Int).toNat dS).to ≥ 0) && decide ((S.getD (i : Int).toNat dS).to ≤ (S.getD (i : Int).toNat dS).fr))) || (decide ((i : Int) > 0) && decide ((S.getD (IntKind.i64.wrap ((i : Int) - 1)).toNat dS).fr ≥ (S.getD (i : Int).toNat dS).fr))) = true := h2
      simp only [Bool.or_eq_true, Bool.and_eq_true, decide_eq_true_eq] at h2
      rcases h2 with ((((h3 | h3) | h3) | h3) | h3) | ⟨h3, h4⟩
      · omega
      · omega
      · omega
      · omega
      · omega
      · have h5 := hpr (by omega)
        rw [wm (by omega)] at h4
        have e1 : ((i : Int) - 1).toNat = i - 1 := by omega
        rw [e1, hfr] at h4
        omega
    repeat refine Or.inl ?_
    refine ⟨⟨by omega, by omega⟩, fun _ => ⟨by omega, by omega⟩, fun _ => ⟨by omega, by omega⟩, ⟨fun h2 => ?_, fun _ => ?_⟩⟩
    · exfalso
      have h2 : (((l.getD (S.getD (i : Int).toNat dS).fr.toNat dE).kind != 5 || (l.getD (S.getD (i : Int).toNat dS).fr.toNat dE).who != (S.getD (i : Int).toNat dS).acc) || (l.getD (S.getD (i : Int).toNat dS).fr.toNat dE).group != (S.getD (i : Int).toNat dS).grp) = true := h2
      rw [hev, hacc, hgrp, hk5] at h2
      simp at h2
    repeat refine Or.inl ?_
    refine ⟨fun h2 => ?_, fun h2 => ?_⟩
    · have h2 : decide ((S.getD (i : Int).toNat dS).to ≥ 0) = true := h2
      rw [decide_eq_true_eq] at h2
      obtain ⟨q, hq1, hq2, hq3, hq4⟩ : ∃ q : Nat, (S.getD (i : Int).toNat dS).to = q ∧ x < q ∧ q < l.length ∧ endsP (evs l q) (evs l x).who (evs l x).group = true := hend (by omega)
      have hew : (l.getD (S.getD (i : Int).toNat dS).to.toNat dE) = evs l q := by rw [hq1]; rfl
      refine ⟨⟨by omega, by omega⟩, ?_⟩
      repeat refine Or.inl ?_
      refine ⟨fun h3 => ?_, fun _ => ?_⟩
      · exfalso
        have h3 : ((l.getD (S.getD (i : Int).toNat dS).to.toNat dE).group != (S.getD (i : Int).toNat dS).grp || (!((l.getD (S.getD (i : Int).toNat dS).to.toNat dE).kind == 6 && (l.getD (S.getD (i : Int).toNat dS).to.toNat dE).author == (S.getD (i : Int).toNat dS).acc) && !((l.getD (S.getD (i : Int).toNat dS).to.toNat dE).kind == 7 && (l.getD (S.getD (i : Int).toNat dS).to.toNat dE).who == (S.getD (i : Int).toNat dS).acc))) = true := h3
        rw [hew, hacc, hgrp] at h3
        unfold endsP at hq4
        simp only [Bool.and_eq_true, Bool.or_eq_true, beq_iff_eq, bne_iff_ne, Bool.not_eq_true', Bool.and_eq_false_iff, beq_eq_false_iff_ne] at hq4 h3
        omega
      repeat refine Or.inl ?_
      refine ⟨[], Nat, fun j => j ≤ i, fun j => [⟨16, [], .i .i64 j⟩], fun _ => [], fun j => i - j,
        ⟨0, [], Nat.zero_le _, rfl, rfl, rfl, rfl, rfl, ⟨rfl, rfl⟩, trivial⟩, ?_⟩
      intro j hj
      have ej : (j : Int).toNat = j := Int.toNat_natCast j
      refine .inl ⟨fun hc2 => ?_, fun hc2 => ?_⟩
      · have hc2 := dlt hc2
        repeat refine Or.inl ?_
        refine ⟨⟨by omega, by omega⟩, by omega, fun _ => by omega, fun _ => by omega, fun _ => by omega, fun _ => by omega, fun _ => by omega, fun _ => by omega, ⟨fun h2 => ?_, fun _ => ?_⟩⟩
        · exfalso
          have h2 : (((S.getD (j : Int).toNat dS).acc == (S.getD (i : Int).toNat dS).acc && (S.getD (j : Int).toNat dS).grp == (S.getD (i : Int).toNat dS).grp) && (decide ((S.getD (j : Int).toNat dS).to < 0) || decide ((S.getD (j : Int).toNat dS).to ≥ (S.getD (i : Int).toNat dS).fr))) = true := h2
          rw [hacc, hgrp, hfr, ej] at h2
          simp only [Bool.or_eq_true, Bool.and_eq_true, decide_eq_true_eq, beq_iff_eq] at h2
          have := hap j (by omega) h2.1.1 h2.1.2
          omega
        · exact ⟨j + 1, [], by dsimp only; omega, by dsimp only; omega, rfl, rfl, rfl, rfl, rfl, ⟨rfl, wr (by omega) (by omega)⟩, trivial⟩
      · repeat refine Or.inl ?_
        refine ⟨fun h2 => ?_, fun h2 => ?_⟩
        · have h2 : (((S.getD (i : Int).toNat dS).grp != g || decide ((S.getD (i : Int).toNat dS).fr ≥ t)) || (decide ((S.getD (i : Int).toNat dS).to ≥ 0) && decide ((S.getD (i : Int).toNat dS).to < min t l.length))) = true := h2
          have hp : aliveP g t l.length (S.getD i dS) = false := by
            rw [ei] at h2
            unfold aliveP
            rw [h2]
            rfl
          rw [if_neg (by rw [hp]; decide)] at hfil
          refine ⟨i + 1, [], by dsimp only; omega, by dsimp only; omega, rfl, rfl, rfl, rfl, rfl, ⟨⟨rfl, w⟩, rfl, ?_⟩, trivial⟩
          show (((S.take i).filter (aliveP g t l.length)).length : Int) = _
          rw [hfil]
        · have h2 : (((S.getD (i : Int).toNat dS).grp != g || decide ((S.getD (i : Int).toNat dS).fr ≥ t)) || (decide ((S.getD (i : Int).toNat dS).to ≥ 0) && decide ((S.getD (i : Int).toNat dS).to < min t l.length))) = false := h2
          have hp : aliveP g t l.length (S.getD i dS) = true := by
            rw [ei] at h2
            unfold aliveP
            rw [h2]
            rfl
          rw [if_pos hp] at hfil
          have hM := hin _ hmem hp
          repeat refine Or.inl ?_
          refine ⟨[], _, hasG_fn M (by omega) _, ⟨fun h3 => ?_, fun _ => ?_⟩⟩
          · exfalso
            have h3 : (!hasN M (S.getD (i : Int).toNat dS).acc) = true := h3
            rw [ei, hasN_iff.2 hM] at h3
            cases h3
          · refine ⟨i + 1, [], by dsimp only; omega, by dsimp only; omega, rfl, rfl, rfl, rfl, rfl, ⟨⟨rfl, w⟩, rfl, ?_⟩, trivial⟩
            show IntKind.i64.wrap ((((S.take i).filter (aliveP g t l.length)).length : Int) + 1) = _
            rw [hfil, wr (by omega) (by omega)]
            simp
    · repeat refine Or.inl ?_
      refine ⟨[], Nat, fun j => j ≤ i, fun j => [⟨16, [], .i .i64 j⟩], fun _ => [], fun j => i - j,
        ⟨0, [], Nat.zero_le _, rfl, rfl, rfl, rfl, rfl, ⟨rfl, rfl⟩, trivial⟩, ?_⟩
      intro j hj
      have ej : (j : Int).toNat = j := Int.toNat_natCast j
      refine .inl ⟨fun hc2 => ?_, fun hc2 => ?_⟩
      · have hc2 := dlt hc2
        repeat refine Or.inl ?_
        refine ⟨⟨by omega, by omega⟩, by omega, fun _ => by omega, fun _ => by omega, fun _ => by omega, fun _ => by omega, fun _ => by omega, fun _ => by omega, ⟨fun h2 => ?_, fun _ => ?_⟩⟩
        · exfalso
          have h2 : (((S.getD (j : Int).toNat dS).acc == (S.getD (i : Int).toNat dS).acc && (S.getD (j : Int).toNat dS).grp == (S.getD (i : Int).toNat dS).grp) && (decide ((S.getD (j : Int).toNat dS).to < 0) || decide ((S.getD (j : Int).toNat dS).to ≥ (S.getD (i : Int).toNat dS).fr))) = true := h2
          rw [hacc, hgrp, hfr, ej] at h2
          simp only [Bool.or_eq_true, Bool.and_eq_true, decide_eq_true_eq, beq_iff_eq] at h2
          have := hap j (by omega) h2.1.1 h2.1.2
          omega
        · exact ⟨j + 1, [], by dsimp only; omega, by dsimp only; omega, rfl, rfl, rfl, rfl, rfl, ⟨rfl, wr (by omega) (by omega)⟩, trivial⟩
      · repeat refine Or.inl ?_
        refine ⟨fun h2 => ?_, fun h2 => ?_⟩
        · have h2 : (((S.getD (i : Int).toNat dS).grp != g || decide ((S.getD (i : Int).toNat dS).fr ≥ t)) || (decide ((S.getD (i : Int).toNat dS).to ≥ 0) && decide ((S.getD (i : Int).toNat dS).to < min t l.length))) = true := h2
          have hp : aliveP g t l.length (S.getD i dS) = false := by
            rw [ei] at h2
            unfold aliveP
            rw [h2]
            rfl
          rw [if_neg (by rw [hp]; decide)] at hfil
          refine ⟨i + 1, [], by dsimp only; omega, by dsimp only; omega, rfl, rfl, rfl, rfl, rfl, ⟨⟨rfl, w⟩, rfl, ?_⟩, trivial⟩
          show (((S.take i).filter (aliveP g t l.length)).length : Int) = _
          rw [hfil]
        · have h2 : (((S.getD (i : Int).toNat dS).grp != g || decide ((S.getD (i : Int).toNat dS).fr ≥ t)) || (decide ((S.getD (i : Int).toNat dS).to ≥ 0) && decide ((S.getD (i : Int).toNat dS).to < min t l.length))) = false := h2
          have hp : aliveP g t l.length (S.getD i dS) = true := by
            rw [ei] at h2
            unfold aliveP
            rw [h2]
            rfl
          rw [if_pos hp] at hfil
          have hM := hin _ hmem hp
          repeat refine Or.inl ?_
          refine ⟨[], _, hasG_fn M (by omega) _, ⟨fun h3 => ?_, fun _ => ?_⟩⟩
          · exfalso
            have h3 : (!hasN M (S.getD (i : Int).toNat dS).acc) = true := h3
            rw [ei, hasN_iff.2 hM] at h3
            cases h3
          · refine ⟨i + 1, [], by dsimp only; omega, by dsimp only; omega, rfl, rfl, rfl, rfl, rfl, ⟨⟨rfl, w⟩, rfl, ?_⟩, trivial⟩
            show IntKind.i64.wrap ((((S.take i).filter (aliveP g t l.length)).length : Int) + 1) = _
            rw [hfil, wr (by omega) (by omega)]
            simp
  · have hc := dnlt hc
    have hi2 : S.take i = S := List.take_of_length_le (by omega)
    rw [hi2, ← hcount]
    refine .inl ⟨[], Nat, fun q => 1 ≤ q ∧ q ≤ M.length + 1, fun q => [⟨17, [], .i .i64 q⟩], fun _ => [], fun q => M.length + 1 - q,
      ⟨1, [], ⟨Nat.le_refl _, by omega⟩, rfl, rfl, rfl, rfl, rfl, ⟨rfl, rfl⟩, trivial⟩, ?_⟩
    rintro q ⟨hq1, hq2⟩
    have eq : (q : Int).toNat = q := Int.toNat_natCast q
    have wq : IntKind.i64.wrap ((q : Int) - 1) = (q : Int) - 1 := wr (by omega) (by omega)
    refine .inl ⟨fun hc => ?_, fun hc => ?_⟩
    · have hc := dlt hc
      repeat refine Or.inl ?_
      refine ⟨⟨by rw [wq]; omega, by rw [wq]; omega⟩, by rw [wq]; omega, ⟨by omega, by omega⟩, by omega, ⟨fun h2 => ?_, fun _ => ?_⟩⟩
      · exfalso
        have h2 : decide (M.getD (IntKind.i64.wrap ((q : Int) - 1)).toNat 0 ≥ M.getD (q : Int).toNat 0) = true := h2
        have e1 : ((q : Int) - 1).toNat = q - 1 := by omega
        rw [wq, e1, eq, decide_eq_true_eq] at h2
        have := asc_at hA (show q - 1 < q by omega) (by omega)
        omega
      · exact ⟨q + 1, [], ⟨by omega, by omega⟩, by dsimp only; omega, rfl, rfl, rfl, rfl, rfl, ⟨rfl, wr (by omega) (by omega)⟩, trivial⟩
    · refine RetIs.b ?_
      show (true && ((M.length : Int) == (M.length : Int))) = true
      simp
end Go.Proofs.Ytklmfkejgjhneaa
