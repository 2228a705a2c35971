/-
  Several texts in one: Vc.
-/
import Derived.Test.YtilhaifmfiobhaaMg16

section
/-
  RightsWorlds.
-/
namespace Go.Proofs.Ytilhaifmfiobhaa
open Go.Eng

theorem pose_ne {C : List Cm} {P : List Pf} {G : List Gt} {r : Int} (h : poseE C P G r ≠ 0) : poseE C P G r = 1 ∨ (okCP C P = false ∧ poseE C P G r = (clausesY C P).2 ∧ (clausesY C P).2 ≠ 0) ∨ (okCP C P = true ∧ hasW C P = false) := by
  by_cases hb : badQ G r = true
  · left
    unfold poseE
    rw [if_pos hb]
  · by_cases hc : (clausesY C P).2 = 0
    · by_cases hF : followsB (clausesL C P) C.length [] = true
      · right; right
        have : poseE C P G r = 17 := by unfold poseE; rw [if_neg hb, if_pos hc, if_pos hF]
        exact pose_17 this
      · exfalso
        apply h
        unfold poseE
        rw [if_neg hb, if_pos hc, if_neg hF]
    · right; left
      exact ⟨decide_eq_false hc, by unfold poseE; rw [if_neg hb, if_neg hc], hc⟩
def useAt (C : List Cm) (G : List Gt) (grp a r : Int) (w : List Bool) (i : Nat) : Bool := (w.getD i false && ((C.getD i dCm).acc == a)) && hasG G grp (C.getD i dCm).per r
def useTo (C : List Cm) (G : List Gt) (grp a r : Int) (w : List Bool) (k : Nat) : Bool := (List.range k).any (useAt C G grp a r w)
theorem useTo_succ (C : List Cm) (G : List Gt) (grp a r : Int) (w : List Bool) (k : Nat) : useTo C G grp a r w (k + 1) = (useTo C G grp a r w k || useAt C G grp a r w k) := by
  unfold useTo
  rw [List.range_succ, List.any_append]
  simp
def useW (C : List Cm) (G : List Gt) (grp a r : Int) (w : List Bool) : Bool := useTo C G grp a r w C.length
theorem use_iff {C : List Cm} {G : List Gt} {grp a r : Int} {w : List Bool} : useW C G grp a r w = true ↔ ∃ i, i < C.length ∧ (C.getD i dCm).acc = a ∧ hasG G grp (C.getD i dCm).per r = true ∧ w.getD i false = true := by
  unfold useW useTo
  rw [List.any_eq_true]
  constructor
  · rintro ⟨i, hi, h⟩
    unfold useAt at h
    rw [Bool.and_eq_true, Bool.and_eq_true, beq_iff_eq] at h
    exact ⟨i, List.mem_range.1 hi, h.1.2, h.2, h.1.1⟩
  · rintro ⟨i, hi, h1, h2, h3⟩
    refine ⟨i, List.mem_range.2 hi, ?_⟩
    unfold useAt
    rw [h1, h2, h3, beq_self_eq_true]
    rfl
theorem all_use {C : List Cm} {P : List Pf} {G : List Gt} {grp a r : Int} (hok : okCP C P = true) (h : folB C P G grp a r = true) : (wldL C P).all (useW C G grp a r) = true := by
  rw [List.all_eq_true]
  exact fun w hw => use_iff.2 ((fol_iff hok).1 h w ((mem_wldL hok).1 hw))
theorem vs_use {C : List Cm} {P : List Pf} {G : List Gt} {grp a r : Int} {vs : List Bool} (hf : IsFirst (clausesL C P) C.length ((litsG C G grp a r).map opp) vs) : useW C G grp a r vs = false := by
  rw [← Bool.not_eq_true]
  intro h
  obtain ⟨i, hi, h1, h2, h3⟩ := use_iff.1 h
  have := (good_noX.1 hf.good).2 (2 * (i : Int)) (mem_litsG.2 ⟨i, hi, by unfold usesB; rw [h1, h2, beq_self_eq_true]; rfl, rfl⟩)
  rw [tv_even, h3] at this
  cases this
theorem listed_is {C : List Cm} {P : List Pf} {G : List Gt} {grp a r : Int} (he : poseE C P G r = 0) : ((holdL C P G grp r).any fun x => x == a) = folB C P G grp a r := by
  rw [Bool.eq_iff_iff, any_eqY, mem_holdL]
  constructor
  · exact fun h => h.1
  · intro h
    refine ⟨h, ?_⟩
    obtain ⟨vals, g⟩ := pose_world he
    obtain ⟨i, hi, h1, _⟩ := (fol_iff (pose_ok he).2.1).1 h vals g
    exact ⟨i, hi, h1⟩
theorem pose_some {C : List Cm} {P : List Pf} {G : List Gt} {r : Int} (he : poseE C P G r = 0) : 0 < (wldL C P).length := by
  obtain ⟨vals, g⟩ := pose_world he
  exact List.length_pos_iff_exists_mem.2 ⟨vals, (mem_wldL (pose_ok he).2.1).2 g⟩

set_option maxRecDepth 20000 in
set_option maxHeartbeats 16000000 in
theorem rightsWorlds_fn (C : List Cm) (P : List Pf) (G : List Gt) (grp a r : Int) : Ctr Try.prog 18 [.rs 2 C.length (rowsM C), .rs 3 P.length (rowsP P), .rs 3 G.length (rowsG G), .i .i64 grp, .i .i64 a, .i .i64 r] [] (.b true) := by
  refine fn_of_exec tabOk Try.func18 (by kernel_rfl) rfl (N := Try.f18.ntmps) rfl (res := [.tmp 12]) rfl rfl [(16, [.frz 16 [0]])] ?_
  repeat refine Or.inl ?_
  refine ⟨[], _, smallR_fn, ?_⟩
  repeat refine Or.inl ?_
  refine ⟨[], _, few27_fn C P G, ?_⟩
  repeat refine Or.inl ?_
  refine ⟨fun _ => RetIs.b rfl, fun h => ?_⟩
  have h : (!((decide ((C.length : Int) ≤ 8) && decide ((P.length : Int) ≤ 10)) && decide ((G.length : Int) ≤ 12))) = false := h
  rw [Bool.not_eq_false', Bool.and_eq_true, Bool.and_eq_true, decide_eq_true_eq, decide_eq_true_eq, decide_eq_true_eq] at h
  obtain ⟨⟨hC, hP⟩, hG⟩ := h
  have h2p : (2 : Nat) ^ C.length ≤ 2 ^ 8 := Nat.pow_le_pow_right (by decide) (by omega)
  have hwl : (wldL C P).length ≤ 256 := Nat.le_trans (wldT_len C P _) (by omega)
  have H := Holds_fn C P G (by omega) (by omega) (by omega) grp a r
  by_cases he : poseE C P G r = 0
  rotate_left
  · have hY : holdsY C P G grp a r = false := by unfold holdsY; rw [decide_eq_false he]; rfl
    rw [hY] at H
    have hb : (poseE C P G r == 0) = false := beq_eq_false_iff_ne.2 he
    have hb2 : (poseE C P G r != 0) = true := bne_iff_ne.2 he
    have hA := Holders_no C P G (by omega) (by omega) (by omega) grp r he
    have hK := Counter_e C P G (by omega) (by omega) (by omega) grp a r he
    repeat refine Or.inl ?_
    refine ⟨[], _, H, ?_⟩
    repeat refine Or.inl ?_
    refine ⟨[], _, hK, ?_⟩
    repeat refine Or.inl ?_
    refine ⟨[], _, hA, ?_⟩
    have r8 : (((poseE C P G r != poseE C P G r) || (false && (poseE C P G r != 0))) || (false && false) || (false != ((poseE C P G r == 0) && !false))) = false := by
      rw [bne_self_eq_false, hb]
      rfl
    cases hok : okCP C P with
    | true =>
      refine .inr (.inr ⟨true, [], rfl, _, _, _, _, _, Worlds_yes C P (by omega) (by omega) 256 (by omega) hok, fun _ _ => ?_⟩)
      repeat refine Or.inl ?_
      refine ⟨fun h => absurd (r8.symm.trans h) (by decide), fun _ => ?_⟩
      repeat refine Or.inl ?_
      refine ⟨fun _ => RetIs.b ?_, fun h => absurd (hb2.symm.trans h) (by decide)⟩
      have e : ((true && ((0 : Int) == 0)) && ((((0 : Int) != 0) || (((wldL C P).length : Int) == 0)) || (poseE C P G r == 1))) = true := by
        rcases pose_ne he with h | ⟨h, _⟩ | ⟨_, h⟩
        · rw [h]; cases ((((0 : Int) != 0) || (((wldL C P).length : Int) == 0))) <;> rfl
        · rw [hok] at h; cases h
        · have : (wldL C P).length = 0 := by
            refine Nat.eq_zero_of_not_pos fun hp => ?_
            have := (wldL_has hok).2 hp
            rw [h] at this
            cases this
          rw [this]; rfl
      exact e
    | false =>
      have wn := Worlds_no C P (by omega) (by omega) 256 hok
      repeat refine Or.inl ?_
      refine ⟨[], _, wn, ?_⟩
      repeat refine Or.inl ?_
      refine ⟨fun h => absurd (r8.symm.trans h) (by decide), fun _ => ?_⟩
      repeat refine Or.inl ?_
      refine ⟨fun _ => RetIs.b ?_, fun h => absurd (hb2.symm.trans h) (by decide)⟩
      have hk : ((clausesY C P).2 != 0) = true := by
        rw [bne_iff_ne]
        exact fun hc => by rw [show okCP C P = true from decide_eq_true hc] at hok; cases hok
      have e : ((true && ((0 : Int) == 0)) && ((((clausesY C P).2 != 0) || ((0 : Int) == 0)) || (poseE C P G r == 1))) = true := by
        rw [hk]; rfl
      exact e
  have hok := (pose_ok he).2.1
  obtain ⟨hR, hlen⟩ := okCP_iff.1 hok
  have hv := badQ_no (pose_ok he).1
  have hpos := pose_some he
  have cl : Ctr Try.prog 38 [.rs 2 C.length (rowsM C), .rs 3 P.length (rowsP P)] [.row 25 2 (clausesL C P).length (rowsC (clausesL C P))] (.tup [.so 0, .i .i64 0]) := by
    rcases Clauses_or (C := C) (P := P) with ⟨_, e⟩ | ⟨hno, _⟩
    · have cl := Clauses_fn C P (by omega) (by omega)
      rw [e] at cl
      exact cl
    · rw [hok] at hno; cases hno
  have hA := Holders_yes C P G (by omega) (by omega) (by omega) grp r he
  have hll := holdL_len C P G grp r
  have hlist := listed_is (grp := grp) (a := a) he
  rw [holds_fol he, he] at H
  have wlen : ∀ w ∈ wldL C P, w.length = C.length := fun w hw => ((mem_wldL hok).1 hw).len
  cases hh : folB C P G grp a r with
  | true =>
    rw [hh] at H hlist
    have hK := Counter_h C P G (by omega) (by omega) (by omega) grp a r he hh
    have hall := all_use hok hh
    obtain ⟨W, hW⟩ : ∃ W, W = wldL C P := ⟨_, rfl⟩
    have hWl : ∀ i, i < W.length → (W.getD i []).length = C.length := fun i hi => wlen _ (by rw [← hW]; exact getD_memW hi)
    have hW256 : W.length ≤ 257 := by rw [hW]; omega
    have hWpos : 0 < W.length := by rw [hW]; exact hpos
    have hfin : W.all (useW C G grp a r) = true := by rw [hW]; exact hall
    repeat refine Or.inl ?_
    refine ⟨[], _, H, ?_⟩
    repeat refine Or.inl ?_
    refine ⟨[], _, hK, ?_⟩
    repeat refine Or.inl ?_
    refine ⟨_, _, hA, ?_⟩
    refine .inr (.inr ⟨true, [], rfl, _, _, _, _, _, Worlds_yes C P (by omega) (by omega) 256 (by omega) hok, fun _ _ => ?_⟩)
    rw [← hW]
    repeat refine Or.inl ?_
    refine ⟨fun h => (by cases h), fun _ => ?_⟩
    repeat refine Or.inl ?_
    refine ⟨fun h => (by cases h), fun _ => ?_⟩
    repeat refine Or.inl ?_
    refine ⟨_, _, cl, ?_⟩
    repeat refine Or.inl ?_
    refine ⟨[], .b true, fun hg => (by
      have h : (false : Bool) = true := hg.1
      cases h), ?_⟩
    repeat refine Or.inl ?_
    refine ⟨fun h => ?_, fun _ => ?_⟩
    · exfalso
      have h : (((((0 : Int) != 0) || ((0 : Int) != 0)) || ((W.length : Int) == 0)) || (false && !true)) = true := h
      have e : ((W.length : Int) == 0) = false := by rw [beq_eq_false_iff_ne]; omega
      rw [e] at h
      cases h
    repeat refine Or.inl ?_
    refine ⟨fun h => (by cases h), fun _ => ?_⟩
    have hlast : ∀ i : Nat, (i : Int) < W.length → ((false && ((i : Int) == IntKind.i64.wrap ((W.length : Int) - 1))) && useW C G grp a r (W.getD i [])) = true → False := fun i _ h => by
      rw [Bool.false_and, Bool.false_and] at h
      cases h
    repeat refine Or.inl ?_
    refine ⟨[], Nat, fun i => i ≤ W.length, fun i => [⟨25, [], .i .i64 i⟩, ⟨24, [], .b ((W.take i).all (useW C G grp a r))⟩], fun _ => [], fun i => W.length - i,
      ⟨0, [], Nat.zero_le _, rfl, rfl, rfl, rfl, rfl, ⟨⟨rfl, rfl⟩, rfl⟩, trivial⟩, ?_⟩
    intro i hi
    have hi : i ≤ W.length := hi
    refine .inl ⟨fun hc => ?_, fun hc => ?_⟩
    · have hc := dlt hc
      have hc : (i : Int) < W.length := hc
      have ei : (i : Int).toNat = i := Int.toNat_natCast i
      have wi := hWl (i : Int).toNat (by omega)
      repeat refine Or.inl ?_
      refine ⟨⟨by omega, by omega⟩, by omega, ?_⟩
      repeat refine Or.inl ?_
      refine ⟨fun h => ?_, fun _ => ?_⟩
      · exfalso
        have h : (((W.getD (i : Int).toNat []).length : Int) != (C.length : Int)) = true := h
        rw [wi, bne_self_eq_false] at h
        cases h
      repeat refine Or.inl ?_
      refine ⟨[], Nat, fun k => k ≤ C.length, fun k => [⟨27, [], .i .i64 k⟩, ⟨26, [], .b (useTo C G grp a r (W.getD (i : Int).toNat []) k)⟩], fun _ => [], fun k => C.length - k,
        ⟨0, [], Nat.zero_le _, rfl, rfl, rfl, rfl, rfl, ⟨⟨rfl, rfl⟩, rfl⟩, trivial⟩, ?_⟩
      intro k hk
      have hk : k ≤ C.length := hk
      refine .inl ⟨fun hc2 => ?_, fun hc2 => ?_⟩
      · have hc2 := dlt hc2
        have hc2 : (k : Int) < C.length := hc2
        have ek : (k : Int).toNat = k := Int.toNat_natCast k
        repeat refine Or.inl ?_
        refine ⟨fun _ => ⟨by omega, by omega⟩, fun _ => by omega, fun _ => ⟨by omega, by omega⟩, fun _ => ⟨by omega, by omega⟩, fun _ => ⟨by omega, by omega⟩, ?_⟩
        repeat refine Or.inl ?_
        refine ⟨[], _, fun _ => Has_fn G (by omega) hv.2.2 grp (C.getD (k : Int).toNat dCm).per r ⟨hv.1, hv.2.1⟩, ?_⟩
        refine ⟨k + 1, [], by dsimp only; omega, by dsimp only; omega, rfl, rfl, rfl, rfl, rfl, ⟨⟨rfl, wr (by omega) (by omega)⟩, ?_⟩, trivial⟩
        rw [useTo_succ, ek]
        rfl
      · have hc2 := dnlt hc2
        have hc2 : (C.length : Int) ≤ k := hc2
        obtain rfl : k = C.length := by omega
        repeat refine Or.inl ?_
        refine ⟨fun h => ?_, fun _ => ?_⟩
        · exfalso
          have h : ((false && ((i : Int) == IntKind.i64.wrap ((W.length : Int) - 1))) && useW C G grp a r (W.getD (i : Int).toNat [])) = true := h
          rw [ei] at h
          exact hlast i hc h
        · refine ⟨i + 1, [], by dsimp only; omega, by dsimp only; omega, rfl, rfl, rfl, rfl, rfl, ⟨⟨rfl, wr (by omega) (by omega)⟩, ?_⟩, trivial⟩
          rw [all_upto_succ [] _ _ _ (by omega), ei]
          rfl
    have hc := dnlt hc
    have hc : (W.length : Int) ≤ i := hc
    obtain rfl : i = W.length := by omega
    repeat refine Or.inl ?_
    refine ⟨[], Nat, fun k => k ≤ (holdL C P G grp r).length, fun k => [⟨29, [], .i .i64 k⟩, ⟨28, [], .b (((holdL C P G grp r).take k).any fun x => x == a)⟩], fun _ => [], fun k => (holdL C P G grp r).length - k,
      ⟨0, [], Nat.zero_le _, rfl, rfl, rfl, rfl, rfl, ⟨⟨rfl, rfl⟩, rfl⟩, trivial⟩, ?_⟩
    intro k hk
    have hk : k ≤ (holdL C P G grp r).length := hk
    refine .inl ⟨fun hc2 => ?_, fun hc2 => ?_⟩
    · have hc2 := dlt hc2
      have hc2 : (k : Int) < (holdL C P G grp r).length := hc2
      have ek : (k : Int).toNat = k := Int.toNat_natCast k
      repeat refine Or.inl ?_
      refine ⟨fun _ => ⟨by omega, by omega⟩, fun _ => by omega, ?_⟩
      refine ⟨k + 1, [], by dsimp only; omega, by dsimp only; omega, rfl, rfl, rfl, rfl, rfl, ⟨⟨rfl, wr (by omega) (by omega)⟩, ?_⟩, trivial⟩
      rw [any_upto_succ 0 _ _ _ (by omega), ek]
      rfl
    have hc2 := dnlt hc2
    have hc2 : ((holdL C P G grp r).length : Int) ≤ k := hc2
    obtain rfl : k = (holdL C P G grp r).length := by omega
    refine RetIs.b ?_
    have e : ((true && ((W.take W.length).all (useW C G grp a r) == true)) && ((((holdL C P G grp r).take (holdL C P G grp r).length).any fun x => x == a) == true)) = true := by
      rw [List.take_length, List.take_length, hfin, hlist]
      rfl
    exact e
  | false =>
    rw [hh] at H hlist
    obtain ⟨vs, hf⟩ := fol_no hok hh
    have hK := Counter_yes C P G (by omega) (by omega) (by omega) grp a r he hh vs hf
    have hgv : Wd C P vs := (good_noX.1 hf.good).1
    have hvl : vs.length = C.length := hgv.len
    obtain ⟨W, hW⟩ : ∃ W, W = wldL C P ++ [vs] := ⟨_, rfl⟩
    have hWn : W.length = (wldL C P).length + 1 := by rw [hW, List.length_append]; rfl
    have hWl : ∀ i, i < W.length → (W.getD i []).length = C.length := fun i hi => by
      have := getD_memW (L := W) hi
      rw [hW, List.mem_append, List.mem_singleton, ← hW] at this
      rcases this with h | h
      · exact wlen _ h
      · rw [h]; exact hvl
    have hW256 : W.length ≤ 257 := by omega
    have hlv : W.getD (wldL C P).length [] = vs := by rw [hW]; simp [List.getD]
    have hvu := vs_use hf
    have hfin : W.all (useW C G grp a r) = false := by
      rw [hW, List.all_append, List.all_cons, hvu]
      simp
    have hlast : ∀ i : Nat, (i : Int) < W.length → ((true && ((i : Int) == IntKind.i64.wrap ((W.length : Int) - 1))) && useW C G grp a r (W.getD i [])) = true → False := fun i hi h => by
      rw [wr (by omega) (by omega), Bool.and_eq_true, Bool.true_and, beq_iff_eq] at h
      obtain rfl : i = (wldL C P).length := by omega
      rw [hlv, hvu] at h
      cases h.2
    repeat refine Or.inl ?_
    refine ⟨[], _, H, ?_⟩
    repeat refine Or.inl ?_
    refine ⟨_, _, hK, ?_⟩
    repeat refine Or.inl ?_
    refine ⟨_, _, hA, ?_⟩
    refine .inr (.inr ⟨true, [], rfl, _, _, _, _, _, Worlds_yes C P (by omega) (by omega) 256 (by omega) hok, fun _ _ => ?_⟩)
    repeat refine Or.inl ?_
    refine ⟨fun h => (by cases h), fun _ => ?_⟩
    repeat refine Or.inl ?_
    refine ⟨fun h => (by cases h), fun _ => ?_⟩
    repeat refine Or.inl ?_
    refine ⟨_, _, cl, ?_⟩
    repeat refine Or.inl ?_
    refine ⟨[], _, fun _ => Check_fn (clausesL C P) (by omega) C.length vs (by omega), ?_⟩
    repeat refine Or.inl ?_
    refine ⟨fun h => ?_, fun _ => ?_⟩
    · exfalso
      have h : (((((0 : Int) != 0) || ((0 : Int) != 0)) || (((wldL C P).length : Int) == 0)) || (true && !checkB (clausesL C P) C.length vs)) = true := h
      have e : (((wldL C P).length : Int) == 0) = false := by rw [beq_eq_false_iff_ne]; omega
      rw [e, (wd_check hok).2 hgv] at h
      cases h
    repeat refine Or.inl ?_
    refine ⟨fun _ => ?_, fun h => (by cases h)⟩
    repeat refine Or.inl ?_
    refine ⟨fits (by omega), ?_⟩
    repeat refine Or.inl ?_
    refine ⟨[], Nat, fun i => i ≤ W.length, fun i => [⟨25, [], .i .i64 i⟩, ⟨24, [], .b ((W.take i).all (useW C G grp a r))⟩], fun _ => [⟨5, [], .row 29 1 W.length (rowsW W)⟩], fun i => W.length - i,
      ⟨0, [], Nat.zero_le _, rfl, rfl, rfl, rfl, rfl, ⟨⟨rfl, rfl⟩, rfl⟩, by rw [hW]; exact snocW_row _ _ rfl⟩, ?_⟩
    intro i hi
    have hi : i ≤ W.length := hi
    refine .inl ⟨fun hc => ?_, fun hc => ?_⟩
    · have hc := dlt hc
      have hc : (i : Int) < W.length := hc
      have ei : (i : Int).toNat = i := Int.toNat_natCast i
      have wi := hWl (i : Int).toNat (by omega)
      repeat refine Or.inl ?_
      refine ⟨⟨by omega, by omega⟩, by omega, ?_⟩
      repeat refine Or.inl ?_
      refine ⟨fun h => ?_, fun _ => ?_⟩
      · exfalso
        have h : (((W.getD (i : Int).toNat []).length : Int) != (C.length : Int)) = true := h
        rw [wi, bne_self_eq_false] at h
        cases h
      repeat refine Or.inl ?_
      refine ⟨[], Nat, fun k => k ≤ C.length, fun k => [⟨27, [], .i .i64 k⟩, ⟨26, [], .b (useTo C G grp a r (W.getD (i : Int).toNat []) k)⟩], fun _ => [], fun k => C.length - k,
        ⟨0, [], Nat.zero_le _, rfl, rfl, rfl, rfl, rfl, ⟨⟨rfl, rfl⟩, rfl⟩, trivial⟩, ?_⟩
      intro k hk
      have hk : k ≤ C.length := hk
      refine .inl ⟨fun hc2 => ?_, fun hc2 => ?_⟩
      · have hc2 := dlt hc2
        have hc2 : (k : Int) < C.length := hc2
        have ek : (k : Int).toNat = k := Int.toNat_natCast k
        repeat refine Or.inl ?_
        refine ⟨fun _ => ⟨by omega, by omega⟩, fun _ => by omega, fun _ => ⟨by omega, by omega⟩, fun _ => ⟨by omega, by omega⟩, fun _ => ⟨by omega, by omega⟩, ?_⟩
        repeat refine Or.inl ?_
        refine ⟨[], _, fun _ => Has_fn G (by omega) hv.2.2 grp (C.getD (k : Int).toNat dCm).per r ⟨hv.1, hv.2.1⟩, ?_⟩
        refine ⟨k + 1, [], by dsimp only; omega, by dsimp only; omega, rfl, rfl, rfl, rfl, rfl, ⟨⟨rfl, wr (by omega) (by omega)⟩, ?_⟩, trivial⟩
        rw [useTo_succ, ek]
        rfl
      · have hc2 := dnlt hc2
        have hc2 : (C.length : Int) ≤ k := hc2
        obtain rfl : k = C.length := by omega
        repeat refine Or.inl ?_
        refine ⟨fun h => ?_, fun _ => ?_⟩
        · exfalso
          have h : ((true && ((i : Int) == IntKind.i64.wrap ((W.length : Int) - 1))) && useW C G grp a r (W.getD (i : Int).toNat [])) = true := h
          rw [ei] at h
          exact hlast i hc h
        · refine ⟨i + 1, [], by dsimp only; omega, by dsimp only; omega, rfl, rfl, rfl, rfl, rfl, ⟨⟨rfl, wr (by omega) (by omega)⟩, ?_⟩, (AOEq.refl _ : AOEq (.row 29 1 W.length (rowsW W)) (.row 29 1 W.length (rowsW W)))⟩
          rw [all_upto_succ [] _ _ _ (by omega), ei]
          rfl
    have hc := dnlt hc
    have hc : (W.length : Int) ≤ i := hc
    obtain rfl : i = W.length := by omega
    repeat refine Or.inl ?_
    refine ⟨[], Nat, fun k => k ≤ (holdL C P G grp r).length, fun k => [⟨29, [], .i .i64 k⟩, ⟨28, [], .b (((holdL C P G grp r).take k).any fun x => x == a)⟩], fun _ => [], fun k => (holdL C P G grp r).length - k,
      ⟨0, [], Nat.zero_le _, rfl, rfl, rfl, rfl, rfl, ⟨⟨rfl, rfl⟩, rfl⟩, trivial⟩, ?_⟩
    intro k hk
    have hk : k ≤ (holdL C P G grp r).length := hk
    refine .inl ⟨fun hc2 => ?_, fun hc2 => ?_⟩
    · have hc2 := dlt hc2
      have hc2 : (k : Int) < (holdL C P G grp r).length := hc2
      have ek : (k : Int).toNat = k := Int.toNat_natCast k
      repeat refine Or.inl ?_
      refine ⟨fun _ => ⟨by omega, by omega⟩, fun _ => by omega, ?_⟩
      refine ⟨k + 1, [], by dsimp only; omega, by dsimp only; omega, rfl, rfl, rfl, rfl, rfl, ⟨⟨rfl, wr (by omega) (by omega)⟩, ?_⟩, trivial⟩
      rw [any_upto_succ 0 _ _ _ (by omega), ek]
      rfl
    have hc2 := dnlt hc2
    have hc2 : ((holdL C P G grp r).length : Int) ≤ k := hc2
    obtain rfl : k = (holdL C P G grp r).length := by omega
    refine RetIs.b ?_
    have e : ((true && ((W.take W.length).all (useW C G grp a r) == false)) && ((((holdL C P G grp r).take (holdL C P G grp r).length).any fun x => x == a) == false)) = true := by
      rw [List.take_length, List.take_length, hfin, hlist]
      rfl
    exact e
end Go.Proofs.Ytilhaifmfiobhaa
end
