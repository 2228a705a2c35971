/-
  Several texts in one: Va, Vb.
-/
import Derived.Test.YtilhaifmfiobhaaMg20

section
/-
  Rights: the reference's Has, and RightsSums.
-/
namespace Go.Proofs.Ytilhaifmfiobhaa
open Go.Eng

theorem bit_div {x : Int} {m : Nat} (h : 0 ≤ x ∧ x ≤ 15) (hm : m < 4) : (IntKind.i64.wrap (x.tdiv (2 ^ m : Nat))).tmod 2 = if bitN x m = true then 1 else 0 := by
  have hm : m = 0 ∨ m = 1 ∨ m = 2 ∨ m = 3 := by omega
  have hx : x = 0 ∨ x = 1 ∨ x = 2 ∨ x = 3 ∨ x = 4 ∨ x = 5 ∨ x = 6 ∨ x = 7 ∨ x = 8 ∨ x = 9 ∨ x = 10 ∨ x = 11 ∨ x = 12 ∨ x = 13 ∨ x = 14 ∨ x = 15 := by omega
  rcases hm with rfl | rfl | rfl | rfl <;> rcases hx with rfl | rfl | rfl | rfl | rfl | rfl | rfl | rfl | rfl | rfl | rfl | rfl | rfl | rfl | rfl | rfl <;> decide
theorem any_take_succ {α : Type} (d : α) (p : α → Bool) (l : List α) {k : Nat} (h : k < l.length) : (l.take (k + 1)).any p = ((l.take k).any p || p (l.getD k d)) := by
  rw [List.take_succ_eq_append_getElem h, List.any_append]
  simp [List.getD, h]

def hasAt (G : List Gt) (grp p r : Int) (m j : Nat) : Bool := !bitN r m || (G.take j).any (grB grp p m)
theorem hasG_at (G : List Gt) (grp p r : Int) : hasG G grp p r = (List.range 4).all fun i => hasAt G grp p r i G.length := by
  unfold hasG hasAt
  simp only [List.take_length]
theorem getD_memG {G : List Gt} {k : Nat} (h : k < G.length) : G.getD k dGt ∈ G := by simp [List.getD, h]
set_option maxRecDepth 20000 in
set_option maxHeartbeats 4000000 in
theorem Has_fn (G : List Gt) (hG : G.length ≤ 1000) (hv : validG G = true) (grp p r : Int) (hr : 1 ≤ r ∧ r ≤ 15) :
    Ctr Try.prog 70 [.rs 3 G.length (rowsG G), .i .i64 grp, .i .i64 p, .i .i64 r] [] (.b (hasG G grp p r)) := by
  refine fn_of_exec tabOk Try.func70 (by kernel_rfl) rfl (N := Try.f70.ntmps) rfl (res := [.tmp 8]) rfl rfl [] ?_
  repeat refine Or.inl ?_
  refine ⟨[], Nat, fun m => m ≤ 4 ∧ ∀ i, i < m → hasAt G grp p r i G.length = true, fun m => [⟨9, [], .i .i64 ((2 ^ m : Nat) : Int)⟩], fun _ => [], fun m => 4 - m,
    ⟨0, [], ⟨Nat.zero_le _, fun i hi => absurd hi (Nat.not_lt_zero i)⟩, rfl, rfl, rfl, rfl, rfl, ⟨rfl, rfl⟩, trivial⟩, ?_⟩
  rintro m ⟨hm, hall⟩
  have hm : m ≤ 4 := hm
  have h2 : (2 : Nat) ^ m ≤ 16 := Nat.pow_le_pow_right (n := 2) (by decide) hm
  have h1 : 1 ≤ (2 : Nat) ^ m := Nat.one_le_two_pow
  refine .inl ⟨fun hc => ?_, fun hc => ?_⟩
  · have hc : decide (((2 ^ m : Nat) : Int) ≤ 8) = true := hc
    rw [decide_eq_true_eq] at hc
    have hm4 : m < 4 := by
      rcases Nat.lt_or_ge m 4 with h | h
      · exact h
      · obtain rfl : m = 4 := by omega
        exact absurd hc (by decide)
    have hbr := bit_div (x := r) (m := m) (by omega) hm4
    repeat refine Or.inl ?_
    refine ⟨by omega, by decide, ?_⟩
    repeat refine Or.inl ?_
    refine ⟨[], Nat, fun j => j ≤ G.length, fun j => [⟨11, [], .i .i64 j⟩, ⟨10, [], .b (hasAt G grp p r m j)⟩], fun _ => [], fun j => G.length - j,
      ⟨0, [], Nat.zero_le _, rfl, rfl, rfl, rfl, rfl, ⟨⟨rfl, rfl⟩, ?_⟩, trivial⟩, ?_⟩
    · show ((IntKind.i64.wrap (r.tdiv ((2 ^ m : Nat) : Int))).tmod 2 == 0) = hasAt G grp p r m 0
      rw [hbr]
      unfold hasAt
      cases bitN r m <;> rfl
    intro j hj
    have hj : j ≤ G.length := hj
    refine .inl ⟨fun hc2 => ?_, fun hc2 => ?_⟩
    · have hc2 := dlt hc2
      repeat refine Or.inl ?_
      refine ⟨fun _ => ⟨by omega, by omega⟩, ?_⟩
      repeat refine Or.inl ?_
      refine ⟨fun _ => ⟨by omega, by omega⟩, ?_⟩
      repeat refine Or.inl ?_
      refine ⟨fun _ => ⟨by omega, by omega⟩, ?_⟩
      repeat refine Or.inl ?_
      refine ⟨fun _ => by omega, ?_⟩
      repeat refine Or.inl ?_
      refine ⟨fun _ => by decide, ?_⟩
      refine ⟨j + 1, [], by dsimp only; omega, by dsimp only; omega, rfl, rfl, rfl, rfl, rfl, ⟨⟨rfl, wr (by omega) (by omega)⟩, ?_⟩, trivial⟩
      have hgr := (validG_mem hv (getD_memG (G := G) (k := j) (by omega))).2.2
      show (hasAt G grp p r m j || ((((G.getD j dGt).grp == grp) && ((G.getD j dGt).per == p)) && ((IntKind.i64.wrap ((G.getD j dGt).rig.tdiv ((2 ^ m : Nat) : Int))).tmod 2 == 1))) = hasAt G grp p r m (j + 1)
      rw [bit_div hgr hm4]
      unfold hasAt
      rw [any_take_succ dGt _ G (by omega), ← Bool.or_assoc]
      unfold grB
      cases bitN (G.getD j dGt).rig m <;> rfl
    · have hc2 := dnlt hc2
      obtain rfl : j = G.length := by omega
      repeat refine Or.inl ?_
      refine ⟨fun h => ?_, fun h => ?_⟩
      · have h : (!hasAt G grp p r m G.length) = true := h
        refine RetIs.b ?_
        rw [hasG_at]
        symm
        rw [List.all_eq_false]
        exact ⟨m, List.mem_range.2 hm4, by rw [Bool.not_eq_true'] at h; rw [h]; decide⟩
      · have h : (!hasAt G grp p r m G.length) = false := h
        have hp2 : IntKind.i64.wrap (2 * ((2 ^ m : Nat) : Int)) = ((2 ^ (m + 1) : Nat) : Int) := by
          rw [wr (by omega) (by omega), Nat.pow_succ]
          omega
        refine ⟨m + 1, [], ⟨by omega, fun i hi => ?_⟩, by dsimp only; omega, rfl, rfl, rfl, rfl, rfl, ⟨rfl, hp2⟩, trivial⟩
        by_cases him : i < m
        · exact hall i him
        · obtain rfl : i = m := by omega
          simpa using h
  · have hc : decide (((2 ^ m : Nat) : Int) ≤ 8) = false := hc
    rw [decide_eq_false_iff_not] at hc
    have hm4 : m = 4 := by
      have : m = 0 ∨ m = 1 ∨ m = 2 ∨ m = 3 ∨ m = 4 := by omega
      rcases this with rfl | rfl | rfl | rfl | rfl <;> first | rfl | exact absurd (by decide) hc
    subst hm4
    refine RetIs.b ?_
    rw [hasG_at]
    symm
    rw [List.all_eq_true]
    exact fun i hi => hall i (List.mem_range.1 hi)

/-! ### who may use what, said by worlds -/
theorem fol_iff {C : List Cm} {P : List Pf} {G : List Gt} {grp a r : Int} (hok : okCP C P = true) : folB C P G grp a r = true ↔ ∀ vals, Wd C P vals → ∃ i, i < C.length ∧ (C.getD i dCm).acc = a ∧ hasG G grp (C.getD i dCm).per r = true ∧ vals.getD i false = true := by
  have hR : RightP (clausesL C P) C.length := clausesL_right (okCP_iff.1 hok).1 (okCP_iff.1 hok).2
  unfold folB
  rw [followsB_iff]
  constructor
  · rintro ⟨_, _, h⟩ vals g
    obtain ⟨x, hx, ht⟩ := h vals (by rw [Int.toNat_natCast]; exact g)
    obtain ⟨i, hi, hu, rfl⟩ := mem_litsG.1 hx
    unfold usesB at hu
    rw [Bool.and_eq_true, beq_iff_eq] at hu
    rw [tv_even] at ht
    exact ⟨i, hi, hu.1, hu.2, ht⟩
  · intro h
    refine ⟨hR, litsG_ok, fun vals g => ?_⟩
    obtain ⟨i, hi, h1, h2, h3⟩ := h vals (by rw [Int.toNat_natCast] at g; exact g)
    refine ⟨2 * (i : Int), mem_litsG.2 ⟨i, hi, ?_, rfl⟩, by rw [tv_even]; exact h3⟩
    unfold usesB
    rw [h1, h2, beq_self_eq_true]
    rfl
theorem pose_world {C : List Cm} {P : List Pf} {G : List Gt} {r : Int} (h : poseE C P G r = 0) : ∃ vals, Wd C P vals := by
  obtain ⟨_, hok, hf⟩ := pose_ok h
  have hR : RightP (clausesL C P) C.length := clausesL_right (okCP_iff.1 hok).1 (okCP_iff.1 hok).2
  refine Classical.byContradiction fun hn => ?_
  have : followsB (clausesL C P) C.length [] = true := followsB_iff.2 ⟨hR, fun x hx => (by cases hx), fun vals g => absurd ⟨vals, by rw [Int.toNat_natCast] at g; exact g⟩ hn⟩
  rw [hf] at this
  cases this
theorem or_rg {a b : Int} (ha : 1 ≤ a ∧ a ≤ 15) (hb : 1 ≤ b ∧ b ≤ 15) : 1 ≤ bitsI .or .i64 a b ∧ bitsI .or .i64 a b ≤ 15 := by
  rw [bits_or (by omega) (by omega)]
  have h1 : a.toNat ||| b.toNat < 2 ^ 4 := Nat.or_lt_two_pow (by omega) (by omega)
  have h2 : a.toNat ≤ a.toNat ||| b.toNat := Nat.left_le_or
  omega
theorem pose_r {C : List Cm} {P : List Pf} {G : List Gt} {a b : Int} (ha : 1 ≤ a ∧ a ≤ 15) (hb : 1 ≤ b ∧ b ≤ 15) : poseE C P G a = poseE C P G b := by
  have : badQ G a = badQ G b := by
    unfold badQ
    rw [decide_eq_false (show ¬ a < 1 by omega), decide_eq_false (show ¬ a > 15 by omega), decide_eq_false (show ¬ b < 1 by omega), decide_eq_false (show ¬ b > 15 by omega)]
  unfold poseE
  rw [this]
theorem fol_or {C : List Cm} {P : List Pf} {G : List Gt} {grp acc a b : Int} (hok : okCP C P = true) (ha : 1 ≤ a ∧ a ≤ 15) (hb : 1 ≤ b ∧ b ≤ 15) : folB C P G grp acc (bitsI .or .i64 a b) = (folB C P G grp acc a && folB C P G grp acc b) := by
  rw [Bool.eq_iff_iff, Bool.and_eq_true, fol_iff hok, fol_iff hok, fol_iff hok]
  have ho : ∀ p, hasG G grp p (bitsI .or .i64 a b) = (hasG G grp p a && hasG G grp p b) := fun p => hasG_or (by omega) (by omega)
  constructor
  · intro h
    constructor
    · intro vals g
      obtain ⟨i, h1, h2, h3, h4⟩ := h vals g
      rw [ho, Bool.and_eq_true] at h3
      exact ⟨i, h1, h2, h3.1, h4⟩
    · intro vals g
      obtain ⟨i, h1, h2, h3, h4⟩ := h vals g
      rw [ho, Bool.and_eq_true] at h3
      exact ⟨i, h1, h2, h3.2, h4⟩
  · rintro ⟨h, h'⟩ vals g
    obtain ⟨i, h1, h2, h3, h4⟩ := h vals g
    obtain ⟨j, k1, k2, k3, k4⟩ := h' vals g
    have e : i = j := wd_one g k1 h1 (k2.trans h2.symm) h4 k4
    subst e
    exact ⟨i, h1, h2, by rw [ho, h3, k3]; rfl, h4⟩
theorem bel_has {C : List Cm} {P : List Pf} {G : List Gt} {grp a p r : Int} (hok : okCP C P = true) (hf : folB C P G grp a r = true) {vals : List Bool} (g : Wd C P vals) (hb : Bel C vals a p) : hasG G grp p r = true := by
  obtain ⟨i, h1, h2, h3, h4⟩ := hb
  obtain ⟨j, k1, k2, k3, k4⟩ := (fol_iff hok).1 hf vals g
  have e : i = j := wd_one g k1 h1 (k2.trans h2.symm) h4 k4
  subst e
  rw [← h3]
  exact k3

set_option maxRecDepth 20000 in
set_option maxHeartbeats 4000000 in
theorem rightsSums_fn (C : List Cm) (P : List Pf) (G : List Gt) (grp acc a b : Int) : Ctr Try.prog 20 [.rs 2 C.length (rowsM C), .rs 3 P.length (rowsP P), .rs 3 G.length (rowsG G), .i .i64 grp, .i .i64 acc, .i .i64 a, .i .i64 b] [] (.b true) := by
  refine fn_of_exec tabOk Try.func20 (by kernel_rfl) rfl (N := Try.f20.ntmps) rfl (res := [.tmp 14]) rfl rfl [] ?_
  repeat refine Or.inl ?_
  refine ⟨[], _, smallR_fn, ?_⟩
  repeat refine Or.inl ?_
  refine ⟨[], _, few27_fn C P G, ?_⟩
  repeat refine Or.inl ?_
  refine ⟨fun _ => RetIs.b rfl, fun h => ?_⟩
  have h : ((((!((decide ((C.length : Int) ≤ 8) && decide ((P.length : Int) ≤ 10)) && decide ((G.length : Int) ≤ 12)) || decide (a < 1)) || decide (a > 15)) || decide (b < 1)) || decide (b > 15)) = false := h
  rw [Bool.or_eq_false_iff, Bool.or_eq_false_iff, Bool.or_eq_false_iff, Bool.or_eq_false_iff, Bool.not_eq_false', Bool.and_eq_true, Bool.and_eq_true, decide_eq_true_eq, decide_eq_true_eq, decide_eq_true_eq, decide_eq_false_iff_not, decide_eq_false_iff_not, decide_eq_false_iff_not, decide_eq_false_iff_not] at h
  obtain ⟨⟨⟨⟨⟨⟨hC, hP⟩, hG⟩, ha1⟩, ha2⟩, hb1⟩, hb2⟩ := h
  have ha : 1 ≤ a ∧ a ≤ 15 := by omega
  have hb : 1 ≤ b ∧ b ≤ 15 := by omega
  have hab := or_rg ha hb
  have e1 : poseE C P G b = poseE C P G a := pose_r hb ha
  have e2 : poseE C P G (bitsI .or .i64 a b) = poseE C P G a := pose_r hab ha
  have hz : holdsY C P G grp acc (bitsI .or .i64 a b) = (holdsY C P G grp acc a && holdsY C P G grp acc b) := by
    by_cases he : poseE C P G a = 0
    · rw [holds_fol (e2.trans he), holds_fol he, holds_fol (e1.trans he)]
      exact fol_or (pose_ok he).2.1 ha hb
    · unfold holdsY
      rw [e1, e2, decide_eq_false he]
      rfl
  repeat refine Or.inl ?_
  refine ⟨[], _, Holds_fn C P G (by omega) (by omega) (by omega) grp acc a, ?_⟩
  repeat refine Or.inl ?_
  refine ⟨[], _, Holds_fn C P G (by omega) (by omega) (by omega) grp acc b, ?_⟩
  repeat refine Or.inl ?_
  refine ⟨[], _, Holds_fn C P G (by omega) (by omega) (by omega) grp acc (bitsI .or .i64 a b), ?_⟩
  repeat refine Or.inl ?_
  refine ⟨fun h => ?_, fun _ => ?_⟩
  · have h : (((poseE C P G a != poseE C P G b) || (poseE C P G a != poseE C P G (bitsI .or .i64 a b))) || (holdsY C P G grp acc (bitsI .or .i64 a b) != (holdsY C P G grp acc a && holdsY C P G grp acc b))) = true := h
    rw [e1, e2, hz] at h
    simp at h
  have pl := persL_len C acc
  have ml := mayL_len C P (persL C acc) acc
  repeat refine Or.inl ?_
  refine ⟨_, _, May_fn C P (by omega) (by omega) acc, ?_⟩
  repeat refine Or.inl ?_
  refine ⟨[], Nat, fun k => k ≤ (mayL C P (persL C acc) acc).length, fun k => [⟨23, [], .i .i64 k⟩], fun _ => [], fun k => (mayL C P (persL C acc) acc).length - k,
    ⟨0, [], Nat.zero_le _, rfl, rfl, rfl, rfl, rfl, ⟨rfl, rfl⟩, trivial⟩, ?_⟩
  intro k hk
  have hk : k ≤ (mayL C P (persL C acc) acc).length := hk
  refine .inl ⟨fun hc => ?_, fun hc => ?_⟩
  · have hc : (decide ((k : Int) < (mayL C P (persL C acc) acc).length) && holdsY C P G grp acc a) = true := hc
    rw [Bool.and_eq_true, decide_eq_true_eq] at hc
    obtain ⟨hc, hx⟩ := hc
    have he := holds_e hx
    have hf : folB C P G grp acc a = true := by rw [← holds_fol he]; exact hx
    have hmem : (mayL C P (persL C acc) acc).getD k 0 ∈ mayL C P (persL C acc) acc := getD_memX (by omega)
    obtain ⟨hok, vals, g, hbel⟩ := (mem_may (pers_is C acc)).1 hmem
    have hhas := bel_has hok hf g hbel
    repeat refine Or.inl ?_
    refine ⟨⟨by omega, by omega⟩, by omega, ?_⟩
    repeat refine Or.inl ?_
    refine ⟨[], _, Has_fn G (by omega) (badQ_no (pose_ok he).1).2.2 grp ((mayL C P (persL C acc) acc).getD k 0) a ha, ?_⟩
    repeat refine Or.inl ?_
    refine ⟨fun h => ?_, fun _ => ?_⟩
    · have h : (!hasG G grp ((mayL C P (persL C acc) acc).getD k 0) a) = true := h
      rw [hhas] at h
      cases h
    exact ⟨k + 1, [], by dsimp only; omega, by dsimp only; omega, rfl, rfl, rfl, rfl, rfl, ⟨rfl, wr (by omega) (by omega)⟩, trivial⟩
  · repeat refine Or.inl ?_
    refine ⟨[], _, Of_fn C P (by omega) (by omega) acc, ?_⟩
    repeat refine Or.inl ?_
    refine ⟨[], .b (hasG G grp (ofY C P (persL C acc) acc).1 a), fun hg => ?_, ?_⟩
    · have h := hg.1
      have h : ((ofY C P (persL C acc) acc).2 && (poseE C P G a == 0)) = true := h
      rw [Bool.and_eq_true, beq_iff_eq] at h
      exact Has_fn G (by omega) (badQ_no (pose_ok h.2).1).2.2 grp _ a ha
    repeat refine Or.inl ?_
    refine ⟨fun h => ?_, fun _ => ?_⟩
    · exfalso
      have h : (((ofY C P (persL C acc) acc).2 && (poseE C P G a == 0)) && (holdsY C P G grp acc a != hasG G grp (ofY C P (persL C acc) acc).1 a)) = true := h
      rw [Bool.and_eq_true, Bool.and_eq_true, beq_iff_eq] at h
      obtain ⟨⟨h1, he⟩, h2⟩ := h
      have hok := (pose_ok he).2.1
      obtain ⟨hw, hall⟩ := (of_true (pers_is C acc)).1 (ofY_eta h1)
      obtain ⟨vals, g⟩ := pose_world he
      have : holdsY C P G grp acc a = hasG G grp (ofY C P (persL C acc) acc).1 a := by
        rw [holds_fol he, Bool.eq_iff_iff]
        constructor
        · exact fun hf => bel_has hok hf g (hall vals g)
        · intro hh
          refine (fol_iff hok).2 fun vals g => ?_
          obtain ⟨i, k1, k2, k3, k4⟩ := hall vals g
          exact ⟨i, k1, k2, by rw [k3]; exact hh, k4⟩
      rw [this] at h2
      simp at h2
    · refine RetIs.b ?_
      show (!holdsY C P G grp acc a || decide (((mayL C P (persL C acc) acc).length : Int) > 0)) = true
      cases hx : holdsY C P G grp acc a with
      | false => rfl
      | true =>
        have he := holds_e hx
        have hok := (pose_ok he).2.1
        rw [holds_fol he] at hx
        obtain ⟨vals, g⟩ := pose_world he
        obtain ⟨i, k1, k2, _, k4⟩ := (fol_iff hok).1 hx vals g
        have hm : (C.getD i dCm).per ∈ mayL C P (persL C acc) acc := (mem_may (pers_is C acc)).2 ⟨hok, vals, g, i, k1, k2, rfl, k4⟩
        have : 0 < (mayL C P (persL C acc) acc).length := List.length_pos_of_mem hm
        rw [decide_eq_true (by omega)]
        rfl
end Go.Proofs.Ytilhaifmfiobhaa
end

section
/-
  Rights: RightsGrow.
-/
namespace Go.Proofs.Ytilhaifmfiobhaa
open Go.Eng

theorem pose_less {C : List Cm} {P : List Pf} {p : Pf} {G : List Gt} {r : Int} (h : poseE C (P ++ [p]) G r = 0) : poseE C P G r = 0 := by
  obtain ⟨hb, hok, hf⟩ := pose_ok h
  obtain ⟨vals, g⟩ := pose_world h
  have hok2 : okCP C P = true := ok_less hok
  unfold poseE
  rw [if_neg (by rw [hb]; decide), if_pos (of_decide_eq_true hok2), if_neg]
  intro hF
  obtain ⟨x, hx, _⟩ := (followsB_iff.1 hF).2.2 vals (by rw [Int.toNat_natCast]; exact wd_more g)
  cases hx
theorem pose_17 {C : List Cm} {P : List Pf} {G : List Gt} {r : Int} (h : poseE C P G r = 17) : okCP C P = true ∧ hasW C P = false := by
  unfold poseE at h
  split at h
  · cases h
  split at h
  · rename_i h0
    split at h
    · rename_i hF
      have hok : okCP C P = true := decide_eq_true h0
      refine ⟨hok, ?_⟩
      rw [← Bool.not_eq_true, hasW_iff]
      rintro ⟨_, vals, g⟩
      obtain ⟨x, hx, _⟩ := (followsB_iff.1 hF).2.2 vals (by rw [Int.toNat_natCast]; exact g)
      cases hx
    · cases h
  · exfalso
    unfold clausesY at h
    split at h
    · split at h <;> cases h
    · cases h
theorem fol_more {C : List Cm} {P : List Pf} {p : Pf} {G : List Gt} {grp a r : Int} (hok : okCP C (P ++ [p]) = true) (h : folB C P G grp a r = true) : folB C (P ++ [p]) G grp a r = true := by
  rw [fol_iff hok]
  rw [fol_iff (ok_less hok)] at h
  exact fun vals g => h vals (wd_more g)
theorem hold_more {C : List Cm} {P : List Pf} {p : Pf} {G : List Gt} {grp r a : Int} (hok : okCP C (P ++ [p]) = true) (h : a ∈ holdL C P G grp r) : a ∈ holdL C (P ++ [p]) G grp r := by
  rw [mem_holdL] at h ⊢
  exact ⟨fol_more hok h.1, h.2⟩
/-- The numbers of a list are those of a part and those that the part lacks. -/
theorem split_len : ∀ {b a : List Int}, b.Pairwise (· < ·) → a.Pairwise (· < ·) → (∀ x ∈ a, x ∈ b) → b.length = a.length + (minusL b a).length
  | b, a, hb, ha, hs => by
    have h1 : a = b.filter (hasN a) := asc_unique ha (hb.filter _) fun x => by
      rw [List.mem_filter, hasN_iff]
      exact ⟨fun h => ⟨hs x h, h⟩, fun h => h.2⟩
    have h2 : b.length = (b.filter (hasN a)).length + (b.filter fun x => !hasN a x).length := by
      rw [← List.countP_eq_length_filter, ← List.countP_eq_length_filter]
      rw [List.length_eq_countP_add_countP (hasN a)]
      congr 1
      refine List.countP_congr fun x _ => ?_
      cases hasN a x <;> simp
    rw [← h1] at h2
    exact h2
theorem erase_last (P : List Pf) (p : Pf) : (P ++ [p]).eraseIdx P.length = P := by
  rw [List.eraseIdx_append_of_length_le (Nat.le_refl _), Nat.sub_self]
  simp

theorem e_ne {x : Int} (h : x ≠ 0) : (x == 0) = false := beq_eq_false_iff_ne.2 h
theorem e_bne {x : Int} (h : x ≠ 0) : (x != 0) = true := bne_iff_ne.2 h
set_option maxRecDepth 20000 in
set_option maxHeartbeats 4000000 in
theorem rightsGrow_fn (C : List Cm) (P : List Pf) (G : List Gt) (grp r : Int) (p : Pf) : Ctr Try.prog 19 [.rs 2 C.length (rowsM C), .rs 3 P.length (rowsP P), .rs 3 G.length (rowsG G), .i .i64 grp, .i .i64 r, .ag p.av] [] (.b true) := by
  refine fn_of_exec tabOk Try.func19 (by kernel_rfl) rfl (N := Try.f19.ntmps) rfl (res := [.tmp 12]) rfl rfl [] ?_
  repeat refine Or.inl ?_
  refine ⟨[], _, smallR_fn, ?_⟩
  repeat refine Or.inl ?_
  refine ⟨[], _, few27_fn C P G, ?_⟩
  repeat refine Or.inl ?_
  refine ⟨fun _ => RetIs.b rfl, fun h => ?_⟩
  have h : (!((decide ((C.length : Int) ≤ 8) && decide ((P.length : Int) ≤ 10)) && decide ((G.length : Int) ≤ 12)) || decide ((P.length : Int) > 9)) = false := h
  rw [Bool.or_eq_false_iff, Bool.not_eq_false', Bool.and_eq_true, Bool.and_eq_true, decide_eq_true_eq, decide_eq_true_eq, decide_eq_true_eq, decide_eq_false_iff_not] at h
  obtain ⟨⟨⟨hC, _⟩, hG⟩, hP⟩ := h
  have hQl : (P ++ [p]).length = P.length + 1 := by rw [List.length_append]; rfl
  repeat refine Or.inl ?_
  refine ⟨fits (by omega), ?_⟩
  repeat refine Or.inl ?_
  refine ⟨fits (by omega), ?_⟩
  have av5 : ∀ f, AVsEq [.rs 2 C.length (rowsM C), .rs 3 (P ++ [p]).length (rowsP (P ++ [p])), .rs 3 G.length (rowsG G), .i .i64 grp, .i .i64 r] [.rs 2 C.length (rowsM C), .rs 3 (0 + P.length + 1) (catG (0 + P.length) (catG 0 f (rowsP P)) (rowOf 3 p.av)), .rs 3 G.length (rowsG G), .i .i64 grp, .i .i64 r] := fun f => ⟨AVEq.refl _, snocP_av f P p, AVEq.refl _, AVEq.refl _, AVEq.refl _⟩
  have av6 : ∀ f, AVsEq [.rs 2 C.length (rowsM C), .rs 3 (P ++ [p]).length (rowsP (P ++ [p])), .rs 3 G.length (rowsG G), .i .i64 grp, .i .i64 r, .i .i64 P.length] [.rs 2 C.length (rowsM C), .rs 3 (0 + P.length + 1) (catG (0 + P.length) (catG 0 f (rowsP P)) (rowOf 3 p.av)), .rs 3 G.length (rowsG G), .i .i64 grp, .i .i64 r, .i .i64 P.length] := fun f => ⟨AVEq.refl _, snocP_av f P p, AVEq.refl _, AVEq.refl _, AVEq.refl _, AVEq.refl _⟩
  by_cases e1 : poseE C P G r = 0
  · by_cases e2 : poseE C (P ++ [p]) G r = 0
    · have hok := (pose_ok e2).2.1
      have lost := Lost_yes C (P ++ [p]) G P.length (by omega) (by omega) (by omega) grp r (by omega) e2 (by rw [erase_last]; exact e1)
      rw [erase_last] at lost
      have hA := Holders_yes C P G (by omega) (by omega) (by omega) grp r e1
      have hB := Holders_yes C (P ++ [p]) G (by omega) (by omega) (by omega) grp r e2
      have hG2 := Gained_yes C P G p (by omega) (by omega) (by omega) grp r e1 e2
      have hsub : ∀ x ∈ holdL C P G grp r, x ∈ holdL C (P ++ [p]) G grp r := fun x h => hold_more hok h
      have hbasc := holdL_asc C (P ++ [p]) G grp r
      have hl := split_len hbasc (holdL_asc C P G grp r) hsub
      have hfl : ((holdL C (P ++ [p]) G grp r).filter (hasN (holdL C P G grp r))) = holdL C P G grp r := (asc_unique (holdL_asc C P G grp r) (hbasc.filter _) fun x => by
        rw [List.mem_filter, hasN_iff]
        exact ⟨fun h => ⟨hsub x h, h⟩, fun h => h.2⟩).symm
      have lb := holdL_len C (P ++ [p]) G grp r
      have la := holdL_len C P G grp r
      generalize holdL C (P ++ [p]) G grp r = B at lost hB hG2 hsub hbasc hl hfl lb
      generalize holdL C P G grp r = A at lost hA hG2 hsub hl hfl la
      have lc := minusL_len B A
      have hmem : ∀ x, x ∈ minusL B A ↔ x ∈ B ∧ x ∉ A := fun x => mem_minus
      generalize minusL B A = D at lost hG2 hl lc hmem
      repeat refine Or.inl ?_
      refine ⟨_, _, hA, ?_⟩
      repeat refine Or.inl ?_
      refine ⟨_, _, Ctr.of_eq (av5 _) hB, ?_⟩
      repeat refine Or.inl ?_
      refine ⟨_, _, hG2, ?_⟩
      repeat refine Or.inl ?_
      refine ⟨_, _, Ctr.of_eq (av6 _) lost, ?_⟩
      repeat refine Or.inl ?_
      refine ⟨fun h => ?_, fun _ => ?_⟩
      · have h : (((0 : Int) == 0) && ((0 : Int) == 17)) = true := h
        exact absurd h (by decide)
      repeat refine Or.inl ?_
      refine ⟨fun h => ?_, fun _ => ?_⟩
      · have h : (((0 : Int) != 0) || ((0 : Int) != 0)) = true := h
        exact absurd h (by decide)
      repeat refine Or.inl ?_
      refine ⟨[], _, fun _ => ints26_same D (by omega), ?_⟩
      repeat refine Or.inl ?_
      refine ⟨fun h => ?_, fun _ => ?_⟩
      · have h : (((((0 : Int) != 0) || ((0 : Int) != 0)) || !true) || ((B.length : Int) != IntKind.i64.wrap ((A.length : Int) + D.length))) = true := h
        rw [wr (by omega) (by omega), hl] at h
        simp at h
      repeat refine Or.inl ?_
      refine ⟨[], Nat, fun k => k ≤ B.length, fun k => [⟨24, [], .i .i64 k⟩, ⟨23, [], .i .i64 ((B.take k).filter (hasN A)).length⟩], fun _ => [], fun k => B.length - k,
        ⟨0, [], Nat.zero_le _, rfl, rfl, rfl, rfl, rfl, ⟨⟨rfl, rfl⟩, ⟨rfl, rfl⟩⟩, trivial⟩, ?_⟩
      intro k hk
      have hk : k ≤ B.length := hk
      refine .inl ⟨fun hc => ?_, fun hc => ?_⟩
      · have hc := dlt hc
        have hc : (k : Int) < B.length := hc
        repeat refine Or.inl ?_
        refine ⟨[], Nat, fun j => j ≤ A.length, fun j => [⟨27, [], .i .i64 j⟩, ⟨25, [], .b ((A.take j).any fun x => x == B.getD k 0)⟩], fun _ => [], fun j => A.length - j,
          ⟨0, [], Nat.zero_le _, rfl, rfl, rfl, rfl, rfl, ⟨⟨rfl, rfl⟩, rfl⟩, trivial⟩, ?_⟩
        intro j hj
        have hj : j ≤ A.length := hj
        refine .inl ⟨fun hc2 => ?_, fun hc2 => ?_⟩
        · have hc2 := dlt hc2
          have hc2 : (j : Int) < A.length := hc2
          repeat refine Or.inl ?_
          refine ⟨fun _ => ⟨by omega, by omega⟩, ?_⟩
          repeat refine Or.inl ?_
          refine ⟨fun _ => by omega, ?_⟩
          repeat refine Or.inl ?_
          refine ⟨fun _ => ⟨by omega, by omega⟩, ?_⟩
          repeat refine Or.inl ?_
          refine ⟨fun _ => by omega, ?_⟩
          refine ⟨j + 1, [], by dsimp only; omega, by dsimp only; omega, rfl, rfl, rfl, rfl, rfl, ⟨⟨rfl, wr (by omega) (by omega)⟩, ?_⟩, trivial⟩
          exact (any_take_succ 0 (fun x => x == B.getD k 0) A (by omega)).symm
        · have hc2 := dnlt hc2
          have hc2 : (A.length : Int) ≤ j := hc2
          obtain rfl : j = A.length := by omega
          rw [List.take_length]
          repeat refine Or.inl ?_
          refine ⟨[], Nat, fun j => j ≤ D.length, fun j => [⟨28, [], .i .i64 j⟩, ⟨26, [], .b ((D.take j).any fun x => x == B.getD k 0)⟩], fun _ => [], fun j => D.length - j,
            ⟨0, [], Nat.zero_le _, rfl, rfl, rfl, rfl, rfl, ⟨⟨rfl, rfl⟩, rfl⟩, trivial⟩, ?_⟩
          intro i hi
          have hi : i ≤ D.length := hi
          refine .inl ⟨fun hc3 => ?_, fun hc3 => ?_⟩
          · have hc3 := dlt hc3
            have hc3 : (i : Int) < D.length := hc3
            repeat refine Or.inl ?_
            refine ⟨fun _ => ⟨by omega, by omega⟩, ?_⟩
            repeat refine Or.inl ?_
            refine ⟨fun _ => by omega, ?_⟩
            repeat refine Or.inl ?_
            refine ⟨fun _ => ⟨by omega, by omega⟩, ?_⟩
            repeat refine Or.inl ?_
            refine ⟨fun _ => by omega, ?_⟩
            refine ⟨i + 1, [], by dsimp only; omega, by dsimp only; omega, rfl, rfl, rfl, rfl, rfl, ⟨⟨rfl, wr (by omega) (by omega)⟩, ?_⟩, trivial⟩
            exact (any_take_succ 0 (fun x => x == B.getD k 0) D (by omega)).symm
          · have hc3 := dnlt hc3
            have hc3 : (D.length : Int) ≤ i := hc3
            obtain rfl : i = D.length := by omega
            rw [List.take_length]
            have hbk : B.getD k 0 ∈ B := getD_memX (by omega)
            have hnow : (D.any fun x => x == B.getD k 0) = !(A.any fun x => x == B.getD k 0) := by
              rw [Bool.eq_iff_iff, Bool.not_eq_true', ← Bool.not_eq_true]
              simp only [List.any_eq_true, beq_iff_eq, exists_eq_right]
              rw [hmem]
              exact ⟨fun h => h.2, fun h => ⟨hbk, h⟩⟩
            have hst : (B.take (k + 1)).filter (hasN A) = if hasN A (B.getD k 0) = true then (B.take k).filter (hasN A) ++ [B.getD k 0] else (B.take k).filter (hasN A) := filter_succ (hasN A) B (by omega)
            have hold : (A.any fun x => x == B.getD k 0) = hasN A (B.getD k 0) := by
              rw [Bool.eq_iff_iff, hasN_iff]
              simp only [List.any_eq_true, beq_iff_eq, exists_eq_right]
            have hnl : ((B.take k).filter (hasN A)).length ≤ k := Nat.le_trans (List.length_filter_le _ _) (by rw [List.length_take]; omega)
            rw [hnow, hold]
            have wk : (k : Int) > 0 → IntKind.i64.wrap ((k : Int) - 1) = ((k - 1 : Nat) : Int) := fun h => by rw [wr (by omega) (by omega)]; omega
            repeat refine Or.inl ?_
            refine ⟨fun hg => ?_, ?_⟩
            · have h0 : decide ((k : Int) > 0) = true := hg.1
              rw [decide_eq_true_eq] at h0
              rw [wk h0]
              exact ⟨by omega, by omega⟩
            repeat refine Or.inl ?_
            refine ⟨fun hg => ?_, ?_⟩
            · have h0 : decide ((k : Int) > 0) = true := hg.1
              rw [decide_eq_true_eq] at h0
              rw [wk h0]
              omega
            repeat refine Or.inl ?_
            refine ⟨fun _ => ⟨by omega, by omega⟩, ?_⟩
            repeat refine Or.inl ?_
            refine ⟨fun _ => by omega, ?_⟩
            repeat refine Or.inl ?_
            refine ⟨fun h => ?_, fun _ => ?_⟩
            · exfalso
              have h : ((hasN A (B.getD k 0) == !hasN A (B.getD k 0)) || (decide ((k : Int) > 0) && decide (B.getD (IntKind.i64.wrap ((k : Int) - 1)).toNat 0 ≥ B.getD k 0))) = true := h
              have hx : (hasN A (B.getD k 0) == !hasN A (B.getD k 0)) = false := by cases hasN A (B.getD k 0) <;> rfl
              rw [hx, Bool.false_or, Bool.and_eq_true, decide_eq_true_eq, decide_eq_true_eq] at h
              obtain ⟨h0, h1⟩ := h
              rw [wk h0, Int.toNat_natCast] at h1
              have := asc_at hbasc (i := k - 1) (j := k) (by omega) (by omega)
              omega
            repeat refine Or.inl ?_
            refine ⟨fun h => ?_, fun h => ?_⟩
            · have h : hasN A (B.getD k 0) = true := h
              rw [if_pos h] at hst
              refine ⟨k + 1, [], by dsimp only; omega, by dsimp only; omega, rfl, rfl, rfl, rfl, rfl, ⟨⟨rfl, wr (by omega) (by omega)⟩, ⟨rfl, ?_⟩⟩, trivial⟩
              rw [hst, List.length_append, List.length_singleton, wr (by omega) (by omega)]
              omega
            · have h : hasN A (B.getD k 0) = false := h
              rw [if_neg (by rw [h]; decide)] at hst
              refine ⟨k + 1, [], by dsimp only; omega, by dsimp only; omega, rfl, rfl, rfl, rfl, rfl, ⟨⟨rfl, wr (by omega) (by omega)⟩, ⟨rfl, ?_⟩⟩, trivial⟩
              rw [hst]
      · have hc := dnlt hc
        have hc : (B.length : Int) ≤ k := hc
        obtain rfl : k = B.length := by omega
        refine RetIs.b ?_
        show (true && ((((B.take B.length).filter (hasN A)).length : Int) == A.length)) = true
        rw [List.take_length, hfl]
        simp
    · repeat refine Or.inl ?_
      refine ⟨_, _, Holders_yes C P G (by omega) (by omega) (by omega) grp r e1, ?_⟩
      repeat refine Or.inl ?_
      refine ⟨[], _, Ctr.of_eq (av5 _) (Holders_no C (P ++ [p]) G (by omega) (by omega) (by omega) grp r e2), ?_⟩
      repeat refine Or.inl ?_
      refine ⟨[], _, Gained_e2 C P G p (by omega) (by omega) (by omega) grp r e1 e2, ?_⟩
      repeat refine Or.inl ?_
      refine ⟨[], _, Ctr.of_eq (av6 _) (Lost_e1 C (P ++ [p]) G P.length (by omega) (by omega) (by omega) grp r (by omega) e2), ?_⟩
      repeat refine Or.inl ?_
      refine ⟨fun h => ?_, fun _ => ?_⟩
      · have h : (((0 : Int) == 0) && (poseE C (P ++ [p]) G r == 17)) = true := h
        rw [Bool.and_eq_true, beq_iff_eq, beq_iff_eq] at h
        obtain ⟨hok, hw⟩ := pose_17 h.2
        obtain ⟨l, hl⟩ : ∃ l, conflictY C (P ++ [p]) = some l := by
          cases e : conflictY C (P ++ [p]) with
          | some l => exact ⟨l, rfl⟩
          | none =>
            have := (conY_none hok).1 e
            rw [hw] at this
            cases this
        have hne : l ≠ [] := confS_ne (conY_some hok hl).2.1
        have hpos : 0 < l.length := List.length_pos_iff.2 hne
        have hcf := Conflict_fn C (P ++ [p]) (by omega) (by omega)
        rw [hl] at hcf
        repeat refine Or.inl ?_
        refine ⟨_, _, fun _ => Ctr.of_eq (args := [.rs 2 C.length (rowsM C), .rs 3 (P ++ [p]).length (rowsP (P ++ [p]))]) ⟨AVEq.refl _, snocP_av _ P p⟩ hcf, ?_⟩
        refine RetIs.b ?_
        show ((((true && (poseE C (P ++ [p]) G r == 17)) && ((0 : Int) == 0)) && (poseE C (P ++ [p]) G r == 17)) && decide ((l.length : Int) > 0)) = true
        rw [h.2, decide_eq_true (by omega)]
        rfl
      · repeat refine Or.inl ?_
        refine ⟨fun _ => RetIs.b ?_, fun h => ?_⟩
        · show (((true && (poseE C (P ++ [p]) G r != 0)) && (poseE C (P ++ [p]) G r != 0)) && (IntKind.i64.wrap ((0 : Int) + 0) == 0)) = true
          rw [e_bne e2]
          rfl
        · have h : (((0 : Int) != 0) || (poseE C (P ++ [p]) G r != 0)) = false := h
          rw [e_bne e2] at h
          cases h
  · have e2 : poseE C (P ++ [p]) G r ≠ 0 := fun h => e1 (pose_less h)
    repeat refine Or.inl ?_
    refine ⟨[], _, Holders_no C P G (by omega) (by omega) (by omega) grp r e1, ?_⟩
    repeat refine Or.inl ?_
    refine ⟨[], _, Ctr.of_eq (av5 _) (Holders_no C (P ++ [p]) G (by omega) (by omega) (by omega) grp r e2), ?_⟩
    repeat refine Or.inl ?_
    refine ⟨[], _, Gained_e1 C P G p (by omega) (by omega) (by omega) grp r e1, ?_⟩
    repeat refine Or.inl ?_
    refine ⟨[], _, Ctr.of_eq (av6 _) (Lost_e1 C (P ++ [p]) G P.length (by omega) (by omega) (by omega) grp r (by omega) e2), ?_⟩
    repeat refine Or.inl ?_
    refine ⟨fun h => ?_, fun _ => ?_⟩
    · have h : ((poseE C P G r == 0) && (poseE C (P ++ [p]) G r == 17)) = true := h
      rw [e_ne e1] at h
      cases h
    repeat refine Or.inl ?_
    refine ⟨fun _ => RetIs.b ?_, fun h => ?_⟩
    · show (((true && (poseE C P G r != 0)) && (poseE C (P ++ [p]) G r != 0)) && (IntKind.i64.wrap ((0 : Int) + 0) == 0)) = true
      rw [e_bne e1, e_bne e2]
      rfl
    · have h : ((poseE C P G r != 0) || (poseE C (P ++ [p]) G r != 0)) = false := h
      rw [e_bne e1] at h
      cases h
end Go.Proofs.Ytilhaifmfiobhaa
end
