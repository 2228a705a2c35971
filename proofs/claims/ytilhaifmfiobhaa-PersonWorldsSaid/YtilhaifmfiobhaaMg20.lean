/-
  Several texts in one: Z6p, Z6.
-/
import Derived.Test.YtilhaifmfiobhaaMg19

section
/-
  Worlds of persons; plain Lean, no program in sight.
-/
namespace Go.Proofs.Ytilhaifmfiobhaa
open Go.Eng

theorem wd_check {C : List Cm} {P : List Pf} (hok : okCP C P = true) {vals : List Bool} : checkB (clausesL C P) C.length vals = true ↔ Wd C P vals := by
  rw [checkB_iff, Int.toNat_natCast]
  exact ⟨fun h => h.2, fun h => ⟨clausesL_right (okCP_iff.1 hok).1 (okCP_iff.1 hok).2, h⟩⟩
theorem mem_wldL {C : List Cm} {P : List Pf} (hok : okCP C P = true) {w : List Bool} : w ∈ wldL C P ↔ Wd C P w := by
  unfold wldL wldT
  rw [List.mem_filter, wd_check hok]
  constructor
  · exact fun h => h.2
  · intro h
    refine ⟨?_, h⟩
    obtain ⟨e1, e2⟩ := after_num C.length w h.len
    exact List.mem_map.2 ⟨numOf w, List.mem_range.2 e2, e1⟩
theorem wldL_num (C : List Cm) (P : List Pf) : (wldL C P).Pairwise fun u v => numOf u < numOf v := by
  unfold wldL wldT
  refine List.Pairwise.filter _ ?_
  rw [List.pairwise_map]
  refine List.Pairwise.imp_of_mem (fun ha hb hab => ?_) (List.pairwise_lt_range (n := 2 ^ C.length))
  rw [num_after _ _ (List.mem_range.1 ha), num_after _ _ (List.mem_range.1 hb)]
  exact hab
theorem wldL_has {C : List Cm} {P : List Pf} (hok : okCP C P = true) : hasW C P = true ↔ 0 < (wldL C P).length := by
  rw [hasW_iff, List.length_pos_iff_exists_mem]
  exact ⟨fun ⟨_, v, h⟩ => ⟨v, (mem_wldL hok).2 h⟩, fun ⟨v, h⟩ => ⟨hok, v, (mem_wldL hok).1 h⟩⟩
theorem less_num {x y : List Bool} {n : Nat} (hx : x.length = n) (hy : y.length = n) (h : numOf x < numOf y) : lessB x y = true := by
  unfold lessB
  cases e : (List.range x.length).find? (fun i => x.getD i false != y.getD i false) with
  | none =>
    rw [List.find?_eq_none] at e
    have : x = y := by
      refine List.ext_getElem (hx.trans hy.symm) fun i h1 h2 => ?_
      have := e i (List.mem_range.2 h1)
      simp [List.getD, h1, h2] at this
      exact this
    rw [this] at h
    omega
  | some i =>
    obtain ⟨h1, k, hk, hki, h2⟩ := List.find?_eq_some_iff_getElem.1 e
    rw [List.getElem_range] at hki
    subst hki
    rw [List.length_range] at hk
    have h3 : ∀ w, w < k → y.getD w false = x.getD w false := fun w hw => by
      have := h2 w hw
      rw [List.getElem_range] at this
      have : (x.getD w false != y.getD w false) = false := by simpa using this
      exact (bne_eq_false_iff_eq.1 this).symm
    show y.getD k false = true
    cases hyk : y.getD k false with
    | true => rfl
    | false =>
      have hxk : x.getD k false = true := by
        rw [hyk] at h1
        simpa using h1
      have := numOf_lt n y x hy hx k (by omega) h3 hyk hxk
      omega
theorem getD_memW {L : List (List Bool)} {k : Nat} (h : k < L.length) : L.getD k [] ∈ L := by rw [gdX h]; exact List.getElem_mem h
theorem wld_less {C : List Cm} {P : List Pf} (hok : okCP C P = true) {i j : Nat} (hij : i < j) (hj : j < (wldL C P).length) : lessB ((wldL C P).getD i []) ((wldL C P).getD j []) = true := by
  refine less_num ((mem_wldL hok).1 (getD_memW (by omega))).len ((mem_wldL hok).1 (getD_memW hj)).len ?_
  have := List.pairwise_iff_getElem.1 (wldL_num C P) i j (by omega) hj hij
  rwa [← gdX (d := []) (by omega), ← gdX (d := []) hj] at this
/-! ### how many -/
def wldB (C : List Cm) (P : List Pf) (k : Nat) : List (List Bool) := ((List.range k).map (bitL C.length)).filter fun w => checkB (clausesL C P) C.length w
theorem wldB_succ (C : List Cm) (P : List Pf) (k : Nat) : (wldB C P (k + 1)).length = (wldB C P k).length + (if checkB (clausesL C P) C.length (bitL C.length k) = true then 1 else 0) := by
  unfold wldB
  rw [List.range_succ, List.map_append, List.filter_append, List.length_append]
  by_cases h : checkB (clausesL C P) C.length (bitL C.length k) = true
  · rw [if_pos h, List.map_cons, List.map_nil, List.filter_cons_of_pos h]; rfl
  · rw [if_neg h, List.map_cons, List.map_nil, List.filter_cons_of_neg h]; rfl
theorem wldB_le (C : List Cm) (P : List Pf) (k : Nat) : (wldB C P k).length ≤ k := by
  refine Nat.le_trans (List.length_filter_le _ _) ?_
  simp
/-- The number of an assignment, the first claim with the least weight. -/
def numB : List Bool → Nat
  | [] => 0
  | b :: r => (if b then 1 else 0) + 2 * numB r
theorem bitL_cons (n k : Nat) : bitL (n + 1) k = decide (k % 2 = 1) :: bitL n (k / 2) := by
  unfold bitL
  rw [List.range_succ_eq_map, List.map_cons, List.map_map]
  congr 1
  · simp
  · refine List.map_congr_left fun i _ => ?_
    show decide (k / 2 ^ (i + 1) % 2 = 1) = decide (k / 2 / 2 ^ i % 2 = 1)
    rw [Nat.pow_succ', Nat.div_div_eq_div_mul]
theorem numB_bit : ∀ (n k : Nat), k < 2 ^ n → numB (bitL n k) = k
  | 0, k, h => by
    have : k = 0 := by simpa using h
    rw [this]
    rfl
  | n + 1, k, h => by
    have hp : 2 ^ (n + 1) = 2 * 2 ^ n := by rw [Nat.pow_succ, Nat.mul_comm]
    rw [bitL_cons]
    unfold numB
    rw [numB_bit n (k / 2) (by omega)]
    by_cases hk : k % 2 = 1
    · rw [decide_eq_true hk, if_pos rfl]; omega
    · rw [decide_eq_false hk, if_neg (by decide)]; omega
theorem many_eq {C : List Cm} {P : List Pf} (hok : okCP C P = true) : (wldB C P (2 ^ C.length)).length = (wldL C P).length := by
  have n1 : (wldL C P).Nodup := (wldL_num C P).imp fun h e => by rw [e] at h; omega
  have n2 : (wldB C P (2 ^ C.length)).Nodup := by
    unfold wldB
    refine List.Pairwise.filter _ ?_
    rw [List.pairwise_map]
    refine List.Pairwise.imp_of_mem (fun ha hb hab e => ?_) (List.pairwise_lt_range (n := 2 ^ C.length))
    have := congrArg numB e
    rw [numB_bit _ _ (List.mem_range.1 ha), numB_bit _ _ (List.mem_range.1 hb)] at this
    omega
  refine ((List.perm_ext_iff_of_nodup n2 n1).2 fun w => ?_).length_eq
  rw [mem_wldL hok]
  unfold wldB
  rw [List.mem_filter, wd_check hok]
  constructor
  · exact fun h => h.2
  · intro h
    refine ⟨?_, h⟩
    obtain ⟨k, hk, e⟩ := bitL_all C.length w h.len
    exact List.mem_map.2 ⟨k, List.mem_range.2 hk, e⟩
/-! ### to whom an account belongs -/
theorem inW_bel {C : List Cm} {P : List Pf} (hR : RightCP C P) {w : List Bool} (h : Wd C P w) {a p : Int} : Bel C w a p ↔ inW C w a = p ∧ 0 ≤ p := by
  unfold inW
  cases e : (List.range C.length).find? (inQ C w a) with
  | none =>
    rw [List.find?_eq_none] at e
    constructor
    · rintro ⟨i, hi, h1, h2, h3⟩
      refine absurd ?_ (e i (List.mem_range.2 hi))
      unfold inQ
      rw [h3, h1]
      simp
    · rintro ⟨rfl, hp⟩
      exact absurd (show (0 : Int) ≤ -1 from hp) (by decide)
  | some i =>
    obtain ⟨h1, k, hk, hki, _⟩ := List.find?_eq_some_iff_getElem.1 e
    rw [List.getElem_range] at hki
    subst hki
    rw [List.length_range] at hk
    unfold inQ at h1
    rw [Bool.and_eq_true, beq_iff_eq] at h1
    have hb : Bel C w a (C.getD k dCm).per := ⟨k, hk, h1.2, rfl, h1.1⟩
    constructor
    · intro h2
      have := bel_one h hb h2
      exact ⟨this, by rw [← this]; exact (hR.cm k hk).2.1⟩
    · rintro ⟨rfl, _⟩
      exact hb
def alwB (C : List Cm) (W : List (List Bool)) (a : Int) : Bool := W.all fun w => decide (inW C w a ≥ 0) && (inW C w a == inW C (W.getD 0 []) a)
def samB (C : List Cm) (W : List (List Bool)) (a b : Int) : Bool := W.all fun w => decide (inW C w a ≥ 0) && (inW C w a == inW C w b)
theorem of_alw {C : List Cm} {P : List Pf} (hok : okCP C P = true) (a : Int) : (ofY C P (persL C a) a).2 = (decide (((wldL C P).length : Int) > 0) && alwB C (wldL C P) a) := by
  have hR := (okCP_iff.1 hok).1
  rw [Bool.eq_iff_iff, of_snd (pers_is C a), wldL_has hok, Bool.and_eq_true, decide_eq_true_eq]
  unfold alwB
  rw [List.all_eq_true]
  constructor
  · rintro ⟨h1, p, h2⟩
    refine ⟨by omega, fun w hw => ?_⟩
    have e1 := (inW_bel hR ((mem_wldL hok).1 hw)).1 (h2 w ((mem_wldL hok).1 hw))
    have hw0 := (mem_wldL hok).1 (getD_memW (L := wldL C P) (k := 0) h1)
    have e2 := (inW_bel hR hw0).1 (h2 _ hw0)
    rw [Bool.and_eq_true, decide_eq_true_eq, beq_iff_eq]
    exact ⟨by rw [e1.1]; exact e1.2, e1.1.trans e2.1.symm⟩
  · rintro ⟨h1, h2⟩
    refine ⟨by omega, inW C ((wldL C P).getD 0 []) a, fun vals hv => ?_⟩
    have := h2 vals ((mem_wldL hok).2 hv)
    rw [Bool.and_eq_true, decide_eq_true_eq, beq_iff_eq] at this
    exact (inW_bel hR hv).2 ⟨this.2, by rw [← this.2]; exact this.1⟩
theorem of_in {C : List Cm} {P : List Pf} (hok : okCP C P = true) {a : Int} (h : (ofY C P (persL C a) a).2 = true) (h0 : 0 < (wldL C P).length) : (ofY C P (persL C a) a).1 = inW C ((wldL C P).getD 0 []) a := by
  have hR := (okCP_iff.1 hok).1
  have h1 := (of_true (pers_is C a)).1 (show ofY C P (persL C a) a = ((ofY C P (persL C a) a).1, true) from Prod.ext rfl h)
  have hw0 := (mem_wldL hok).1 (getD_memW (L := wldL C P) (k := 0) h0)
  exact ((inW_bel hR hw0).1 (h1.2 _ hw0)).1.symm
theorem same_sam {C : List Cm} {P : List Pf} (hok : okCP C P = true) (a b : Int) : sameB C P (persL C a) a b = (decide (((wldL C P).length : Int) > 0) && samB C (wldL C P) a b) := by
  have hR := (okCP_iff.1 hok).1
  rw [Bool.eq_iff_iff, same_iff (pers_is C a), wldL_has hok, Bool.and_eq_true, decide_eq_true_eq]
  unfold samB
  rw [List.all_eq_true]
  constructor
  · rintro ⟨h1, h2⟩
    refine ⟨by omega, fun w hw => ?_⟩
    obtain ⟨p, h3, h4⟩ := h2 w ((mem_wldL hok).1 hw)
    have e1 := (inW_bel hR ((mem_wldL hok).1 hw)).1 h3
    have e2 := (inW_bel hR ((mem_wldL hok).1 hw)).1 h4
    rw [Bool.and_eq_true, decide_eq_true_eq, beq_iff_eq]
    exact ⟨by rw [e1.1]; exact e1.2, e1.1.trans e2.1.symm⟩
  · rintro ⟨h1, h2⟩
    refine ⟨by omega, fun vals hv => ?_⟩
    have := h2 vals ((mem_wldL hok).2 hv)
    rw [Bool.and_eq_true, decide_eq_true_eq, beq_iff_eq] at this
    exact ⟨inW C vals a, (inW_bel hR hv).2 ⟨rfl, this.1⟩, (inW_bel hR hv).2 ⟨this.2.symm, this.1⟩⟩
theorem may_in {C : List Cm} {P : List Pf} (hok : okCP C P = true) {a : Int} {w : List Bool} (hw : w ∈ wldL C P) (h : 0 ≤ inW C w a) : inW C w a ∈ mayL C P (persL C a) a :=
  (mem_may (pers_is C a)).2 ⟨hok, w, (mem_wldL hok).1 hw, (inW_bel (okCP_iff.1 hok).1 ((mem_wldL hok).1 hw)).2 ⟨rfl, h⟩⟩
theorem in_may {C : List Cm} {P : List Pf} (hok : okCP C P = true) {a p : Int} (h : p ∈ mayL C P (persL C a) a) : ((wldL C P).any fun w => inW C w a == p) = true := by
  obtain ⟨_, w, hw, hb⟩ := (mem_may (pers_is C a)).1 h
  rw [List.any_eq_true]
  exact ⟨w, (mem_wldL hok).2 hw, by rw [beq_iff_eq]; exact ((inW_bel (okCP_iff.1 hok).1 hw).1 hb).1⟩
end Go.Proofs.Ytilhaifmfiobhaa
end

section
/-
  PersonWorlds.
-/
namespace Go.Proofs.Ytilhaifmfiobhaa
open Go.Eng

theorem any_eqY {l : List Int} {x : Int} : (l.any fun y => y == x) = true ↔ x ∈ l := by simp
theorem all_upto_succ {α : Type} (d : α) (p : α → Bool) (l : List α) (k : Nat) (h : k < l.length) : (l.take (k + 1)).all p = ((l.take k).all p && p (l.getD k d)) := by
  rw [List.take_succ_eq_append_getElem h, List.all_append]
  simp [List.getD, h]

set_option maxRecDepth 20000 in
set_option maxHeartbeats 16000000 in
theorem personWorlds_fn (C : List Cm) (P : List Pf) (a b : Int) : Ctr Try.prog 13 [.rs 2 C.length (rowsM C), .rs 3 P.length (rowsP P), .i .i64 a, .i .i64 b] [] (.b true) := by
  refine fn_of_exec tabOk Try.func13 (by kernel_rfl) rfl (N := Try.f13.ntmps) rfl (res := [.tmp 8]) rfl rfl [] ?_
  repeat refine Or.inl ?_
  refine ⟨[], _, smallP_fn, ?_⟩
  repeat refine Or.inl ?_
  refine ⟨[], _, few26_fn C P 8, ?_⟩
  repeat refine Or.inl ?_
  refine ⟨fun _ => RetIs.b rfl, fun h => ?_⟩
  obtain ⟨hC, hP⟩ := few_false h
  have cl := Clauses_fn C P (by omega) (by omega)
  rcases Clauses_or (C := C) (P := P) with ⟨hok, e⟩ | ⟨hok, k, hk, e⟩
  rotate_left
  · have wn := Worlds_no C P (by omega) (by omega) 256 hok
    rw [e] at wn
    rw [e, (okC_no hk).1, (okC_no hk).2] at cl
    repeat refine Or.inl ?_
    refine ⟨_, _, cl, ?_⟩
    repeat refine Or.inl ?_
    refine ⟨_, _, wn, ?_⟩
    repeat refine Or.inl ?_
    refine ⟨fun _ => ?_, fun h => ?_⟩
    · refine RetIs.b ?_
      show ((true && (k == k)) && ((0 : Int) == 0)) = true
      rw [beq_self_eq_true]
      rfl
    · have h : (k != 0) = false := h
      rw [bne_eq_false_iff_eq] at h
      exact absurd h hk
  obtain ⟨hR, hlen⟩ := okCP_iff.1 hok
  rw [e] at cl
  have cl : Ctr Try.prog 38 [.rs 2 C.length (rowsM C), .rs 3 P.length (rowsP P)] [.row 25 2 (clausesL C P).length (rowsC (clausesL C P))] (.tup [.so 0, .i .i64 0]) := cl
  have hs := shl_one (n := C.length) (by omega)
  have h2p : (2 : Nat) ^ C.length ≤ 2 ^ 8 := Nat.pow_le_pow_right (by decide) (by omega)
  have hwl : (wldL C P).length ≤ 256 := Nat.le_trans (wldT_len C P _) (by omega)
  have hmany := many_eq hok
  have wlen : ∀ i, i < (wldL C P).length → ((wldL C P).getD i []).length = C.length := fun i hi => ((mem_wldL hok).1 (getD_memW hi)).len
  have wck : ∀ i, i < (wldL C P).length → checkB (clausesL C P) C.length ((wldL C P).getD i []) = true := fun i hi => (wd_check hok).2 ((mem_wldL hok).1 (getD_memW hi))
  have O := Of_fn C P (by omega) (by omega) a
  have M := May_fn C P (by omega) (by omega) a
  have S := Same_fn C P (by omega) (by omega) a b
  have hml : (mayL C P (persL C a) a).length ≤ 8 := by
    have := mayL_len C P (persL C a) a
    have := persL_len C a
    omega
  have masc : (mayL C P (persL C a) a).Pairwise (· < ·) := may_asc (pers_is C a)
  repeat refine Or.inl ?_
  refine ⟨_, _, cl, ?_⟩
  refine .inr (.inr ⟨true, [], rfl, _, _, _, _, _, Worlds_yes C P (by omega) (by omega) 256 (by omega) hok, fun _ _ => ?_⟩)
  repeat refine Or.inl ?_
  refine ⟨fun h => (by cases h), fun _ => ?_⟩
  repeat refine Or.inl ?_
  refine ⟨[], Nat, fun k => k ≤ 2 ^ C.length, fun k => [⟨16, [], .i .i64 k⟩, ⟨15, [], .i .i64 (wldB C P k).length⟩], fun _ => [], fun k => 2 ^ C.length - k,
    ⟨0, [], Nat.zero_le _, rfl, rfl, rfl, rfl, rfl, ⟨⟨rfl, rfl⟩, ⟨rfl, rfl⟩⟩, trivial⟩, ?_⟩
  intro k hk
  have hk : k ≤ 2 ^ C.length := hk
  have hbk := wldB_le C P k
  refine .inl ⟨by omega, ⟨fun hc => ?_, fun hc => ?_⟩⟩
  · have hc := dlt hc
    rw [hs] at hc
    have hc : (k : Int) < ((2 ^ C.length : Nat) : Int) := hc
    repeat refine Or.inl ?_
    refine ⟨[(17, 4, 1)], Nat, fun i => i ≤ C.length, fun i => [⟨18, [], .i .i64 i⟩, ⟨17, [], .so 2⟩], fun i => [⟨2, [], .row 4 1 (bitL i k).length (rowsB (bitL i k))⟩], fun i => C.length - i,
      ⟨0, [], Nat.zero_le _, rfl, rfl, rfl, rfl, rfl, ⟨⟨rfl, rfl⟩, rfl⟩, ⟨rfl, rfl, rfl, fun j hj => absurd hj (Nat.not_lt_zero j)⟩⟩, ?_⟩
    intro i hi
    have hi : i ≤ C.length := hi
    have hbl := bitL_len i k
    refine .inl ⟨fun hc2 => ?_, fun hc2 => ?_⟩
    · have hc2 := dlt hc2
      have hc2 : (i : Int) < C.length := hc2
      have sh := shr_nat (k := k) (i := i) (by omega)
      have hq : k / 2 ^ i < 2 ^ 61 := Nat.lt_of_le_of_lt (Nat.div_le_self _ _) (by omega)
      repeat refine Or.inl ?_
      refine ⟨by omega, fits (by omega), ?_⟩
      refine ⟨i + 1, [(2, 4)], by dsimp only; omega, by dsimp only; omega, rfl, rfl, rfl, rfl, rfl, ⟨⟨rfl, wr (by omega) (by omega)⟩, rfl⟩, ?_⟩
      rw [sh]
      refine snocB_row _ (bitsI .and .i64 ((k / 2 ^ i : Nat) : Int) 1 == 1) ?_
      rw [bitL_succ]
      congr 2
      generalize k / 2 ^ i = w at hq ⊢
      rw [Bool.eq_iff_iff, decide_eq_true_eq, beq_iff_eq, bits_even (by omega) (by omega)]
      omega
    · have hc2 := dnlt hc2
      have hc2 : (C.length : Int) ≤ i := hc2
      obtain rfl : i = C.length := by omega
      have hsc := wldB_succ C P k
      repeat refine Or.inl ?_
      refine ⟨[], _, Check_fn (clausesL C P) (by omega) C.length (bitL C.length k) (by omega), ?_⟩
      repeat refine Or.inl ?_
      refine ⟨fun h => ?_, fun h => ?_⟩
      · have h : checkB (clausesL C P) C.length (bitL C.length k) = true := h
        rw [if_pos h] at hsc
        exact ⟨k + 1, [], by dsimp only; omega, by dsimp only; omega, rfl, rfl, rfl, rfl, rfl, ⟨⟨rfl, wr (by omega) (by omega)⟩, ⟨rfl, by rw [hsc]; exact wr (by omega) (by omega)⟩⟩, trivial⟩
      · have h : checkB (clausesL C P) C.length (bitL C.length k) = false := h
        rw [if_neg (by rw [h]; decide)] at hsc
        exact ⟨k + 1, [], by dsimp only; omega, by dsimp only; omega, rfl, rfl, rfl, rfl, rfl, ⟨⟨rfl, wr (by omega) (by omega)⟩, ⟨rfl, by rw [hsc]; rfl⟩⟩, trivial⟩
  have hc := dnlt hc
  rw [hs] at hc
  have hc : ((2 ^ C.length : Nat) : Int) ≤ (k : Int) := hc
  obtain rfl : k = 2 ^ C.length := by omega
  rw [hmany]
  repeat refine Or.inl ?_
  refine ⟨fun h => ?_, fun _ => ?_⟩
  · have h : (((0 : Int) != 0) || (((wldL C P).length : Int) != ((wldL C P).length : Int))) = true := h
    rw [bne_self_eq_false, bne_self_eq_false] at h
    cases h
  repeat refine Or.inl ?_
  refine ⟨[], _, O, ?_⟩
  repeat refine Or.inl ?_
  refine ⟨_, _, M, ?_⟩
  repeat refine Or.inl ?_
  refine ⟨[], Nat, fun i => i ≤ (wldL C P).length, fun i => [⟨24, [], .i .i64 i⟩, ⟨22, [], .b (decide (((wldL C P).length : Int) > 0) && ((wldL C P).take i).all fun w => decide (inW C w a ≥ 0) && (inW C w a == inW C ((wldL C P).getD 0 []) a))⟩, ⟨23, [], .b (decide (((wldL C P).length : Int) > 0) && ((wldL C P).take i).all fun w => decide (inW C w a ≥ 0) && (inW C w a == inW C w b))⟩], fun _ => [], fun i => (wldL C P).length - i,
    ⟨0, [], Nat.zero_le _, rfl, rfl, rfl, rfl, rfl, ⟨⟨rfl, rfl⟩, (Bool.and_true _).symm, (Bool.and_true _).symm⟩, trivial⟩, ?_⟩
  intro i hi
  have hi : i ≤ (wldL C P).length := hi
  refine .inl ⟨fun hc2 => ?_, fun hc2 => ?_⟩
  · have hc2 := dlt hc2
    have hc2 : (i : Int) < (wldL C P).length := hc2
    have ei : (i : Int).toNat = i := Int.toNat_natCast i
    have hil : i < (wldL C P).length := by omega
    have wi := wlen (i : Int).toNat (by omega)
    have w0 := wlen 0 (by omega)
    have wk : decide ((i : Int) > 0) = true → max (IntKind.i64.wrap ((i : Int) - 1)) 0 = ((i - 1 : Nat) : Int) ∧ 0 < i := fun h => by
      rw [decide_eq_true_eq] at h
      rw [wr (by omega) (by omega)]
      omega
    have wm := wlen (max (IntKind.i64.wrap ((i : Int) - 1)) 0).toNat (by rw [wr (by omega) (by omega)]; omega)
    have I0 := in_fn C ((wldL C P).getD (Int.toNat 0) []) (by omega) w0 a
    have Ia := in_fn C ((wldL C P).getD (i : Int).toNat []) (by omega) wi a
    have Ib := in_fn C ((wldL C P).getD (i : Int).toNat []) (by omega) wi b
    repeat refine Or.inl ?_
    refine ⟨⟨by omega, by omega⟩, by omega, fun _ => ⟨by omega, by omega⟩, fun _ => by omega, ?_⟩
    repeat refine Or.inl ?_
    refine ⟨[], _, fun _ => Check_fn (clausesL C P) (by omega) C.length ((wldL C P).getD (i : Int).toNat []) (by omega), ?_⟩
    refine ⟨fun hg => ⟨by rw [(wk hg.1).1]; omega, by rw [(wk hg.1).1]; omega⟩, fun hg => by rw [(wk hg.1).1]; omega, fun _ => ⟨by omega, by omega⟩, fun _ => by omega, ?_⟩
    repeat refine Or.inl ?_
    refine ⟨[], _, fun _ => less_fn ((wldL C P).getD (max (IntKind.i64.wrap ((i : Int) - 1)) 0).toNat []) ((wldL C P).getD (i : Int).toNat []) (by omega) (by omega), ?_⟩
    repeat refine Or.inl ?_
    refine ⟨fun h => ?_, fun _ => ?_⟩
    · have h : ((((((wldL C P).getD (i : Int).toNat []).length : Int) != C.length) || !checkB (clausesL C P) C.length ((wldL C P).getD (i : Int).toNat [])) || (decide ((i : Int) > 0) && !lessB ((wldL C P).getD (max (IntKind.i64.wrap ((i : Int) - 1)) 0).toNat []) ((wldL C P).getD (i : Int).toNat []))) = true := h
      rw [wi, bne_self_eq_false, wck _ (by omega)] at h
      have h : (decide ((i : Int) > 0) && !lessB ((wldL C P).getD (max (IntKind.i64.wrap ((i : Int) - 1)) 0).toNat []) ((wldL C P).getD (i : Int).toNat [])) = true := h
      rw [Bool.and_eq_true] at h
      obtain ⟨k1, k2⟩ := wk h.1
      rw [k1, ei, Int.toNat_natCast, wld_less hok (by omega) hil] at h
      cases h.2
    repeat refine Or.inl ?_
    refine ⟨⟨by omega, by omega⟩, by omega, ?_⟩
    repeat refine Or.inl ?_
    refine ⟨[], _, Ia, ?_⟩
    repeat refine Or.inl ?_
    refine ⟨⟨by omega, by omega⟩, by omega, ?_⟩
    repeat refine Or.inl ?_
    refine ⟨[], _, Ib, ?_⟩
    repeat refine Or.inl ?_
    refine ⟨fun _ => ⟨by omega, by omega⟩, fun _ => by omega, ?_⟩
    repeat refine Or.inl ?_
    refine ⟨[], _, fun _ => I0, ?_⟩
    repeat refine Or.inl ?_
    refine ⟨[], Nat, fun k => k ≤ (mayL C P (persL C a) a).length, fun k => [⟨28, [], .i .i64 k⟩, ⟨27, [], .b (decide (inW C ((wldL C P).getD (i : Int).toNat []) a < 0) || ((mayL C P (persL C a) a).take k).any fun y => y == inW C ((wldL C P).getD (i : Int).toNat []) a)⟩], fun _ => [], fun k => (mayL C P (persL C a) a).length - k,
      ⟨0, [], Nat.zero_le _, rfl, rfl, rfl, rfl, rfl, ⟨⟨rfl, rfl⟩, (Bool.or_false _).symm⟩, trivial⟩, ?_⟩
    intro k hk
    have hk : k ≤ (mayL C P (persL C a) a).length := hk
    refine .inl ⟨fun hc3 => ?_, fun hc3 => ?_⟩
    · have hc3 := dlt hc3
      have hc3 : (k : Int) < (mayL C P (persL C a) a).length := hc3
      have ek : (k : Int).toNat = k := Int.toNat_natCast k
      repeat refine Or.inl ?_
      refine ⟨fun _ => ⟨by omega, by omega⟩, fun _ => by omega, ?_⟩
      refine ⟨k + 1, [], by dsimp only; omega, by dsimp only; omega, rfl, rfl, rfl, rfl, rfl, ⟨⟨rfl, wr (by omega) (by omega)⟩, ?_⟩, trivial⟩
      rw [any_upto_succ 0 _ _ _ (by omega), ← Bool.or_assoc, ek]
      rfl
    · have hc3 := dnlt hc3
      have hc3 : ((mayL C P (persL C a) a).length : Int) ≤ k := hc3
      have et : (mayL C P (persL C a) a).take k = mayL C P (persL C a) a := List.take_of_length_le (by omega)
      rw [et]
      repeat refine Or.inl ?_
      refine ⟨fun h => ?_, fun _ => ?_⟩
      · have h : (!(decide (inW C ((wldL C P).getD (i : Int).toNat []) a < 0) || (mayL C P (persL C a) a).any fun y => y == inW C ((wldL C P).getD (i : Int).toNat []) a)) = true := h
        rw [Bool.not_eq_true', Bool.or_eq_false_iff, decide_eq_false_iff_not] at h
        have := any_eqY.2 (may_in hok (getD_memW (L := wldL C P) (k := (i : Int).toNat) (by omega)) (show 0 ≤ inW C ((wldL C P).getD (i : Int).toNat []) a by omega))
        rw [this] at h
        cases h.2
      · refine ⟨i + 1, [], by dsimp only; omega, by dsimp only; omega, rfl, rfl, rfl, rfl, rfl, ⟨⟨rfl, wr (by omega) (by omega)⟩, ?_, ?_⟩, trivial⟩
        · show (((decide (((wldL C P).length : Int) > 0) && ((wldL C P).take i).all fun w => decide (inW C w a ≥ 0) && (inW C w a == inW C ((wldL C P).getD 0 []) a)) && decide (inW C ((wldL C P).getD (i : Int).toNat []) a ≥ 0)) && (inW C ((wldL C P).getD (i : Int).toNat []) a == inW C ((wldL C P).getD (Int.toNat 0) []) a)) = (decide (((wldL C P).length : Int) > 0) && ((wldL C P).take (i + 1)).all fun w => decide (inW C w a ≥ 0) && (inW C w a == inW C ((wldL C P).getD 0 []) a))
          rw [all_upto_succ [] _ _ _ hil, ei, Bool.and_assoc, Bool.and_assoc]
          rfl
        · show (((decide (((wldL C P).length : Int) > 0) && ((wldL C P).take i).all fun w => decide (inW C w a ≥ 0) && (inW C w a == inW C w b)) && decide (inW C ((wldL C P).getD (i : Int).toNat []) a ≥ 0)) && (inW C ((wldL C P).getD (i : Int).toNat []) a == inW C ((wldL C P).getD (i : Int).toNat []) b)) = (decide (((wldL C P).length : Int) > 0) && ((wldL C P).take (i + 1)).all fun w => decide (inW C w a ≥ 0) && (inW C w a == inW C w b))
          rw [all_upto_succ [] _ _ _ hil, ei, Bool.and_assoc, Bool.and_assoc]
  have hc2 := dnlt hc2
  have hc2 : ((wldL C P).length : Int) ≤ i := hc2
  have et : (wldL C P).take i = wldL C P := List.take_of_length_le (by omega)
  rw [et]
  repeat refine Or.inl ?_
  refine ⟨[], Nat, fun k => k ≤ (mayL C P (persL C a) a).length, fun k => [⟨29, [], .i .i64 k⟩], fun _ => [], fun k => (mayL C P (persL C a) a).length - k,
    ⟨0, [], Nat.zero_le _, rfl, rfl, rfl, rfl, rfl, ⟨rfl, rfl⟩, trivial⟩, ?_⟩
  intro k hk
  have hk : k ≤ (mayL C P (persL C a) a).length := hk
  refine .inl ⟨fun hc3 => ?_, fun hc3 => ?_⟩
  · have hc3 := dlt hc3
    have hc3 : (k : Int) < (mayL C P (persL C a) a).length := hc3
    have ek : (k : Int).toNat = k := Int.toNat_natCast k
    have hmm := getD_memX (l := mayL C P (persL C a) a) (k := (k : Int).toNat) (by omega)
    have wk : decide ((k : Int) > 0) = true → max (IntKind.i64.wrap ((k : Int) - 1)) 0 = ((k - 1 : Nat) : Int) ∧ 0 < k := fun h => by
      rw [decide_eq_true_eq] at h
      rw [wr (by omega) (by omega)]
      omega
    repeat refine Or.inl ?_
    refine ⟨[], Nat, fun i => i ≤ (wldL C P).length, fun i => [⟨31, [], .i .i64 i⟩, ⟨30, [], .b (((wldL C P).take i).any fun w => inW C w a == (mayL C P (persL C a) a).getD (k : Int).toNat 0)⟩], fun _ => [], fun i => (wldL C P).length - i,
      ⟨0, [], Nat.zero_le _, rfl, rfl, rfl, rfl, rfl, ⟨⟨rfl, rfl⟩, rfl⟩, trivial⟩, ?_⟩
    intro i hi
    have hi : i ≤ (wldL C P).length := hi
    refine .inl ⟨fun hc4 => ?_, fun hc4 => ?_⟩
    · have hc4 := dlt hc4
      have hc4 : (i : Int) < (wldL C P).length := hc4
      have ei : (i : Int).toNat = i := Int.toNat_natCast i
      have wi := wlen (i : Int).toNat (by omega)
      repeat refine Or.inl ?_
      refine ⟨fun _ => ⟨by omega, by omega⟩, fun _ => by omega, ?_⟩
      repeat refine Or.inl ?_
      refine ⟨[], _, fun _ => in_fn C ((wldL C P).getD (i : Int).toNat []) (by omega) wi a, ?_⟩
      refine ⟨fun _ => ⟨by omega, by omega⟩, fun _ => by omega, ?_⟩
      refine ⟨i + 1, [], by dsimp only; omega, by dsimp only; omega, rfl, rfl, rfl, rfl, rfl, ⟨⟨rfl, wr (by omega) (by omega)⟩, ?_⟩, trivial⟩
      rw [any_upto_succ [] _ _ _ (by omega), ei]
      rfl
    · have hc4 := dnlt hc4
      have hc4 : ((wldL C P).length : Int) ≤ i := hc4
      have et : (wldL C P).take i = wldL C P := List.take_of_length_le (by omega)
      rw [et]
      repeat refine Or.inl ?_
      refine ⟨fun _ => ⟨by omega, by omega⟩, fun _ => by omega, fun hg => ⟨by rw [(wk hg.1).1]; omega, by rw [(wk hg.1).1]; omega⟩, fun hg => by rw [(wk hg.1).1]; omega, ?_⟩
      refine ⟨fun h => ?_, fun _ => ?_⟩
      · have h : (!((wldL C P).any fun w => inW C w a == (mayL C P (persL C a) a).getD (k : Int).toNat 0) || (decide ((k : Int) > 0) && decide ((mayL C P (persL C a) a).getD (k : Int).toNat 0 ≤ (mayL C P (persL C a) a).getD (max (IntKind.i64.wrap ((k : Int) - 1)) 0).toNat 0))) = true := h
        rw [in_may hok hmm] at h
        have h : (decide ((k : Int) > 0) && decide ((mayL C P (persL C a) a).getD (k : Int).toNat 0 ≤ (mayL C P (persL C a) a).getD (max (IntKind.i64.wrap ((k : Int) - 1)) 0).toNat 0)) = true := h
        rw [Bool.and_eq_true] at h
        obtain ⟨k1, k2⟩ := wk h.1
        rw [k1, ek, Int.toNat_natCast] at h
        have h2 := of_decide_eq_true h.2
        have := asc_at masc (show k - 1 < k by omega) (by omega)
        omega
      · exact ⟨k + 1, [], by dsimp only; omega, by dsimp only; omega, rfl, rfl, rfl, rfl, rfl, ⟨rfl, wr (by omega) (by omega)⟩, trivial⟩
  have oa := of_alw hok a
  have ss := same_sam hok a b
  have pos : (ofY C P (persL C a) a).2 = true → 0 < (wldL C P).length := fun h => by
    rw [oa, Bool.and_eq_true, decide_eq_true_eq] at h
    omega
  have gd : (!(ofY C P (persL C a) a).2) = false → 0 < (wldL C P).length := fun h => pos (by simpa using h)
  repeat refine Or.inl ?_
  refine ⟨fun hg => ⟨by omega, by have := gd hg.1; omega⟩, fun hg => by have := gd hg.1; omega, ?_⟩
  repeat refine Or.inl ?_
  refine ⟨[], _, fun hg => in_fn C ((wldL C P).getD (Int.toNat 0) []) (by omega) (wlen 0 (gd hg.1)) a, ?_⟩
  repeat refine Or.inl ?_
  refine ⟨[], _, fun _ => S, ?_⟩
  refine RetIs.b ?_
  show (((true && ((ofY C P (persL C a) a).2 == (decide (((wldL C P).length : Int) > 0) && alwB C (wldL C P) a))) && (!(ofY C P (persL C a) a).2 || ((ofY C P (persL C a) a).1 == inW C ((wldL C P).getD 0 []) a))) && (sameB C P (persL C a) a b == (decide (((wldL C P).length : Int) > 0) && samB C (wldL C P) a b))) = true
  rw [← oa, ← ss, beq_self_eq_true, beq_self_eq_true]
  cases hx : (ofY C P (persL C a) a).2 with
  | false => rfl
  | true =>
    rw [of_in hok hx (pos hx), beq_self_eq_true]
    rfl
end Go.Proofs.Ytilhaifmfiobhaa
end
