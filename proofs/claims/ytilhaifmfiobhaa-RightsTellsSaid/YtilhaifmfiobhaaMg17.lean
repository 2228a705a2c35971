/-
  Several texts in one: Vd, Ve.
-/
import Derived.Test.YtilhaifmfiobhaaMg16

section
/-
  Rights: the reference's functions.
-/
namespace Go.Proofs.Ytilhaifmfiobhaa
open Go.Eng

theorem RetIs.sobi {c d : Bool} {q : IntKind} {x y : Int} {e sz n n' : Nat} {get get' : Nat → List AV} {id nid : Nat} {O : List OE} (hg : getO id O = some ([], .row e sz n' get')) (hn : n' = n) (hget : ∀ k, k < n → get' k = get k) (hf : ∀ k, k < n → AV.freshs (get k) = true) (hd : d = c) (hx : y = x) :
    RetIs [.row e sz n get] (.tup [.so 0, .b c, .i q x]) (.tup [.so id, .b d, .i q y]) O nid := by
  subst hn
  subst hd
  subst hx
  refine ⟨[(0, id)], ⟨⟨⟨rfl, rfl, ?_⟩, trivial⟩, ⟨⟨rfl, rfl, trivial, ?_⟩, trivial⟩, rfl⟩, rfl, hf⟩
  · exact rfl
  · show (match AO.row e sz n' get, getO id O with
      | .dead, _ => True
      | o, some ([], o') => AOEq (o.ren (rn [(0, id)])) o'
      | _, _ => False)
    rw [hg]
    exact ⟨rfl, rfl, rfl, hget⟩
theorem RetIs.soi {q : IntKind} {x y : Int} {e sz n n' : Nat} {get get' : Nat → List AV} {id nid : Nat} {O : List OE} (hg : getO id O = some ([], .row e sz n' get')) (hn : n' = n) (hget : ∀ k, k < n → get' k = get k) (hf : ∀ k, k < n → AV.freshs (get k) = true) (hx : y = x) :
    RetIs [.row e sz n get] (.tup [.so 0, .i q x]) (.tup [.so id, .i q y]) O nid := by
  subst hn
  subst hx
  refine ⟨[(0, id)], ⟨⟨⟨rfl, rfl, ?_⟩, trivial⟩, ⟨⟨rfl, rfl, trivial, ?_⟩, trivial⟩, rfl⟩, rfl, hf⟩
  · exact rfl
  · show (match AO.row e sz n' get, getO id O with
      | .dead, _ => True
      | o, some ([], o') => AOEq (o.ren (rn [(0, id)])) o'
      | _, _ => False)
    rw [hg]
    exact ⟨rfl, rfl, rfl, hget⟩
theorem RetIs.bi {c d : Bool} {q : IntKind} {x y : Int} {O : List OE} {nid : Nat} (h : d = c) (hx : y = x) : RetIs [] (.tup [.b c, .i q x]) (.tup [.b d, .i q y]) O nid := by
  subst h
  subst hx
  exact ⟨[], ⟨⟨⟨rfl, rfl, AVEq.refl _⟩, trivial⟩, trivial, rfl⟩, rfl, trivial⟩
theorem first_of_leastX {l : List Cl} {n k : Nat} {lits : List Int} (hk : k < 2 ^ n) (hg : Good l n lits (after n k)) (hl : ∀ j, j < k → ¬ Good l n lits (after n j)) : firstL l n lits = some (after n k) := by
  rw [good_lits] at hg
  have := first_of_least hk hg fun j hj h => hl j hj (good_lits.2 h)
  rw [← this]
  exact firstL_congr fun vals _ => good_lits
/-- A contract that returns a nil list, told as one that returns a row without elements. -/
theorem Ctr.nilrow {P : Program} {f : FuncId} {args : List AV} (e sz : Nat) (get : Nat → List AV) {rest : List AV} (h : Ctr P f args [] (.tup (.val (.slice none 0 0) :: rest))) : Ctr P f args [.row e sz 0 get] (.tup (.so 0 :: rest)) := by
  refine ⟨h.1, fun w vs hl hr => (h.2 w vs hl hr).mono ?_⟩
  rintro ex w' ⟨v, β, rfl, hb, _, hrep⟩
  obtain ⟨us, rfl, hlen, hc⟩ := hrep.tup_inv
  match us, hlen with
  | u0 :: us, hlen =>
    have h0 : u0 = .slice none 0 0 := (hc 0 (by simp) (by simp)).val_inv
    subst h0
    have hF : ∀ g, FX (fun g => g < w.heap.size) (β.valAt 0 (.slice none 0 0)) 0 [.row e sz 0 get] g → g < w.heap.size := by
      rintro g (hg | ⟨j, o, hj, hg⟩)
      · exact hg
      · cases j with
        | zero => simp at hj; subst hj; simp [ownB, Bd.valAt, blkOf] at hg
        | succ j => simp at hj
    refine ⟨_, β.valAt 0 (.slice none 0 0), rfl, hb, ⟨?_, ?_, ?_⟩, ?_⟩
    · intro j o hj
      cases j with
      | succ j => simp at hj
      | zero =>
        simp at hj
        subst hj
        refine ⟨[], ⟨by simp, .inl ⟨by simp [Bd.valAt], rfl⟩⟩, fun k hk => absurd hk (Nat.not_lt_zero k), fun k j hk => absurd hk (Nat.not_lt_zero k)⟩
    · intro j o g hj hg
      cases j with
      | succ j => simp at hj
      | zero => simp at hj; subst hj; simp [ownB, Bd.valAt, blkOf] at hg
    · intro j j' o o' g h1 h2 _ _
      cases j <;> cases j' <;> simp at h1 h2 ⊢
    · refine .tup (.so 0 :: rest) (.slice none 0 0 :: us) (by simpa using hlen) fun j h1 h2 => ?_
      cases j with
      | zero =>
        have := Rep.so (β := β.valAt 0 (.slice none 0 0)) (n := 1) (F := FX (fun g => g < w.heap.size) (β.valAt 0 (.slice none 0 0)) 0 [.row e sz 0 get]) (w := w') 0 (by omega) (by simp [Bd.valAt]; rfl)
        simpa [Bd.valAt] using this
      | succ j =>
        have := (hc (j + 1) (by simpa using h1) (by simpa using h2)).zero
        refine .pure _ _ ?_
        refine Rep0.stable this (fun g _ hn hf => hn (.inl (hF g hf))) (fun _ _ _ => rfl) (Nat.le_refl _)

/-! ### the reference, step by step -/
set_option maxRecDepth 20000 in
set_option maxHeartbeats 4000000 in
theorem rValid27_fn (G : List Gt) (hG : G.length < 2 ^ 62) : Ctr Try.prog 108 [.rs 3 G.length (rowsG G)] [] (.b (validG G)) := by
  refine fn_of_exec tabOk Try.func108 (by kernel_rfl) rfl (N := Try.f108.ntmps) rfl (res := [.tmp 2]) rfl rfl [] ?_
  repeat refine Or.inl ?_
  refine ⟨[], Nat, fun k => k ≤ G.length ∧ ∀ j, j < k → badG (G.getD j dGt) = false, fun k => [⟨3, [], .i .i64 k⟩], fun _ => [], fun k => G.length - k,
    ⟨0, [], ⟨Nat.zero_le _, fun j hj => by omega⟩, rfl, rfl, rfl, rfl, rfl, ⟨rfl, rfl⟩, trivial⟩, ?_⟩
  rintro k ⟨hk, hno⟩
  have hk : k ≤ G.length := hk
  refine .inl ⟨fun hc => ?_, fun hc => ?_⟩
  · have hc := dlt hc
    have hc : (k : Int) < G.length := hc
    have ek : (k : Int).toNat = k := Int.toNat_natCast k
    repeat refine Or.inl ?_
    refine ⟨⟨by omega, by omega⟩, ?_⟩
    repeat refine Or.inl ?_
    refine ⟨fun h => ?_, fun h => ?_⟩
    · have h : badG (G.getD (k : Int).toNat dGt) = true := h
      refine RetIs.b ?_
      rw [ek] at h
      symm
      rw [← Bool.not_eq_true]
      intro hv
      rw [badG_no.2 (validG_mem hv (getD_memG (k := k) (by omega)))] at h
      cases h
    · have h : badG (G.getD (k : Int).toNat dGt) = false := h
      refine ⟨k + 1, [], ⟨by omega, fun j hj => ?_⟩, by dsimp only; omega, rfl, rfl, rfl, rfl, rfl, ⟨rfl, wr (by omega) (by omega)⟩, trivial⟩
      by_cases hjk : j = k
      · subst hjk
        rwa [ek] at h
      · exact hno j (by omega)
  · have hc := dnlt hc
    have hc : (G.length : Int) ≤ k := hc
    obtain rfl : k = G.length := by omega
    refine RetIs.b (validG_of fun g hg => ?_).symm
    obtain ⟨j, hj, rfl⟩ := List.getElem_of_mem hg
    have := hno j hj
    simpa [List.getD, hj] using this

set_option maxRecDepth 20000 in
set_option maxHeartbeats 4000000 in
theorem uses_fn (C : List Cm) (G : List Gt) (hC : C.length ≤ 1000) (hG : G.length ≤ 1000) (hv : validG G = true) (w : List Bool) (hw : w.length = C.length) (grp a r : Int) (hr : 1 ≤ r ∧ r ≤ 15) :
    Ctr Try.prog 109 [.rs 2 C.length (rowsM C), .rs 3 G.length (rowsG G), .rs 1 w.length (rowsB w), .i .i64 grp, .i .i64 a, .i .i64 r] [] (.b (useW C G grp a r w)) := by
  refine fn_of_exec tabOk Try.func109 (by kernel_rfl) rfl (N := Try.f109.ntmps) rfl (res := [.tmp 12]) rfl rfl [] ?_
  repeat refine Or.inl ?_
  refine ⟨[], Nat, fun k => k ≤ C.length ∧ useTo C G grp a r w k = false, fun k => [⟨13, [], .i .i64 k⟩], fun _ => [], fun k => C.length - k,
    ⟨0, [], ⟨Nat.zero_le _, rfl⟩, rfl, rfl, rfl, rfl, rfl, ⟨rfl, rfl⟩, trivial⟩, ?_⟩
  rintro k ⟨hk, hno⟩
  have hk : k ≤ C.length := hk
  refine .inl ⟨fun hc => ?_, fun hc => ?_⟩
  · have hc := dlt hc
    have hc : (k : Int) < C.length := hc
    have ek : (k : Int).toNat = k := Int.toNat_natCast k
    have hst := useTo_succ C G grp a r w k
    rw [hno, Bool.false_or] at hst
    repeat refine Or.inl ?_
    refine ⟨⟨by omega, by omega⟩, fun _ => ⟨by omega, by omega⟩, fun _ => ⟨by omega, by omega⟩, ?_⟩
    repeat refine Or.inl ?_
    refine ⟨[], _, fun _ => Has_fn G hG hv grp (C.getD (k : Int).toNat dCm).per r hr, ?_⟩
    repeat refine Or.inl ?_
    refine ⟨fun h => ?_, fun h => ?_⟩
    · have h : useAt C G grp a r w (k : Int).toNat = true := h
      rw [ek] at h
      refine RetIs.b ?_
      symm
      unfold useW useTo
      rw [List.any_eq_true]
      exact ⟨k, List.mem_range.2 (by omega), h⟩
    · have h : useAt C G grp a r w (k : Int).toNat = false := h
      rw [ek] at h
      exact ⟨k + 1, [], ⟨by omega, hst.trans h⟩, by dsimp only; omega, rfl, rfl, rfl, rfl, rfl, ⟨rfl, wr (by omega) (by omega)⟩, trivial⟩
  · have hc := dnlt hc
    have hc : (C.length : Int) ≤ k := hc
    obtain rfl : k = C.length := by omega
    exact RetIs.b hno.symm

/-- The first world in which the account does not have the right. -/
def cntL (C : List Cm) (P : List Pf) (G : List Gt) (grp a r : Int) : Option (List Bool) := if poseE C P G r = 0 then firstL (clausesL C P) C.length ((litsG C G grp a r).map opp) else none
theorem good_use {C : List Cm} {P : List Pf} {G : List Gt} {grp a r : Int} {w : List Bool} : Good (clausesL C P) C.length ((litsG C G grp a r).map opp) w ↔ Wd C P w ∧ useW C G grp a r w = false := by
  rw [good_noX]
  refine and_congr_right fun _ => ?_
  rw [← Bool.not_eq_true, use_iff]
  constructor
  · rintro h ⟨i, hi, h1, h2, h3⟩
    have := h (2 * (i : Int)) (mem_litsG.2 ⟨i, hi, by unfold usesB; rw [h1, h2, beq_self_eq_true]; rfl, rfl⟩)
    rw [tv_even, h3] at this
    cases this
  · intro h x hx
    obtain ⟨i, hi, hu, rfl⟩ := mem_litsG.1 hx
    unfold usesB at hu
    rw [Bool.and_eq_true, beq_iff_eq] at hu
    rw [tv_even]
    cases hw : w.getD i false with
    | false => rfl
    | true => exact absurd ⟨i, hi, hu.1, hu.2, hw⟩ h
theorem cnt_fol {C : List Cm} {P : List Pf} {G : List Gt} {grp a r : Int} (he : poseE C P G r = 0) : (cntL C P G grp a r).isSome = !folB C P G grp a r := by
  unfold cntL
  rw [if_pos he]
  cases hh : folB C P G grp a r with
  | false =>
    obtain ⟨vs, hf⟩ := fol_no (pose_ok he).2.1 hh
    rw [firstL_some.2 hf]
    rfl
  | true =>
    rw [firstL_none.2]
    · rfl
    · rintro ⟨vals, g⟩
      obtain ⟨g1, g2⟩ := good_use.1 g
      have := use_iff.2 ((fol_iff (pose_ok he).2.1).1 hh vals g1)
      rw [g2] at this
      cases this
theorem cnt_none {C : List Cm} {P : List Pf} {G : List Gt} {grp a r : Int} (he : poseE C P G r ≠ 0) : cntL C P G grp a r = none := by
  unfold cntL
  rw [if_neg he]
def cntV (C : List Cm) (P : List Pf) (G : List Gt) (grp a r : Int) : List Bool := (cntL C P G grp a r).getD []
theorem Counter_u (C : List Cm) (P : List Pf) (G : List Gt) (hC : C.length ≤ 200) (hP : P.length < 2 ^ 62) (hG : G.length < 2 ^ 62) (grp a r : Int) :
    Ctr Try.prog 62 [.rs 2 C.length (rowsM C), .rs 3 P.length (rowsP P), .rs 3 G.length (rowsG G), .i .i64 grp, .i .i64 a, .i .i64 r] [.row 4 1 (cntV C P G grp a r).length (rowsB (cntV C P G grp a r))] (.tup [.so 0, .b (cntL C P G grp a r).isSome]) := by
  unfold cntV
  by_cases he : poseE C P G r = 0
  · cases hh : folB C P G grp a r with
    | false =>
      obtain ⟨vs, hf⟩ := fol_no (pose_ok he).2.1 hh
      have : cntL C P G grp a r = some vs := by
        unfold cntL
        rw [if_pos he, firstL_some.2 hf]
      rw [this]
      exact Counter_yes C P G hC hP hG grp a r he hh vs hf
    | true =>
      have : cntL C P G grp a r = none := by
        have := cnt_fol (grp := grp) (a := a) he
        rw [hh] at this
        exact Option.isNone_iff_eq_none.1 (by simpa using this)
      rw [this]
      exact Ctr.nilrow 4 1 _ (Counter_h C P G (by omega) hP hG grp a r he hh)
  · rw [cnt_none he]
    exact Ctr.nilrow 4 1 _ (Counter_e C P G (by omega) hP hG grp a r he)

theorem pose_17' {C : List Cm} {P : List Pf} {G : List Gt} {r : Int} (hb : badQ G r = false) (hok : okCP C P = true) : poseE C P G r = if (wldL C P).length = 0 then 17 else 0 := by
  have hc : (clausesY C P).2 = 0 := of_decide_eq_true hok
  unfold poseE
  rw [if_neg (by rw [hb]; decide), if_pos hc]
  have e : (followsB (clausesL C P) C.length [] = true) ↔ (wldL C P).length = 0 := by
    rw [followsB_iff]
    constructor
    · rintro ⟨_, _, h⟩
      refine Nat.eq_zero_of_not_pos fun hp => ?_
      obtain ⟨w, hw⟩ := List.length_pos_iff_exists_mem.1 hp
      obtain ⟨x, hx, _⟩ := h w (by rw [Int.toNat_natCast]; exact (mem_wldL hok).1 hw)
      cases hx
    · intro h
      refine ⟨clausesL_right (okCP_iff.1 hok).1 (okCP_iff.1 hok).2, fun x hx => (by cases hx), fun vals g => ?_⟩
      rw [Int.toNat_natCast] at g
      have := List.length_pos_iff_exists_mem.2 ⟨vals, (mem_wldL hok).2 g⟩
      omega
  by_cases h : (wldL C P).length = 0
  · rw [if_pos (e.2 h), if_pos h]
  · rw [if_neg fun hh => h (e.1 hh), if_neg h]

set_option maxRecDepth 20000 in
set_option maxHeartbeats 4000000 in
theorem rCounter_u (C : List Cm) (P : List Pf) (G : List Gt) (hC : C.length ≤ 12) (hP : P.length < 2 ^ 62) (hG : G.length ≤ 1000) (grp a r : Int) :
    Ctr Try.prog 63 [.rs 2 C.length (rowsM C), .rs 3 P.length (rowsP P), .rs 3 G.length (rowsG G), .i .i64 grp, .i .i64 a, .i .i64 r] [.row 4 1 (cntV C P G grp a r).length (rowsB (cntV C P G grp a r))] (.tup [.so 0, .b (cntL C P G grp a r).isSome, .i .i64 (poseE C P G r)]) := by
  refine fn_of_exec tabOk Try.func63 (by kernel_rfl) rfl (N := Try.f63.ntmps) rfl (res := [.tmp 12, .tmp 13, .tmp 14]) rfl rfl [(999999, [.nl 12 4 1])] ?_
  repeat refine Or.inl ?_
  refine ⟨[], _, fun _ => rValid27_fn G (by omega), ?_⟩
  repeat refine Or.inl ?_
  refine ⟨fun h => ?_, fun h => ?_⟩
  · have h : badQ G r = true := h
    have he : poseE C P G r = 1 := by unfold poseE; rw [if_pos h]
    unfold cntV
    rw [cnt_none (by rw [he]; decide), he]
    exact RetIs.sobi rfl rfl (fun k hk => absurd hk (Nat.not_lt_zero k)) (fun k hk => absurd hk (Nat.not_lt_zero k)) rfl rfl
  have hb : badQ G r = false := h
  have hv := badQ_no hb
  have cl := rClauses_fn C P (by omega) hP
  rcases Clauses_or (C := C) (P := P) with ⟨hok, e⟩ | ⟨hok, k, hk, e⟩
  rotate_left
  · rw [e, (okC_no hk).1, (okC_no hk).2] at cl
    have he : poseE C P G r = k := by
      unfold poseE
      rw [if_neg (by rw [hb]; decide), e, if_neg hk]
    unfold cntV
    rw [cnt_none (by rw [he]; exact hk), he]
    repeat refine Or.inl ?_
    refine ⟨[], _, cl, ?_⟩
    repeat refine Or.inl ?_
    refine ⟨fun _ => ?_, fun h => ?_⟩
    · exact RetIs.sobi rfl rfl (fun k hk => absurd hk (Nat.not_lt_zero k)) (fun k hk => absurd hk (Nat.not_lt_zero k)) rfl rfl
    · have h : (k != 0) = false := h
      rw [bne_eq_false_iff_eq] at h
      exact absurd h hk
  obtain ⟨hR, hlen⟩ := okCP_iff.1 hok
  rw [e] at cl
  have cl : Ctr Try.prog 39 [.rs 2 C.length (rowsM C), .rs 3 P.length (rowsP P)] [.row 25 2 (clausesL C P).length (rowsC (clausesL C P))] (.tup [.so 0, .i .i64 0]) := cl
  have hs := shl_one (n := C.length) (by omega)
  have h2 : (2 : Nat) ^ C.length ≤ 2 ^ 12 := Nat.pow_le_pow_right (by decide) (by omega)
  have h17 := pose_17' hb hok
  repeat refine Or.inl ?_
  refine ⟨_, _, cl, ?_⟩
  repeat refine Or.inl ?_
  refine ⟨fun h => (by cases h), fun _ => ?_⟩
  repeat refine Or.inl ?_
  refine ⟨[], Nat, fun k => k ≤ 2 ^ C.length ∧ ∀ j, j < k → ¬ Good (clausesL C P) C.length ((litsG C G grp a r).map opp) (after C.length j), fun k => [⟨18, [], .i .i64 k⟩, ⟨17, [], .b (decide (0 < (wldT C P k).length))⟩], fun _ => [], fun k => 2 ^ C.length - k,
    ⟨0, [], ⟨Nat.zero_le _, fun j hj => by omega⟩, rfl, rfl, rfl, rfl, rfl, ⟨⟨rfl, rfl⟩, rfl⟩, trivial⟩, ?_⟩
  rintro k ⟨hk, hno⟩
  have hk : k ≤ 2 ^ C.length := hk
  have hst := wldT_succ C P k
  refine .inl ⟨by omega, ⟨fun hc => ?_, fun hc => ?_⟩⟩
  · have hc := dlt hc
    rw [hs] at hc
    have hc : (k : Int) < ((2 ^ C.length : Nat) : Int) := hc
    have hal := after_len C.length k
    repeat refine Or.inl ?_
    refine ⟨_, _, after_fn C.length k (by omega) (by omega), ?_⟩
    repeat refine Or.inl ?_
    refine ⟨[], _, rCheck_fn (clausesL C P) (by omega) C.length (after C.length k) (by omega), ?_⟩
    refine ⟨fun h3 => ?_, fun h3 => ?_⟩
    · have h3 : (!checkB (clausesL C P) C.length (after C.length k)) = true := h3
      rw [Bool.not_eq_true'] at h3
      rw [if_neg (by rw [h3]; decide)] at hst
      refine ⟨k + 1, [], ⟨by omega, fun j hj => ?_⟩, by dsimp only; omega, rfl, rfl, rfl, rfl, rfl, ⟨⟨rfl, wr (by omega) (by omega)⟩, (show decide (0 < (wldT C P k).length) = decide (0 < (wldT C P (k + 1)).length) by rw [hst])⟩, trivial⟩
      by_cases hjk : j = k
      · subst hjk
        intro g
        rw [(wd_check hok).2 (good_use.1 g).1] at h3
        cases h3
      · exact hno j (by omega)
    have h3 : (!checkB (clausesL C P) C.length (after C.length k)) = false := h3
    rw [Bool.not_eq_false'] at h3
    rw [if_pos h3] at hst
    have hwd := (wd_check hok).1 h3
    repeat refine Or.inl ?_
    refine ⟨[], _, uses_fn C G (by omega) hG hv.2.2 (after C.length k) hal grp a r ⟨hv.1, hv.2.1⟩, ?_⟩
    repeat refine Or.inl ?_
    refine ⟨fun h4 => ?_, fun h4 => ?_⟩
    · have h4 : (!useW C G grp a r (after C.length k)) = true := h4
      rw [Bool.not_eq_true'] at h4
      have hfirst : IsFirst (clausesL C P) C.length ((litsG C G grp a r).map opp) (after C.length k) := firstL_some.1 (first_of_leastX (by omega) (good_use.2 ⟨hwd, h4⟩) hno)
      have hpos := List.length_pos_iff_exists_mem.2 ⟨_, (mem_wldL hok).2 hwd⟩
      have he : poseE C P G r = 0 := by rw [h17, if_neg (by omega)]
      have hcn : cntL C P G grp a r = some (after C.length k) := by
        unfold cntL
        rw [if_pos he, firstL_some.2 hfirst]
      unfold cntV
      rw [hcn, he]
      exact RetIs.sobi rfl rfl (fun _ _ => rfl) (fun _ _ => rfl) rfl rfl
    · have h4 : (!useW C G grp a r (after C.length k)) = false := h4
      rw [Bool.not_eq_false'] at h4
      refine ⟨k + 1, [], ⟨by omega, fun j hj => ?_⟩, by dsimp only; omega, rfl, rfl, rfl, rfl, rfl, ⟨⟨rfl, wr (by omega) (by omega)⟩, ?_⟩, trivial⟩
      · by_cases hjk : j = k
        · subst hjk
          intro g
          rw [(good_use.1 g).2] at h4
          cases h4
        · exact hno j (by omega)
      · have e : true = decide (0 < (wldT C P (k + 1)).length) := by
          rw [hst, List.length_append]
          exact (decide_eq_true (by simp)).symm
        exact e
  · have hc := dnlt hc
    rw [hs] at hc
    have hc : ((2 ^ C.length : Nat) : Int) ≤ (k : Int) := hc
    obtain rfl : k = 2 ^ C.length := by omega
    have hcn : cntL C P G grp a r = none := by
      unfold cntL
      split
      · exact none_of_all fun j hj => hno j (by omega)
      · rfl
    unfold cntV
    rw [hcn, h17]
    repeat refine Or.inl ?_
    refine ⟨fun h => ?_, fun h => ?_⟩
    · have h : (!decide (0 < (wldL C P).length)) = true := h
      rw [Bool.not_eq_true', decide_eq_false_iff_not] at h
      rw [if_pos (by omega)]
      exact RetIs.sobi rfl rfl (fun k hk => absurd hk (Nat.not_lt_zero k)) (fun k hk => absurd hk (Nat.not_lt_zero k)) rfl rfl
    · have h : (!decide (0 < (wldL C P).length)) = false := h
      rw [Bool.not_eq_false', decide_eq_true_eq] at h
      rw [if_neg (by omega)]
      exact RetIs.sobi rfl rfl (fun k hk => absurd hk (Nat.not_lt_zero k)) (fun k hk => absurd hk (Nat.not_lt_zero k)) rfl rfl

set_option maxRecDepth 20000 in
theorem rHolds_fn (C : List Cm) (P : List Pf) (G : List Gt) (hC : C.length ≤ 12) (hP : P.length < 2 ^ 62) (hG : G.length ≤ 1000) (grp a r : Int) :
    Ctr Try.prog 61 [.rs 2 C.length (rowsM C), .rs 3 P.length (rowsP P), .rs 3 G.length (rowsG G), .i .i64 grp, .i .i64 a, .i .i64 r] [] (.tup [.b (holdsY C P G grp a r), .i .i64 (poseE C P G r)]) := by
  refine fn_of_exec tabOk Try.func61 (by kernel_rfl) rfl (N := Try.f61.ntmps) rfl (res := [.tmp 12, .tmp 13]) rfl rfl [] ?_
  repeat refine Or.inl ?_
  refine ⟨_, _, rCounter_u C P G hC hP hG grp a r, ?_⟩
  have e : ((poseE C P G r == 0) && !(cntL C P G grp a r).isSome) = holdsY C P G grp a r := by
    by_cases he : poseE C P G r = 0
    · rw [cnt_fol he, holds_fol he, he, Bool.not_not]
      rfl
    · have : (poseE C P G r == 0) = false := beq_eq_false_iff_ne.2 he
      unfold holdsY
      rw [this, decide_eq_false he]
      rfl
  exact RetIs.bi e rfl

/-! ### holders -/
def accB (C : List Cm) (a : Int) (k : Nat) : Bool := (C.take k).any fun c => c.acc == a
def rhTo (C : List Cm) (F : Int → Bool) (k : Nat) : List Int := ((List.range k).map fun i : Nat => (i : Int)).filter fun a => accB C a C.length && F a
theorem rhTo_succ (C : List Cm) (F : Int → Bool) (k : Nat) : rhTo C F (k + 1) = if (accB C (k : Int) C.length && F (k : Int)) = true then rhTo C F k ++ [(k : Int)] else rhTo C F k := by
  unfold rhTo
  rw [List.range_succ, List.map_append, List.filter_append]
  by_cases h : (accB C (k : Int) C.length && F (k : Int)) = true
  · rw [if_pos h, List.map_cons, List.map_nil, List.filter_cons_of_pos (p := fun a => accB C a C.length && F a) h]; rfl
  · rw [if_neg h, List.map_cons, List.map_nil, List.filter_cons_of_neg (p := fun a => accB C a C.length && F a) h]; simp
theorem rhTo_len (C : List Cm) (F : Int → Bool) (k : Nat) : (rhTo C F k).length ≤ k := by
  refine Nat.le_trans (List.length_filter_le _ _) ?_
  simp
theorem rhTo_all {C : List Cm} {P : List Pf} {G : List Gt} {grp r : Int} (hok : okCP C P = true) : rhTo C (fun a => folB C P G grp a r) 2000 = holdL C P G grp r := by
  refine asc_unique ?_ (holdL_asc C P G grp r) fun x => ?_
  · unfold rhTo
    refine List.Pairwise.filter _ ?_
    rw [List.pairwise_map]
    exact List.Pairwise.imp (fun h => by omega) (List.pairwise_lt_range (n := 2000))
  · unfold rhTo
    rw [List.mem_filter, mem_holdL, Bool.and_eq_true]
    have hacc : accB C x C.length = true ↔ ∃ i, i < C.length ∧ (C.getD i dCm).acc = x := by
      unfold accB
      rw [List.take_length, List.any_eq_true]
      constructor
      · rintro ⟨c, hc, h⟩
        obtain ⟨i, hi, rfl⟩ := List.getElem_of_mem hc
        exact ⟨i, hi, by simpa [List.getD, hi] using h⟩
      · rintro ⟨i, hi, h⟩
        refine ⟨C.getD i dCm, by simp [List.getD, hi], by rw [h, beq_self_eq_true]⟩
    rw [hacc]
    constructor
    · rintro ⟨_, h1, h2⟩
      exact ⟨h2, h1⟩
    · rintro ⟨h1, i, hi, h2⟩
      refine ⟨?_, ⟨i, hi, h2⟩, h1⟩
      have := ((okCP_iff.1 hok).1.cm i hi).1
      rw [List.mem_map]
      exact ⟨x.toNat, List.mem_range.2 (by omega), by omega⟩
def hldY (C : List Cm) (P : List Pf) (G : List Gt) (grp r : Int) : List Int := if poseE C P G r = 0 then holdL C P G grp r else []
theorem hldY_len (C : List Cm) (P : List Pf) (G : List Gt) (grp r : Int) : (hldY C P G grp r).length ≤ C.length := by
  unfold hldY
  split
  · exact holdL_len C P G grp r
  · exact Nat.zero_le _
theorem Holders_u (C : List Cm) (P : List Pf) (G : List Gt) (hC : C.length ≤ 1000) (hP : P.length < 2 ^ 62) (hG : G.length < 2 ^ 62) (grp r : Int) :
    Ctr Try.prog 64 [.rs 2 C.length (rowsM C), .rs 3 P.length (rowsP P), .rs 3 G.length (rowsG G), .i .i64 grp, .i .i64 r] [.row 3 1 (hldY C P G grp r).length (rowsI (hldY C P G grp r))] (.tup [.so 0, .i .i64 (poseE C P G r)]) := by
  unfold hldY
  by_cases he : poseE C P G r = 0
  · rw [if_pos he, he]
    exact Holders_yes C P G hC hP hG grp r he
  · rw [if_neg he]
    exact Ctr.nilrow 3 1 _ (Holders_no C P G hC hP hG grp r he)
set_option maxRecDepth 20000 in
set_option maxHeartbeats 4000000 in
theorem rHolders_u (C : List Cm) (P : List Pf) (G : List Gt) (hC : C.length ≤ 12) (hP : P.length < 2 ^ 62) (hG : G.length ≤ 1000) (grp r : Int) :
    Ctr Try.prog 65 [.rs 2 C.length (rowsM C), .rs 3 P.length (rowsP P), .rs 3 G.length (rowsG G), .i .i64 grp, .i .i64 r] [.row 3 1 (hldY C P G grp r).length (rowsI (hldY C P G grp r))] (.tup [.so 0, .i .i64 (poseE C P G r)]) := by
  refine fn_of_exec tabOk Try.func65 (by kernel_rfl) rfl (N := Try.f65.ntmps) rfl (res := [.tmp 10, .tmp 11]) rfl rfl [(999999, [.nl 10 3 1])] ?_
  repeat refine Or.inl ?_
  refine ⟨[], _, rHolds_fn C P G hC hP hG grp (-1) r, ?_⟩
  unfold hldY
  by_cases he : poseE C P G r = 0
  rotate_left
  · rw [if_neg he]
    repeat refine Or.inl ?_
    refine ⟨fun _ => ?_, fun h => ?_⟩
    · exact RetIs.soi rfl rfl (fun k hk => absurd hk (Nat.not_lt_zero k)) (fun k hk => absurd hk (Nat.not_lt_zero k)) rfl
    · have h : (poseE C P G r != 0) = false := h
      rw [bne_eq_false_iff_eq] at h
      exact absurd h he
  rw [if_pos he]
  have hok := (pose_ok he).2.1
  repeat refine Or.inl ?_
  refine ⟨fun h => ?_, fun _ => ?_⟩
  · have h : (poseE C P G r != 0) = true := h
    rw [he] at h
    cases h
  repeat refine Or.inl ?_
  refine ⟨[(14, 3, 1)], Nat, fun k => k ≤ 2000, fun k => [⟨15, [], .i .i64 k⟩, ⟨14, [], .so 0⟩], fun k => [⟨0, [], .row 3 1 (rhTo C (fun a => folB C P G grp a r) k).length (rowsI (rhTo C (fun a => folB C P G grp a r) k))⟩], fun k => 2000 - k,
    ⟨0, [], Nat.zero_le _, rfl, rfl, rfl, rfl, rfl, ⟨⟨rfl, rfl⟩, rfl⟩, ⟨rfl, rfl, rfl, fun j hj => absurd hj (Nat.not_lt_zero j)⟩⟩, ?_⟩
  intro k hk
  have hk : k ≤ 2000 := hk
  have hll := rhTo_len C (fun a => folB C P G grp a r) k
  have hst := rhTo_succ C (fun a => folB C P G grp a r) k
  refine .inl ⟨fun hc => ?_, fun hc => ?_⟩
  · have hc := dlt hc
    have hc : (k : Int) < 2000 := hc
    repeat refine Or.inl ?_
    refine ⟨[], Nat, fun j => j ≤ C.length, fun j => [⟨17, [], .i .i64 j⟩, ⟨16, [], .b (accB C (k : Int) j)⟩], fun _ => [], fun j => C.length - j,
      ⟨0, [], Nat.zero_le _, rfl, rfl, rfl, rfl, rfl, ⟨⟨rfl, rfl⟩, rfl⟩, trivial⟩, ?_⟩
    intro j hj
    have hj : j ≤ C.length := hj
    refine .inl ⟨fun hc2 => ?_, fun hc2 => ?_⟩
    · have hc2 := dlt hc2
      have hc2 : (j : Int) < C.length := hc2
      have ej : (j : Int).toNat = j := Int.toNat_natCast j
      repeat refine Or.inl ?_
      refine ⟨fun _ => ⟨by omega, by omega⟩, ?_⟩
      refine ⟨j + 1, [], by dsimp only; omega, by dsimp only; omega, rfl, rfl, rfl, rfl, rfl, ⟨⟨rfl, wr (by omega) (by omega)⟩, ?_⟩, trivial⟩
      unfold accB
      rw [any_upto_succ dCm _ _ _ (by omega), ej]
      rfl
    · have hc2 := dnlt hc2
      have hc2 : (C.length : Int) ≤ j := hc2
      obtain rfl : j = C.length := by omega
      repeat refine Or.inl ?_
      refine ⟨fun h => ?_, fun h => ?_⟩
      · have h : (!accB C (k : Int) C.length) = true := h
        rw [Bool.not_eq_true'] at h
        rw [if_neg (by rw [h, Bool.false_and]; decide)] at hst
        exact ⟨k + 1, [], by dsimp only; omega, by dsimp only; omega, rfl, rfl, rfl, rfl, rfl, ⟨⟨rfl, wr (by omega) (by omega)⟩, rfl⟩, same_row hst⟩
      have h : (!accB C (k : Int) C.length) = false := h
      rw [Bool.not_eq_false'] at h
      rw [h, Bool.true_and] at hst
      have hH := rHolds_fn C P G hC hP hG grp (k : Int) r
      rw [holds_fol he] at hH
      repeat refine Or.inl ?_
      refine ⟨[], _, hH, ?_⟩
      repeat refine Or.inl ?_
      refine ⟨fun h2 => ?_, fun h2 => ?_⟩
      · have h2 : folB C P G grp (k : Int) r = true := h2
        rw [if_pos h2] at hst
        refine ⟨fits (by omega), ?_⟩
        exact ⟨k + 1, [(0, 2)], by dsimp only; omega, by dsimp only; omega, rfl, rfl, rfl, rfl, rfl, ⟨⟨rfl, wr (by omega) (by omega)⟩, rfl⟩, snocZ_row _ _ hst⟩
      · have h2 : folB C P G grp (k : Int) r = false := h2
        rw [if_neg (by rw [h2]; decide)] at hst
        exact ⟨k + 1, [], by dsimp only; omega, by dsimp only; omega, rfl, rfl, rfl, rfl, rfl, ⟨⟨rfl, wr (by omega) (by omega)⟩, rfl⟩, same_row hst⟩
  · have hc := dnlt hc
    have hc : (2000 : Int) ≤ k := hc
    obtain rfl : k = 2000 := by omega
    rw [rhTo_all hok, he]
    exact RetIs.soi rfl rfl (fun _ _ => rfl) (fun _ _ => rfl) rfl

set_option maxRecDepth 20000 in
set_option maxHeartbeats 4000000 in
theorem minus_fn (a b : List Int) (ha : a.length ≤ 1000) (hb : b.length ≤ 1000) : Ctr Try.prog 113 [.rs 1 a.length (rowsI a), .rs 1 b.length (rowsI b)] [.row 3 1 (minusL a b).length (rowsI (minusL a b))] (.so 0) := by
  refine fn_of_exec tabOk Try.func113 (by kernel_rfl) rfl (N := Try.f113.ntmps) rfl (res := [.tmp 4]) rfl rfl [] ?_
  repeat refine Or.inl ?_
  refine ⟨[(5, 3, 1)], Nat, fun k => k ≤ a.length, fun k => [⟨6, [], .i .i64 k⟩, ⟨5, [], .so 0⟩], fun k => [⟨0, [], .row 3 1 (minusL (a.take k) b).length (rowsI (minusL (a.take k) b))⟩], fun k => a.length - k,
    ⟨0, [], Nat.zero_le _, rfl, rfl, rfl, rfl, rfl, ⟨⟨rfl, rfl⟩, rfl⟩, ⟨rfl, rfl, rfl, fun j hj => absurd hj (Nat.not_lt_zero j)⟩⟩, ?_⟩
  intro k hk
  have hk : k ≤ a.length := hk
  have hll := minusL_len (a.take k) b
  rw [List.length_take] at hll
  refine .inl ⟨fun hc => ?_, fun hc => ?_⟩
  · have hc := dlt hc
    have hc : (k : Int) < a.length := hc
    have ek : (k : Int).toNat = k := Int.toNat_natCast k
    have hst : minusL (a.take (k + 1)) b = if hasN b (a.getD k 0) = true then minusL (a.take k) b else minusL (a.take k) b ++ [a.getD k 0] := keepF_take (hasN b) a (by omega)
    repeat refine Or.inl ?_
    refine ⟨[], Nat, fun j => j ≤ b.length, fun j => [⟨8, [], .i .i64 j⟩, ⟨7, [], .b (hasN (b.take j) (a.getD k 0))⟩], fun _ => [], fun j => b.length - j,
      ⟨0, [], Nat.zero_le _, rfl, rfl, rfl, rfl, rfl, ⟨⟨rfl, rfl⟩, rfl⟩, trivial⟩, ?_⟩
    intro j hj
    have hj : j ≤ b.length := hj
    refine .inl ⟨fun hc2 => ?_, fun hc2 => ?_⟩
    · have hc2 := dlt hc2
      have hc2 : (j : Int) < b.length := hc2
      have ej : (j : Int).toNat = j := Int.toNat_natCast j
      repeat refine Or.inl ?_
      refine ⟨fun _ => ⟨by omega, by omega⟩, fun _ => ⟨by omega, by omega⟩, ?_⟩
      refine ⟨j + 1, [], by dsimp only; omega, by dsimp only; omega, rfl, rfl, rfl, rfl, rfl, ⟨⟨rfl, wr (by omega) (by omega)⟩, ?_⟩, trivial⟩
      unfold hasN
      rw [any_upto_succ 0 _ _ _ (by omega), ej, ek]
      rfl
    · have hc2 := dnlt hc2
      have hc2 : (b.length : Int) ≤ j := hc2
      obtain rfl : j = b.length := by omega
      rw [List.take_length]
      repeat refine Or.inl ?_
      refine ⟨fun h => ?_, fun h => ?_⟩
      · have h : (!hasN b (a.getD k 0)) = true := h
        rw [Bool.not_eq_true'] at h
        rw [if_neg (by rw [h]; decide)] at hst
        refine ⟨⟨by omega, by omega⟩, fits (by omega), ?_⟩
        exact ⟨k + 1, [(0, 2)], by dsimp only; omega, by dsimp only; omega, rfl, rfl, rfl, rfl, rfl, ⟨⟨rfl, wr (by omega) (by omega)⟩, rfl⟩, snocZ_row _ (a.getD (k : Int).toNat 0) (by rw [ek]; exact hst)⟩
      · have h : (!hasN b (a.getD k 0)) = false := h
        rw [Bool.not_eq_false'] at h
        rw [if_pos h] at hst
        exact ⟨k + 1, [], by dsimp only; omega, by dsimp only; omega, rfl, rfl, rfl, rfl, rfl, ⟨⟨rfl, wr (by omega) (by omega)⟩, rfl⟩, same_row hst⟩
  · have hc := dnlt hc
    have hc : (a.length : Int) ≤ k := hc
    obtain rfl : k = a.length := by omega
    rw [List.take_length]
    exact RetIs.so rfl rfl (fun _ _ => rfl) (fun _ _ => rfl)
end Go.Proofs.Ytilhaifmfiobhaa
end

section
/-
  RightsTells.
-/
namespace Go.Proofs.Ytilhaifmfiobhaa
open Go.Eng

def gainY (C : List Cm) (P : List Pf) (G : List Gt) (grp r : Int) (p : Pf) : List Int × Int :=
  if poseE C P G r = 0 then (if poseE C (P ++ [p]) G r = 0 then (minusL (holdL C (P ++ [p]) G grp r) (holdL C P G grp r), 0) else ([], poseE C (P ++ [p]) G r)) else ([], poseE C P G r)
def lostY (C : List Cm) (P : List Pf) (G : List Gt) (grp r i : Int) : List Int × Int :=
  if i < 0 ∨ (P.length : Int) ≤ i then ([], 4) else if poseE C P G r = 0 then (if poseE C (P.eraseIdx i.toNat) G r = 0 then (minusL (holdL C P G grp r) (holdL C (P.eraseIdx i.toNat) G grp r), 0) else ([], poseE C (P.eraseIdx i.toNat) G r)) else ([], poseE C P G r)
theorem gainY_len (C : List Cm) (P : List Pf) (G : List Gt) (grp r : Int) (p : Pf) : (gainY C P G grp r p).1.length ≤ C.length := by
  unfold gainY
  split
  · split
    · exact Nat.le_trans (minusL_len _ _) (holdL_len C (P ++ [p]) G grp r)
    · exact Nat.zero_le _
  · exact Nat.zero_le _
theorem lostY_len (C : List Cm) (P : List Pf) (G : List Gt) (grp r i : Int) : (lostY C P G grp r i).1.length ≤ C.length := by
  unfold lostY
  split
  · exact Nat.zero_le _
  · split
    · split
      · exact Nat.le_trans (minusL_len _ _) (holdL_len C P G grp r)
      · exact Nat.zero_le _
    · exact Nat.zero_le _
theorem Gained_u (C : List Cm) (P : List Pf) (G : List Gt) (p : Pf) (hC : C.length ≤ 1000) (hP : P.length ≤ 1000) (hG : G.length < 2 ^ 62) (grp r : Int) :
    Ctr Try.prog 66 [.rs 2 C.length (rowsM C), .rs 3 P.length (rowsP P), .rs 3 G.length (rowsG G), .i .i64 grp, .i .i64 r, .ag p.av] [.row 3 1 (gainY C P G grp r p).1.length (rowsI (gainY C P G grp r p).1)] (.tup [.so 0, .i .i64 (gainY C P G grp r p).2]) := by
  unfold gainY
  by_cases he : poseE C P G r = 0
  · rw [if_pos he]
    by_cases he2 : poseE C (P ++ [p]) G r = 0
    · rw [if_pos he2]
      exact Gained_yes C P G p hC hP hG grp r he he2
    · rw [if_neg he2]
      exact Ctr.nilrow 3 1 _ (Gained_e2 C P G p hC hP hG grp r he he2)
  · rw [if_neg he]
    exact Ctr.nilrow 3 1 _ (Gained_e1 C P G p hC hP hG grp r he)
theorem Lost_u (C : List Cm) (P : List Pf) (G : List Gt) (i : Int) (hC : C.length ≤ 1000) (hP : P.length ≤ 1000) (hG : G.length < 2 ^ 62) (grp r : Int) :
    Ctr Try.prog 68 [.rs 2 C.length (rowsM C), .rs 3 P.length (rowsP P), .rs 3 G.length (rowsG G), .i .i64 grp, .i .i64 r, .i .i64 i] [.row 3 1 (lostY C P G grp r i).1.length (rowsI (lostY C P G grp r i).1)] (.tup [.so 0, .i .i64 (lostY C P G grp r i).2]) := by
  unfold lostY
  by_cases hi : i < 0 ∨ (P.length : Int) ≤ i
  · rw [if_pos hi]
    exact Ctr.nilrow 3 1 _ (Lost_out C P G i hi grp r)
  rw [if_neg hi]
  obtain ⟨m, rfl⟩ := Int.eq_ofNat_of_zero_le (show 0 ≤ i by omega)
  rw [Int.toNat_natCast]
  by_cases he : poseE C P G r = 0
  · rw [if_pos he]
    by_cases he2 : poseE C (P.eraseIdx m) G r = 0
    · rw [if_pos he2]
      exact Lost_yes C P G m hC hP hG grp r (by omega) he he2
    · rw [if_neg he2]
      exact Ctr.nilrow 3 1 _ (Lost_e2 C P G m hC hP hG grp r (by omega) he he2)
  · rw [if_neg he]
    exact Ctr.nilrow 3 1 _ (Lost_e1 C P G m hC hP hG grp r (by omega) he)
set_option maxRecDepth 20000 in
set_option maxHeartbeats 4000000 in
theorem rGained_u (C : List Cm) (P : List Pf) (G : List Gt) (p : Pf) (hC : C.length ≤ 12) (hP : P.length ≤ 1000) (hG : G.length ≤ 1000) (grp r : Int) :
    Ctr Try.prog 67 [.rs 2 C.length (rowsM C), .rs 3 P.length (rowsP P), .rs 3 G.length (rowsG G), .i .i64 grp, .i .i64 r, .ag p.av] [.row 3 1 (gainY C P G grp r p).1.length (rowsI (gainY C P G grp r p).1)] (.tup [.so 0, .i .i64 (gainY C P G grp r p).2]) := by
  refine fn_of_exec tabOk Try.func67 (by kernel_rfl) rfl (N := Try.f67.ntmps) rfl (res := [.tmp 12, .tmp 13]) rfl rfl [(999999, [.nl 12 3 1])] ?_
  have hpl : (P ++ [p]).length = P.length + 1 := by rw [List.length_append]; rfl
  have hA := rHolders_u C P G hC (by omega) hG grp r
  have hB := rHolders_u C (P ++ [p]) G hC (by omega) hG grp r
  have av5 : ∀ f, AVsEq [.rs 2 C.length (rowsM C), .rs 3 (P ++ [p]).length (rowsP (P ++ [p])), .rs 3 G.length (rowsG G), .i .i64 grp, .i .i64 r] [.rs 2 C.length (rowsM C), .rs 3 (0 + P.length + 1) (catG (0 + P.length) (catG 0 f (rowsP P)) (rowOf 3 p.av)), .rs 3 G.length (rowsG G), .i .i64 grp, .i .i64 r] := fun f => ⟨AVEq.refl _, snocP_av f P p, AVEq.refl _, AVEq.refl _, AVEq.refl _⟩
  have l1 := holdL_len C P G grp r
  have l2 := holdL_len C (P ++ [p]) G grp r
  unfold gainY
  by_cases he : poseE C P G r = 0
  rotate_left
  · rw [if_neg he]
    repeat refine Or.inl ?_
    refine ⟨_, _, hA, ?_⟩
    repeat refine Or.inl ?_
    refine ⟨fun _ => ?_, fun h => ?_⟩
    · exact RetIs.soi rfl rfl (fun k hk => absurd hk (Nat.not_lt_zero k)) (fun k hk => absurd hk (Nat.not_lt_zero k)) rfl
    · have h : (poseE C P G r != 0) = false := h
      rw [bne_eq_false_iff_eq] at h
      exact absurd h he
  rw [if_pos he]
  unfold hldY at hA
  rw [if_pos he, he] at hA
  repeat refine Or.inl ?_
  refine ⟨_, _, hA, ?_⟩
  repeat refine Or.inl ?_
  refine ⟨fun h => (by cases h), fun _ => ?_⟩
  repeat refine Or.inl ?_
  refine ⟨fits (by omega), fits (by omega), ?_⟩
  repeat refine Or.inl ?_
  refine ⟨_, _, Ctr.of_eq (av5 _) hB, ?_⟩
  by_cases he2 : poseE C (P ++ [p]) G r = 0
  rotate_left
  · rw [if_neg he2]
    repeat refine Or.inl ?_
    refine ⟨fun _ => ?_, fun h => ?_⟩
    · exact RetIs.soi rfl rfl (fun k hk => absurd hk (Nat.not_lt_zero k)) (fun k hk => absurd hk (Nat.not_lt_zero k)) rfl
    · have h : (poseE C (P ++ [p]) G r != 0) = false := h
      rw [bne_eq_false_iff_eq] at h
      exact absurd h he2
  rw [if_pos he2]
  have hh : hldY C (P ++ [p]) G grp r = holdL C (P ++ [p]) G grp r := if_pos he2
  repeat refine Or.inl ?_
  refine ⟨fun h => ?_, fun _ => ?_⟩
  · have h : (poseE C (P ++ [p]) G r != 0) = true := h
    rw [he2] at h
    cases h
  have hm := minus_fn (hldY C (P ++ [p]) G grp r) (holdL C P G grp r) (by rw [hh]; omega) (by omega)
  repeat refine Or.inl ?_
  refine ⟨_, _, hm, ?_⟩
  refine RetIs.soi rfl ?_ (fun k _ => ?_) (fun _ _ => rfl) rfl
  · rw [hh]
  · rw [hh]
theorem erase_av (f : Nat → List AV) (P : List Pf) (m : Nat) (hm : m < P.length) (hP : P.length ≤ 1000) : AVEq (.rs 3 (P.eraseIdx m).length (rowsP (P.eraseIdx m)))
    (.rs 3 (0 + ((m : Int) - 0).toNat + ((P.length : Int) - IntKind.i64.wrap ((m : Int) + 1)).toNat) (catG (0 + ((m : Int) - 0).toNat) (catG 0 f fun q => rowsP P (Int.toNat 0 + q)) fun q => rowsP P ((IntKind.i64.wrap ((m : Int) + 1)).toNat + q))) := by
  have hw : IntKind.i64.wrap ((m : Int) + 1) = (m : Int) + 1 := wr (by omega) (by omega)
  have hl : (P.eraseIdx m).length = P.length - 1 := by rw [List.length_eraseIdx, if_pos hm]
  rw [hw]
  refine ⟨rfl, by omega, fun q hq => ?_⟩
  unfold catG rowsP
  rw [getD_erase]
  by_cases h2 : q < m
  · rw [if_pos (by omega), if_neg (Nat.not_lt_zero q), if_pos h2]
    have e : Int.toNat 0 + (q - 0) = q := by omega
    dsimp only
    rw [e]
  · rw [if_neg (by omega), if_neg h2]
    have e : ((m : Int) + 1).toNat + (q - (0 + ((m : Int) - 0).toNat)) = q + 1 := by omega
    dsimp only
    rw [e]
set_option maxRecDepth 20000 in
set_option maxHeartbeats 4000000 in
theorem rLost_u (C : List Cm) (P : List Pf) (G : List Gt) (i : Int) (hC : C.length ≤ 12) (hP : P.length ≤ 1000) (hG : G.length ≤ 1000) (grp r : Int) :
    Ctr Try.prog 69 [.rs 2 C.length (rowsM C), .rs 3 P.length (rowsP P), .rs 3 G.length (rowsG G), .i .i64 grp, .i .i64 r, .i .i64 i] [.row 3 1 (lostY C P G grp r i).1.length (rowsI (lostY C P G grp r i).1)] (.tup [.so 0, .i .i64 (lostY C P G grp r i).2]) := by
  refine fn_of_exec tabOk Try.func69 (by kernel_rfl) rfl (N := Try.f69.ntmps) rfl (res := [.tmp 12, .tmp 13]) rfl rfl [(999999, [.nl 12 3 1])] ?_
  unfold lostY
  by_cases hi : i < 0 ∨ (P.length : Int) ≤ i
  · rw [if_pos hi]
    repeat refine Or.inl ?_
    refine ⟨fun _ => ?_, fun h => ?_⟩
    · exact RetIs.soi rfl rfl (fun k hk => absurd hk (Nat.not_lt_zero k)) (fun k hk => absurd hk (Nat.not_lt_zero k)) rfl
    · have h : (decide (i < 0) || decide (i ≥ (P.length : Int))) = false := h
      rw [Bool.or_eq_false_iff, decide_eq_false_iff_not, decide_eq_false_iff_not] at h
      omega
  rw [if_neg hi]
  obtain ⟨m, rfl⟩ := Int.eq_ofNat_of_zero_le (show 0 ≤ i by omega)
  rw [Int.toNat_natCast]
  have hl : (P.eraseIdx m).length = P.length - 1 := by rw [List.length_eraseIdx, if_pos (by omega)]
  have hA := rHolders_u C P G hC (by omega) hG grp r
  have hB := rHolders_u C (P.eraseIdx m) G hC (by omega) hG grp r
  have l1 := holdL_len C P G grp r
  have l2 := holdL_len C (P.eraseIdx m) G grp r
  have w1 : IntKind.i64.wrap ((m : Int) + 1) = (m : Int) + 1 := wr (by omega) (by omega)
  repeat refine Or.inl ?_
  refine ⟨fun h => ?_, fun _ => ?_⟩
  · exfalso
    have h : (decide ((m : Int) < 0) || decide ((m : Int) ≥ (P.length : Int))) = true := h
    rw [Bool.or_eq_true, decide_eq_true_eq, decide_eq_true_eq] at h
    omega
  by_cases he : poseE C P G r = 0
  rotate_left
  · rw [if_neg he]
    repeat refine Or.inl ?_
    refine ⟨_, _, hA, ?_⟩
    repeat refine Or.inl ?_
    refine ⟨fun _ => ?_, fun h => ?_⟩
    · exact RetIs.soi rfl rfl (fun k hk => absurd hk (Nat.not_lt_zero k)) (fun k hk => absurd hk (Nat.not_lt_zero k)) rfl
    · have h : (poseE C P G r != 0) = false := h
      rw [bne_eq_false_iff_eq] at h
      exact absurd h he
  rw [if_pos he]
  unfold hldY at hA
  rw [if_pos he, he] at hA
  repeat refine Or.inl ?_
  refine ⟨_, _, hA, ?_⟩
  repeat refine Or.inl ?_
  refine ⟨fun h => (by cases h), fun _ => ?_⟩
  repeat refine Or.inl ?_
  refine ⟨⟨by omega, by omega, by omega⟩, fits (by omega), ⟨by omega, by omega, by omega⟩, fits (by omega), ?_⟩
  repeat refine Or.inl ?_
  have av5 : ∀ f, AVsEq [.rs 2 C.length (rowsM C), .rs 3 (P.eraseIdx m).length (rowsP (P.eraseIdx m)), .rs 3 G.length (rowsG G), .i .i64 grp, .i .i64 r] [.rs 2 C.length (rowsM C), .rs 3 (0 + ((m : Int) - 0).toNat + ((P.length : Int) - IntKind.i64.wrap ((m : Int) + 1)).toNat) (catG (0 + ((m : Int) - 0).toNat) (catG 0 f fun q => rowsP P (Int.toNat 0 + q)) fun q => rowsP P ((IntKind.i64.wrap ((m : Int) + 1)).toNat + q)), .rs 3 G.length (rowsG G), .i .i64 grp, .i .i64 r] := fun f => ⟨AVEq.refl _, erase_av f P m (by omega) hP, AVEq.refl _, AVEq.refl _, AVEq.refl _⟩
  refine ⟨_, _, Ctr.of_eq (av5 _) hB, ?_⟩
  by_cases he2 : poseE C (P.eraseIdx m) G r = 0
  rotate_left
  · rw [if_neg he2]
    repeat refine Or.inl ?_
    refine ⟨fun _ => ?_, fun h => ?_⟩
    · exact RetIs.soi rfl rfl (fun k hk => absurd hk (Nat.not_lt_zero k)) (fun k hk => absurd hk (Nat.not_lt_zero k)) rfl
    · have h : (poseE C (P.eraseIdx m) G r != 0) = false := h
      rw [bne_eq_false_iff_eq] at h
      exact absurd h he2
  rw [if_pos he2]
  have hh : hldY C (P.eraseIdx m) G grp r = holdL C (P.eraseIdx m) G grp r := if_pos he2
  repeat refine Or.inl ?_
  refine ⟨fun h => ?_, fun _ => ?_⟩
  · have h : (poseE C (P.eraseIdx m) G r != 0) = true := h
    rw [he2] at h
    cases h
  have hm := minus_fn (holdL C P G grp r) (hldY C (P.eraseIdx m) G grp r) (by omega) (by rw [hh]; omega)
  repeat refine Or.inl ?_
  refine ⟨_, _, hm, ?_⟩
  refine RetIs.soi rfl ?_ (fun k _ => ?_) (fun _ _ => rfl) rfl
  · rw [hh]
  · rw [hh]
theorem cntV_len (C : List Cm) (P : List Pf) (G : List Gt) (grp a r : Int) : (cntV C P G grp a r).length ≤ C.length := by
  unfold cntV
  cases e : cntL C P G grp a r with
  | none => exact Nat.zero_le _
  | some vs =>
    unfold cntL at e
    split at e
    · have := (firstL_some.1 e).good.len
      show vs.length ≤ _
      omega
    · cases e
set_option maxRecDepth 20000 in
set_option maxHeartbeats 4000000 in
theorem rightsTells_fn (C : List Cm) (P : List Pf) (G : List Gt) (grp a r : Int) (p : Pf) (i : Int) : Ctr Try.prog 17 [.rs 2 C.length (rowsM C), .rs 3 P.length (rowsP P), .rs 3 G.length (rowsG G), .i .i64 grp, .i .i64 a, .i .i64 r, .ag p.av, .i .i64 i] [] (.b true) := by
  refine fn_of_exec tabOk Try.func17 (by kernel_rfl) rfl (N := Try.f17.ntmps) rfl (res := [.tmp 16]) rfl rfl [] ?_
  repeat refine Or.inl ?_
  refine ⟨[], _, smallR_fn, ?_⟩
  repeat refine Or.inl ?_
  refine ⟨[], _, few27_fn C P G, ?_⟩
  repeat refine Or.inl ?_
  refine ⟨fun _ => RetIs.b rfl, fun h => ?_⟩
  have h : (!((decide ((C.length : Int) ≤ 8) && decide ((P.length : Int) ≤ 10)) && decide ((G.length : Int) ≤ 12))) = false := h
  rw [Bool.not_eq_false', Bool.and_eq_true, Bool.and_eq_true, decide_eq_true_eq, decide_eq_true_eq, decide_eq_true_eq] at h
  obtain ⟨⟨hC, hP⟩, hG⟩ := h
  have c1 := cntV_len C P G grp a r
  have c2 := hldY_len C P G grp r
  have c3 := gainY_len C P G grp r p
  have c4 := lostY_len C P G grp r i
  repeat refine Or.inl ?_
  refine ⟨[], _, Holds_fn C P G (by omega) (by omega) (by omega) grp a r, ?_⟩
  repeat refine Or.inl ?_
  refine ⟨[], _, rHolds_fn C P G (by omega) (by omega) (by omega) grp a r, ?_⟩
  repeat refine Or.inl ?_
  refine ⟨_, _, Counter_u C P G (by omega) (by omega) (by omega) grp a r, ?_⟩
  repeat refine Or.inl ?_
  refine ⟨_, _, rCounter_u C P G (by omega) (by omega) (by omega) grp a r, ?_⟩
  repeat refine Or.inl ?_
  refine ⟨_, _, Holders_u C P G (by omega) (by omega) (by omega) grp r, ?_⟩
  repeat refine Or.inl ?_
  refine ⟨_, _, rHolders_u C P G (by omega) (by omega) (by omega) grp r, ?_⟩
  repeat refine Or.inl ?_
  refine ⟨[], _, fun _ => bools_same (cntV C P G grp a r) (by omega), ?_⟩
  repeat refine Or.inl ?_
  refine ⟨[], _, fun _ => ints26_same (hldY C P G grp r) (by omega), ?_⟩
  repeat refine Or.inl ?_
  refine ⟨fun h => ?_, fun _ => ?_⟩
  · exfalso
    have h : ((((((holdsY C P G grp a r != holdsY C P G grp a r) || (poseE C P G r != poseE C P G r)) || ((cntL C P G grp a r).isSome != (cntL C P G grp a r).isSome)) || !true) || (poseE C P G r != poseE C P G r)) || !true) = true := h
    rw [bne_self_eq_false, bne_self_eq_false, bne_self_eq_false] at h
    cases h
  repeat refine Or.inl ?_
  refine ⟨_, _, Gained_u C P G p (by omega) (by omega) (by omega) grp r, ?_⟩
  repeat refine Or.inl ?_
  refine ⟨_, _, rGained_u C P G p (by omega) (by omega) (by omega) grp r, ?_⟩
  repeat refine Or.inl ?_
  refine ⟨[], _, fun _ => ints26_same (gainY C P G grp r p).1 (by omega), ?_⟩
  repeat refine Or.inl ?_
  refine ⟨fun h => ?_, fun _ => ?_⟩
  · exfalso
    have h : (((gainY C P G grp r p).2 != (gainY C P G grp r p).2) || !true) = true := h
    rw [bne_self_eq_false] at h
    cases h
  repeat refine Or.inl ?_
  refine ⟨_, _, Lost_u C P G i (by omega) (by omega) (by omega) grp r, ?_⟩
  repeat refine Or.inl ?_
  refine ⟨_, _, rLost_u C P G i (by omega) (by omega) (by omega) grp r, ?_⟩
  repeat refine Or.inl ?_
  refine ⟨[], _, fun _ => ints26_same (lostY C P G grp r i).1 (by omega), ?_⟩
  refine RetIs.b ?_
  show ((true && ((lostY C P G grp r i).2 == (lostY C P G grp r i).2)) && true) = true
  rw [beq_self_eq_true]
  rfl
end Go.Proofs.Ytilhaifmfiobhaa
end
